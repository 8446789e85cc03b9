/-
  A part of the proof.
-/
import Derived.Test.YtchllohbglebiaaGreatDoorVgF
import Derived.IntWalk
import Derived.OpenShut
import Derived.Laws.IdiomStrings
set_option linter.unusedSimpArgs false
set_option linter.unusedVariables false
namespace Go.VG
open Go

theorem mZ(k:IntKind) (n:Int):k.min<=k.wrap n/\k.wrap n<=k.max:=by
 have h:(Lit.int k (k.wrap n)).wf=true:=wf_wrap k n;simpa[Lit.wf] using h

theorem YV{k:IntKind} {a:Int} (b:Int) (h:k.min<=a/\a<=k.max):k.min<=a.tmod b/\a.tmod b<=k.max:=by
 have hz:k.min<=0/\0<=k.max:=by cases k<;>simp[IntKind.min,IntKind.max,IntKind.signed,IntKind.bits]
 have:(0<=a->0<=a.tmod b/\a.tmod b<=a)/\(a<=0->a<=a.tmod b/\a.tmod b<=0):=by
  cases a with
  |ofNat m=>
    have hm:∀n:Nat,((m%n:Nat):Int)<=m:=fun n=>by exact_mod_cast Nat.mod_le m n
    cases b with
    |ofNat n=>
      have e:(Int.ofNat m).tmod (Int.ofNat n) =((m%n:Nat):Int):=rfl;rw[e];refine⟨fun _=>⟨by omega,hm n⟩,fun h=>?_⟩;have h0:m=0:=by have:(m:Int)<=0:=h;omega
      subst h0;simp
    |negSucc n=>
      have e:(Int.ofNat m).tmod (Int.negSucc n) =((m%(n+1):Nat):Int):=rfl;rw[e];refine⟨fun _=>⟨by omega,hm (n+1)⟩,fun h=>?_⟩;have h0:m=0:=by have:(m:Int)<=0:=h;omega
      subst h0;simp
  |negSucc m=>
    have hm:∀n:Nat,(((m+1)%n:Nat):Int)<=m+1:=fun n=>by exact_mod_cast Nat.mod_le (m+1) n
    have hneg:Int.negSucc m=-((m:Int)+1):=by omega
    cases b with
    |ofNat n=>
      have e:(Int.negSucc m).tmod (Int.ofNat n) =-(((m+1)%n:Nat):Int):=rfl;rw[e];have:=hm n;exact⟨fun h=>by omega,fun _=>⟨by omega,by omega⟩⟩
    |negSucc n=>
      have e:(Int.negSucc m).tmod (Int.negSucc n) =-(((m+1)%(n+1):Nat):Int):=rfl;rw[e];have:=hm (n+1);exact⟨fun h=>by omega,fun _=>⟨by omega,by omega⟩⟩
 rcases Int.le_total 0 a with h0|h0
 . have:=this.1 h0;omega
 . have:=this.2 h0;omega

theorem Yx{k:IntKind} {a:Int} (n:Nat) (h:k.min<=a/\a<=k.max):k.min<=a.fdiv (2^n)/\a.fdiv (2^n)<=k.max:=by
 have hz:k.min<=0/\0<=k.max:=by cases k<;>simp[IntKind.min,IntKind.max,IntKind.signed,IntKind.bits]
 have hp:(1:Int)<=2^n:=by
  have:1<=2^n:=Nat.one_le_two_pow
  exact_mod_cast this
 rw[Int.fdiv_eq_ediv_of_nonneg _ (by omega)];generalize (2:Int)^n=p at hp;rcases Int.le_total 0 a with h0|h0
 . have h1:a/p<=a:=Int.ediv_le_self p h0;have h2:0<=a/p:=Int.ediv_nonneg h0 (by omega);omega
 . have h1:a<=a/p:=by
     rw[Int.le_ediv_iff_mul_le (by omega)];have:=Int.mul_le_mul_of_nonpos_left h0 hp;omega
   have h2:a/p<=0:=by
    have:=Int.ediv_le_ediv (c:=p) (by omega) h0;simpa using this
   omega

theorem Dj{k k':IntKind}:fZ k k'=true↔k=k':=by cases k<;>cases k'<;>simp[fZ]

section
variable {C:Ctx} {E:Env} {st:St} {g:au} {s:AS} {a:Act} {w:World} {o:Oper} {e:Ef}

theorem gU{k:IntKind} {n:Int} {m:Nat} (h:k.min<=n/\n<=k.max):VR st g (.int k n) m (.int k n):=by simp only[VR];exact⟨trivial,h⟩
theorem fz{b:Bool} {m:Nat}:VR st g (.bool b) m (.bool b):=by simp[VR]

theorem yO{P:Program} {w:World} {t e:TypeId} (h:P.underlying t=some (.pointer e)) (v:Option Addr):(Op.equal t (.pointer none) (.pointer v)).run P w=.ok v.isNone w:=by
 have:∀d:Nat,(Op.equalIn (d+1) t (.pointer none) (.pointer v)).run P w=.ok v.isNone w:=fun d=>by simp[Op.equalIn,run_underlying h]
 exact this 9999
theorem I6{P:Program} {w:World} {t e:TypeId} (h:P.underlying t=some (.pointer e)) (v:Addr):(Op.equal t (.pointer (some v)) (.pointer none)).run P w=.ok false w:=by
 have:∀d:Nat,(Op.equalIn (d+1) t (.pointer (some v)) (.pointer none)).run P w=.ok false w:=fun d=>by simp[Op.equalIn,run_underlying h]
 exact this 9999
theorem I3{P:Program} {w:World} {t:TypeId} {ms:Array (String×TypeId)} (h:P.underlying t=some (.interface ms)) (u:TypeId) (z:Value):(Op.equal t (.iface u z) .nilIface).run P w=.ok false w:=by
 have:∀d:Nat,(Op.equalIn (d+1) t (.iface u z) .nilIface).run P w=.ok false w:=fun d=>by simp[Op.equalIn,run_underlying h]
 exact this 9999
theorem I4{P:Program} {w:World} {t:TypeId} {ms:Array (String×TypeId)} (h:P.underlying t=some (.interface ms)) (u:TypeId) (z:Value):(Op.equal t .nilIface (.iface u z)).run P w=.ok false w:=by
 have:∀d:Nat,(Op.equalIn (d+1) t .nilIface (.iface u z)).run P w=.ok false w:=fun d=>by simp[Op.equalIn,run_underlying h]
 exact this 9999
theorem Ep{P:Program} {w:World} {t:TypeId} {x y:Operand} {p q:Option Addr} {r:Bool} (h:(Op.equal t (.pointer p) (.pointer q)).run P w=.ok r w):
   (eqGuard .eql t x y (.pointer p) (.pointer q)>>=fun _=>binOp .eql t (.pointer p) (.pointer q)).run P w=.ok (.bool r) w:=by
 rw[eqGuard_at_pointer,pure_bind];show(Op.equal t (.pointer p) (.pointer q)>>=fun b=>pure (Value.bool b)).run P w=_;rw[Sem.run_bind,h];rfl
theorem Es{P:Program} {w:World} {t:TypeId} {x y:Operand} {p q:Option Addr} {r:Bool} (h:(Op.equal t (.pointer p) (.pointer q)).run P w=.ok r w):
   (eqGuard .neq t x y (.pointer p) (.pointer q)>>=fun _=>binOp .neq t (.pointer p) (.pointer q)).run P w=.ok (.bool (!r)) w:=by
 rw[eqGuard_at_pointer,pure_bind];show(Op.equal t (.pointer p) (.pointer q)>>=fun b=>pure (Value.bool (!b))).run P w=_;rw[Sem.run_bind,h];rfl
theorem XA{P:Program} {w:World} {t u:TypeId} {x y:Operand} {z:Value} {r:Bool} (h:(Op.equal t (.iface u z) .nilIface).run P w=.ok r w):
   (eqGuard .eql t x y (.iface u z) .nilIface>>=fun _=>binOp .eql t (.iface u z) .nilIface).run P w=.ok (.bool r) w:=by
 show(Op.equal t (.iface u z) .nilIface>>=fun b=>pure (Value.bool b)).run P w=_;rw[Sem.run_bind,h];rfl
theorem XC{P:Program} {w:World} {t u:TypeId} {x y:Operand} {z:Value} {r:Bool} (h:(Op.equal t (.iface u z) .nilIface).run P w=.ok r w):
   (eqGuard .neq t x y (.iface u z) .nilIface>>=fun _=>binOp .neq t (.iface u z) .nilIface).run P w=.ok (.bool (!r)) w:=by
 show(Op.equal t (.iface u z) .nilIface>>=fun b=>pure (Value.bool (!b))).run P w=_;rw[Sem.run_bind,h];rfl
theorem XB{P:Program} {w:World} {t u:TypeId} {x y:Operand} {z:Value} {r:Bool} (h:(Op.equal t .nilIface (.iface u z)).run P w=.ok r w):
   (eqGuard .eql t x y .nilIface (.iface u z)>>=fun _=>binOp .eql t .nilIface (.iface u z)).run P w=.ok (.bool r) w:=by
 show(Op.equal t .nilIface (.iface u z)>>=fun b=>pure (Value.bool b)).run P w=_;rw[Sem.run_bind,h];rfl
theorem XD{P:Program} {w:World} {t u:TypeId} {x y:Operand} {z:Value} {r:Bool} (h:(Op.equal t .nilIface (.iface u z)).run P w=.ok r w):
   (eqGuard .neq t x y .nilIface (.iface u z)>>=fun _=>binOp .neq t .nilIface (.iface u z)).run P w=.ok (.bool (!r)) w:=by
 show(Op.equal t .nilIface (.iface u z)>>=fun b=>pure (Value.bool (!b))).run P w=_;rw[Sem.run_bind,h];rfl

theorem s_bin{op:BinOp} {t yt:TypeId} {x y:Operand} (R:Rel E st g s a w) (hg:aL C.gl st) (G:Good C) (ho:o.op=.binOp op t x y yt):
   cw C E st g s a w o (fA (oT C op t (s.ev C x) (s.ev C y)) fun v=>ret (pe v)):=by
 have hx:=aR R hg x;have hy:=aR R hg y;suffices h:aa (fun v=>∃u,(eqGuard op t x y (a.eval x) (a.eval y)>>=fun _=>binOp op t (a.eval x) (a.eval y)).run C.P w=.ok u w/\VR st g v s.sg.length u) (oT C op t (s.ev C x) (s.ev C y)) by
  refine aa.bind (Ib _ _ _ _ _) fun v hv=>aa.ret ?_;obtain⟨u,h1,h2⟩:=h v (hv _ rfl);exact az.pure R u w (by simp only[execOp,ho];rw[Sem.run_bind,h1];rfl) (aQ.refl w) h2
 generalize s.ev C x=X at hx;generalize s.ev C y=Y at hy;generalize a.eval x=vx at hx;generalize a.eval y=vy at hy;unfold oT;split
 . simp only[VR] at hx hy;obtain⟨rfl,hxi⟩:=hx;obtain⟨rfl,hyi⟩:=hy;simp only[eqGuard_at_int,pure_bind];split
   . exact aa.aI fun h0=>aa.ret ⟨_,by simp only[binOp,Op.shift];rw[if_neg (by omega)];rfl,gU (mZ _ _)⟩
   . exact aa.aI fun h0=>aa.ret ⟨_,by simp only[binOp,Op.shift];rw[if_neg (by omega)];rfl,gU (Yx _ hxi)⟩
   all_goals
    refine aa.when fun hk=>?_;have hk:=Dj.1 hk;subst hk
   . exact aa.ret ⟨_,by simp[binOp,Op.intArith],gU (mZ _ _)⟩
   . exact aa.ret ⟨_,by simp[binOp,Op.intArith],gU (mZ _ _)⟩
   . exact aa.ret ⟨_,by simp[binOp,Op.intArith],gU (mZ _ _)⟩
   . exact aa.aI fun h0=>aa.ret ⟨_,by simp[binOp,Op.intDiv,h0],gU (mZ _ _)⟩
   . exact aa.aI fun h0=>aa.ret ⟨_,by simp[binOp,Op.intDiv,h0],gU (YV _ hxi)⟩
   . exact aa.ret ⟨_,by simp only[binOp,Op.intBits,ne_eq,not_true_eq_false,if_false];rfl,gU (mZ _ _)⟩
   . exact aa.ret ⟨_,by simp only[binOp,Op.intBits,ne_eq,not_true_eq_false,if_false];rfl,gU (mZ _ _)⟩
   . exact aa.ret ⟨_,by simp only[binOp,Op.intBits,ne_eq,not_true_eq_false,if_false];rfl,gU (mZ _ _)⟩
   . exact aa.ret ⟨_,by simp only[binOp,Op.intBits,ne_eq,not_true_eq_false,if_false];rfl,gU (mZ _ _)⟩
   all_goals exact aa.ret ⟨_,by simp only[binOp,Op.intCmp,ne_eq,not_true_eq_false,if_false];rfl,fz⟩
 . rename_i p q;simp only[VR] at hx hy;obtain⟨rfl,hxi⟩:=hx;obtain⟨rfl,hyi⟩:=hy;simp only[eqGuard_at_string,pure_bind];split
   . refine aa.aI fun h0=>aa.ret ⟨.string ⟨(p++q).toArray⟩,?_,by simp only[VR];exact⟨trivial,by simp only[an,maxLen];omega⟩⟩;have h1:(⟨p.toArray⟩:ByteArray).size=p.length:=by show p.toArray.size=_;simp
     have h2:(⟨q.toArray⟩:ByteArray).size=q.length:=by show q.toArray.size=_;simp
     have h3:(⟨p.toArray⟩:ByteArray)++⟨q.toArray⟩=⟨(p++q).toArray⟩:=by
      apply ByteArray.ext;simp
     simp only[binOp,Op.stringOp,h1,h2,h3];rw[if_neg (by simp;omega)];rfl
   all_goals first
    |exact aa.fail
    |exact aa.ret ⟨_,by simp only[binOp,Op.stringOp,ByteArray.toList_mk];rfl,fz⟩
 . rename_i p q;simp only[VR] at hx hy;subst hx;subst hy;simp only[eqGuard_at_bool,pure_bind];split
   . rename_i hk;have h3:=((G.ti t).of (by rw[hk];simp)).1;rw[hk] at h3;exact aa.ret ⟨_,run_eql_bool w t p q h3,fz⟩
   . rename_i hk;have h3:=((G.ti t).of (by rw[hk];simp)).1;rw[hk] at h3;exact aa.ret ⟨_,run_neq_bool w t p q h3,fz⟩
   . exact aa.fail
 . rename_i p q;simp only[VR] at hx hy;obtain⟨vp,rfl,hx⟩:=hx;obtain⟨vq,rfl,hy⟩:=hy;split
   . exact aa.fail
   . exact aa.fail
   rename_i hk hkm;have hk:(C.ti t).k≠.other:=fun h=>hk h;refine aa.when fun hw=>aa.opt fun r hr=>?_;simp only[zza] at hw;obtain⟨hf,hf2,hl⟩:=hw;have hl:=aB hl;have hne:(C.ti t).feq≠[]:=fun e=>by rw[e] at hf;cases hf
   have fl:∀{xs:List V},CI (C.ti t).feq xs=true->cP (C.ti t).feq xs=true:=fun{xs} h=>by
    cases e:(C.ti t).feq with
    |nil=>exact absurd e hne
    |cons k ks=>rw[e] at h;exact h
   have hfe:BV C.P t (C.ti t).feq:=by
    have h0:=((G.ti t).of hk).2.2 hne;cases hkk:(C.ti t).k with
    |map a b=>exact absurd hkk (fun q=>hkm _ _ q)
    |_=>rw[hkk] at h0;exact h0
   obtain⟨h1,h2⟩:=hfe st g s.sg.length p q r vp vq w (fl hf) (fl hf2) hr (by rw[Ce (G.ti t) hk];exact hl) hx hy;split
   . exact aa.ret ⟨_,by simp[eqGuard,binOp,h1,h2],fz⟩
   . exact aa.ret ⟨_,by simp[eqGuard,binOp,h1,h2],fz⟩
   . exact aa.fail
 . simp only[VR] at hx hy;subst hx;subst hy;split
   . rename_i e hk;have h3:=((G.ti t).of (by rw[hk];simp)).1;rw[hk] at h3;exact aa.ret ⟨_,Ep (yO h3 none),fz⟩
   . rename_i e hk;have h3:=((G.ti t).of (by rw[hk];simp)).1;rw[hk] at h3;exact aa.ret ⟨_,Es (yO h3 none),fz⟩
   . exact aa.fail
 iterate 6
  . have hp:(∃ad,vx=.pointer (some ad)/\vy=.pointer none)\/(∃ad,vx=.pointer none/\vy=.pointer (some ad)):=by
      simp only[VR] at hx hy;first
       |(subst hy;obtain⟨_,_,_,rfl⟩:=hx;exact .inl ⟨_,rfl,rfl⟩)
       |(subst hx;obtain⟨_,_,_,rfl⟩:=hy;exact .inr ⟨_,rfl,rfl⟩)
       |(subst hy;obtain⟨_,_,_,rfl,_⟩:=hx;exact .inl ⟨_,rfl,rfl⟩)
       |(subst hx;obtain⟨_,_,_,rfl,_⟩:=hy;exact .inr ⟨_,rfl,rfl⟩)
    split
    . rename_i e hk;have h3:=((G.ti t).of (by rw[hk];simp)).1;rw[hk] at h3;rcases hp with ⟨ad,rfl,rfl⟩|⟨ad,rfl,rfl⟩
      . exact aa.ret ⟨_,Ep (I6 h3 ad),fz⟩
      . exact aa.ret ⟨_,Ep (yO h3 (some ad)),fz⟩
    . rename_i e hk;have h3:=((G.ti t).of (by rw[hk];simp)).1;rw[hk] at h3;rcases hp with ⟨ad,rfl,rfl⟩|⟨ad,rfl,rfl⟩
      . exact aa.ret ⟨_,Es (I6 h3 ad),fz⟩
      . exact aa.ret ⟨_,Es (yO h3 (some ad)),fz⟩
    . exact aa.fail
 iterate 2
  . have hp:(∃u z,vx=.iface u z/\vy=.nilIface)\/(∃u z,vx=.nilIface/\vy=.iface u z):=by
      simp only[VR] at hx hy;first
       |(subst hy;obtain⟨_,rfl,_⟩:=hx;exact .inl ⟨_,_,rfl,rfl⟩)
       |(subst hx;obtain⟨_,rfl,_⟩:=hy;exact .inr ⟨_,_,rfl,rfl⟩)
    split
    . rename_i hk;have h3:=((G.ti t).of (by rw[hk];simp)).1;rw[hk] at h3;obtain⟨ms,h3⟩:=h3;rcases hp with ⟨u,z,rfl,rfl⟩|⟨u,z,rfl,rfl⟩
      . exact aa.ret ⟨_,XA (I3 h3 u z),fz⟩
      . exact aa.ret ⟨_,XB (I4 h3 u z),fz⟩
    . rename_i hk;have h3:=((G.ti t).of (by rw[hk];simp)).1;rw[hk] at h3;obtain⟨ms,h3⟩:=h3;rcases hp with ⟨u,z,rfl,rfl⟩|⟨u,z,rfl,rfl⟩
      . exact aa.ret ⟨_,XC (I3 h3 u z),fz⟩
      . exact aa.ret ⟨_,XD (I4 h3 u z),fz⟩
    . exact aa.fail
 . exact aa.fail
theorem I5{P:Program} {w:World} {t:TypeId} {ms:Array (String×TypeId)} (h:P.underlying t=some (.interface ms)):(Op.equal t .nilIface .nilIface).run P w=.ok true w:=by
 have:∀d:Nat,(Op.equalIn (d+1) t .nilIface .nilIface).run P w=.ok true w:=fun d=>by simp[Op.equalIn,run_underlying h]
 exact this 9999
theorem VU(R:Rel E st g s a w) (hg:aL C.gl st) {x y:Operand} (h:xm x y (s.ev C x) (s.ev C y) =true):(a.eval x=.nilIface/\a.eval y=.nilIface)/\((∃v,x=.const v)\/∃v,y=.const v):=by
 have hx:=aR R hg x;have hy:=aR R hg y;have hn:∀{u:V} {v:Value},VR st g u s.sg.length v->D7 u=true->v=.nilIface:=fun{u v} hv hu=>by
  cases u with
  |nilIface=>simpa only[VR] using hv
  |_=>cases hu
 unfold xm at h;split at h
 . exact⟨⟨rfl,hn hy h⟩,.inl ⟨_,rfl⟩⟩
 . exact⟨⟨hn hx h,rfl⟩,.inr ⟨_,rfl⟩⟩
 . cases h
theorem XM{op:BinOp} {t yt:TypeId} {x y:Operand} (R:Rel E st g s a w) (hg:aL C.gl st) (G:Good C) (ho:o.op=.binOp op t x y yt):
   cw C E st g s a w o (cond (xm x y (s.ev C x) (s.ev C y)) (rP C op t) (fA (oT C op t (s.ev C x) (s.ev C y)) fun v=>ret (pe v))):=by
 cases hc:xm x y (s.ev C x) (s.ev C y) with
 |false=>exact s_bin R hg G ho
 |true=>
   obtain⟨⟨hx,hy⟩,hm⟩:=VU R hg hc;have hq:∀op,(eqGuard op t x y .nilIface .nilIface).run C.P w=.ok () w:=fun op=>by
    unfold eqGuard;clear hx hy hc ho;rcases hm with ⟨v,rfl⟩|⟨v,rfl⟩<;>cases op<;>simp
   have key:∀b:Bool,(eqGuard op t x y .nilIface .nilIface>>=fun _=>binOp op t .nilIface .nilIface).run C.P w=.ok (.bool b) w->(execOp a.eval o).run C.P w=.ok (.value (.bool b)) w:=fun b h=>by
    simp only[execOp,ho,hx,hy];rw[Sem.run_bind,h];rfl
   show cw C E st g s a w o (rP C op t);unfold rP;split
   . rename_i hk;have h3:=((G.ti t).of (by rw[hk];simp)).1;rw[hk] at h3;obtain⟨ms,h3⟩:=h3;refine aa.ret (az.pure R _ w (key true ?_) (aQ.refl w) fz);rw[Sem.run_bind,hq];show(Op.equal t .nilIface .nilIface>>=fun b=>pure (Value.bool b)).run C.P w=_;rw[Sem.run_bind,I5 h3];rfl
   . rename_i hk;have h3:=((G.ti t).of (by rw[hk];simp)).1;rw[hk] at h3;obtain⟨ms,h3⟩:=h3;refine aa.ret (az.pure R _ w (key false ?_) (aQ.refl w) fz);rw[Sem.run_bind,hq];show(Op.equal t .nilIface .nilIface>>=fun b=>pure (Value.bool (!b))).run C.P w=_;rw[Sem.run_bind,I5 h3];rfl
   . exact aa.fail
end
end Go.VG
namespace Go.VG
open Go

section
variable {C:Ctx} {E:Env} {st:St} {g:au} {s:AS} {a:Act} {w:World} {o:Oper} {e:Ef}

theorem s_un{op:UnOp} {t:TypeId} {x:Operand} (R:Rel E st g s a w) (hg:aL C.gl st) (ho:o.op=.unOp op t x):
   cw C E st g s a w o (fA (wv op (s.ev C x)) fun v=>ret (pe v)):=by
 have hx:=aR R hg x;refine aa.bind (Ij _ _) fun v hv=>aa.ret ?_;have hv:=hv (fun u=>u=v) rfl;unfold wv at hv;cases hX:s.ev C x<;>cases op<;>simp only[hX] at hv<;>first
  |exact hv.elim
  |skip
 all_goals
  rw[hX] at hx;simp only[VR] at hx;cases hv
 case int.neg k n=>exact az.pure R _ w (by simp[execOp,ho,hx.1,Op.unary,Op.intArith]) (aQ.refl w) (gU (mZ _ _))
 case int.xor k n=>exact az.pure R _ w (by simp only[execOp,ho,hx.1,Op.unary,Op.intBits];rfl) (aQ.refl w) (gU (mZ _ _))
 case bool.not b=>exact az.pure R _ w (by simp[execOp,ho,hx,Op.unary]) (aQ.refl w) fz

theorem Om(s:gA) (i:Nat):(⟨s.toArray⟩:ByteArray)[i]?=s[i]?:=by
 by_cases h:i<s.length
 . have h':i<(⟨s.toArray⟩:ByteArray).size:=by show i<s.toArray.size;simpa using h
   rw[ByteArray.getElem?_lt' _ _ h',am h];rfl
 . have h':¬i<(⟨s.toArray⟩:ByteArray).size:=by show¬i<s.toArray.size;simpa using h
   rw[ByteArray.getElem?_ge' _ _ h',ci (by omega)]

theorem Ca(b:UInt8):IntKind.u8.min<=(b.toNat:Int)/\(b.toNat:Int)<=IntKind.u8.max:=by
 have:=b.toNat_lt;simp[IntKind.min,IntKind.max,IntKind.signed,IntKind.bits];omega

theorem Y0{t:TypeId} {x ix:Operand} (R:Rel E st g s a w) (hg:aL C.gl st) (G:Good C) (ho:o.op=.index t x ix):cw C E st g s a w o (wo C s t x ix):=by
 unfold wo;simp only[nq];have hx:=aR R hg x;have hi:=aR R hg ix;split
 . rename_i p k n hk he hn;rw[he] at hx;rw[hn] at hi;simp only[VR] at hx hi;have h3:=((G.ti t).of (by rw[hk];simp)).1;rw[hk] at h3;refine aa.aI fun h0=>aa.opt fun b hb=>aa.ret (az.pure R (.int .u8 b.toNat) w ?_ (aQ.refl w) (gU (Ca b)));have hb':(⟨p.toArray⟩:ByteArray)[n.toNat]?=some b:=by rw[Om];exact hb
   simp[execOp,ho,hx.1,hi.1,Instr.index,asIntOf,run_underlying h3,h0,hb']
 . rename_i m e cs k n hk he hn;rw[he] at hx;rw[hn] at hi;simp only[VR] at hx hi;obtain⟨vs,hx,hc⟩:=hx;have h3:=((G.ti t).of (by rw[hk];simp)).1;rw[hk] at h3;split
   . exact aa.fail
   rename_i hk2;refine aa.aI fun h0=>aa.bind (nz _ _ _ _) fun v hv=>?_;rw[force_eq];obtain⟨u,h8,h9⟩:=Mj (w:=w) G (fun h=>hk2 h) hc hv;refine aa.ret (az.pure R u w ?_ (aQ.refl w) h9);simp[execOp,ho,hx,hi.1,Instr.index,asIntOf,run_underlying h3,h0,gj w (G.ti e) (fun h=>hk2 h),h8]
 . exact aa.fail

theorem Od{l:List V} {sz b o:Nat} (h:cn st g l sz (st b) o) {i:Nat} {y:V} (hy:l[i]?=some y) (hu:y.eZ=false):
   VR st g (.box y.cells 0) 0 (.pointer (some ⟨b,o+i*sz,none⟩)):=by
 obtain⟨u,r1,r2,r3,r4⟩:=gV.1 h i y hy;have r5:=kp r1 hu;simp only[VR];refine⟨b,o+i*sz,u.cells.toList,rfl,r5,fun j hj=>?_⟩;have:=r4 j (by rw[<-r2];simpa using hj);simpa using this

theorem Y1{t:TypeId} {x ix:Operand} (R:Rel E st g s a w) (hg:aL C.gl st) (G:Good C) (ho:o.op=.indexAddr t x ix):cw C E st g s a w o (tP C s t x ix):=by
 unfold tP;simp only[nq];have hx:=aR R hg x;have hi:=aR R hg ix;split
 . rename_i e clip sz l k n hk he hn;rw[he] at hx;rw[hn] at hi;simp only[VR] at hx hi;obtain⟨base,cap,hx,h1,h2,h3,h4⟩:=hx;have h5:=((G.ti t).of (by rw[hk];simp)).1;rw[hk] at h5;split
   . exact aa.fail
   rename_i hk2;refine aa.when fun hsz=>aa.aI fun h0=>aa.opt fun y hy=>aa.when fun hu=>aa.ret ?_;have hsz:=aB hsz;have hlt:n.toNat<l.length:=by
    rcases d7 n.toNat l.length with h'|h'
    . exact h'
    . simp[ci h'] at hy
   rcases h4 with h4|⟨b,of,h6,h7,h8⟩
   . subst h4;simp at hlt
   . refine az.pure R (.pointer (some ⟨b,of+n.toNat*sz,none⟩)) w ?_ (aQ.refl w) (gC (fun _ _ _ h=>h) (fun i _ hi=>absurd hi (Nat.not_lt_zero _)) (Od h8 hy (by simpa using hu)));have hlt':n<(l.length:Int):=by omega
     simp[execOp,ho,hx,hi.1,Instr.indexAt,asIntOf,run_underlying h5,h0,hlt',h6,gj w (G.ti e) (fun h=>hk2 h),<-hsz,Addr.add_lit]
 . rename_i e i k n hk he hn;rw[he] at hx;rw[hn] at hi;simp only[VR] at hx hi;obtain⟨hil,hx⟩:=hx;have h5:=((G.ti t).of (by rw[hk];simp)).1;rw[hk] at h5;split
   . exact aa.fail
   rename_i hk2;split
   . rename_i sz pre l hs;obtain⟨hs1,_⟩:=eY hs (by simp);obtain⟨q1,q2,q3,q4,q5,q6,q7⟩:=R.wr.ob i _ hs1;refine aa.when fun hsz=>aa.aI fun h0=>aa.ret ?_;have hsz:=aB hsz;rcases q7 with ⟨q7,_⟩|⟨b',c,el,fr,k1,k2,k3,k4,k5,k6,_⟩
     . exact absurd h0.2 (by omega)
     . refine az.pure R (.pointer (some ⟨b',n.toNat*sz,none⟩)) w ?_ (aQ.refl w) (by simp only[VR];exact⟨hil,b',k1,by rw[q2,Nat.add_zero]⟩);have hlt':n<((g i).len:Int):=by omega
       simp[execOp,ho,hx,hi.1,Instr.indexAt,asIntOf,run_underlying h5,h0.1,hlt',k2,gj w (G.ti e) (fun h=>hk2 h),<-hsz,Addr.add_lit]
   . exact aa.fail
 . rename_i m e i off k n hk he hn;rw[he] at hx;rw[hn] at hi;simp only[VR] at hx hi;obtain⟨hil,b,hb,hx⟩:=hx;have h5:=((G.ti t).of (by rw[hk];simp)).1;rw[hk] at h5;split
   . exact aa.fail
   rename_i hk2;refine aa.aI fun h0=>?_;rw[dN];refine aa.ret (az.pure R (.pointer (some ⟨b,off+n.toNat*(C.ti e).size,none⟩)) w ?_ (aQ.refl w) (by simp only[VR];exact⟨hil,b,hb,rfl⟩));simp[execOp,ho,hx,hi.1,Instr.indexAt,asIntOf,run_underlying h5,h0,Instr.sureAddr,gj w (G.ti e) (fun h=>hk2 h),Addr.add_lit]
 . rename_i m e cs off k n hk he hn;rw[he] at hx;rw[hn] at hi;simp only[VR] at hx hi;obtain⟨b,of,vs,hx,h1,h2⟩:=hx;have h5:=((G.ti t).of (by rw[hk];simp)).1;rw[hk] at h5;split
   . exact aa.fail
   rename_i hk2;refine aa.aI fun h0=>?_;rw[dN];refine aa.ret (az.pure R (.pointer (some ⟨b,of+off+n.toNat*(C.ti e).size,none⟩)) w ?_ (aQ.refl w) (by simp only[VR];exact⟨b,of,vs,by rw[Nat.add_assoc],h1,h2⟩));simp[execOp,ho,hx,hi.1,Instr.indexAt,asIntOf,run_underlying h5,h0,Instr.sureAddr,gj w (G.ti e) (fun h=>hk2 h),Addr.add_lit]
 . exact aa.fail

theorem XL{x:Operand} {t0 t:TypeId} {ok:Bool} (R:Rel E st g s a w) (hg:aL C.gl st) (G:Good C) (ho:o.op=.typeAssert x t0 t ok):cw C E st g s a w o (wi C s x t ok):=by
 unfold wi;have hx:=aR R hg x;have hz:(C.ti t).k≠.other->∃z,(zeroValue t).run C.P w=.ok z w/\∀(st:St) (g:au) (n:Nat),VR st g (C.ti t).zero n z:=fun h=>Ap w (G.ti t) h;split
 . exact aa.fail
 . exact aa.fail
 . rename_i u v he h1 h2;rw[he] at hx;simp only[VR] at hx;obtain⟨v',hx,hv⟩:=hx;have hk:(C.ti t).k≠.other:=fun h=>h1 h;obtain⟨d,hd,hni⟩:∃d,C.P.underlying t=some d/\∀ms,d≠.interface ms:=by
    have h3:=((G.ti t).of hk).1;cases hk':(C.ti t).k<;>rw[hk'] at h3<;>simp only[TK.ok] at h3
    case struct fs=>obtain⟨f,h3,_⟩:=h3;exact⟨_,h3,by simp⟩
    case iface=>exact absurd hk' (fun h=>h2 h)
    case func=>obtain⟨p,q,r,h3⟩:=h3;exact⟨_,h3,by simp⟩
    all_goals exact⟨_,h3,by simp⟩
   obtain⟨z,hz1,hz2⟩:=hz hk;have hr:∀(b:Bool),Nat.beq u t=b->(Instr.typeAssert (.iface u v') t0 t ok).run C.P w=(if b then .ok (if ok then .tuple #[v',.bool true] else v') w else if ok then .ok (.tuple #[z,.bool false]) w else(Instr.typeAssert (.iface u v') t0 t ok).run C.P w):=fun b hb=>by
    cases b with
    |true=>
      have:=aB hb;subst this;unfold Instr.typeAssert;cases d<;>first
       |(rename_i ms;exact absurd rfl (hni ms))
       |simp[run_underlying hd]
    |false=>
      cases ok with
      |false=>rfl
      |true=>
        have hne:u≠t:=fun h=>by subst h;rw[Nat.beq_refl] at hb;cases hb
        unfold Instr.typeAssert;cases d<;>first
         |(rename_i ms;exact absurd rfl (hni ms))
         |simp[run_underlying hd,hne,hz1]
   split
   . rename_i hb;have h4:=hr true hb;exact aa.ret (az.pure R _ w (by simp[execOp,ho,hx,h4];rfl) (aQ.refl w) (by simp only[VR];exact⟨_,rfl,cy hv (cy fz dM)⟩))
   . rename_i hb;have h4:=hr true hb;exact aa.ret (az.pure R _ w (by simp[execOp,ho,hx,h4]) (aQ.refl w) hv)
   . rename_i hb;have h4:=hr false hb;rw[force_eq];exact aa.when fun hu=>aa.ret (az.pure R _ w (by simp[execOp,ho,hx,h4];rfl) (aQ.refl w) (by simp only[VR];exact⟨_,rfl,cy (hz2 _ _ _) (cy fz dM)⟩))
   . exact aa.fail
 . rename_i he h1 h2;rw[he] at hx;simp only[VR] at hx;have hk:(C.ti t).k≠.other:=fun h=>h1 h;obtain⟨d,hd,hni⟩:∃d,C.P.underlying t=some d/\∀ms,d≠.interface ms:=by
    have h3:=((G.ti t).of hk).1;cases hk':(C.ti t).k<;>rw[hk'] at h3<;>simp only[TK.ok] at h3
    case struct fs=>obtain⟨f,h3,_⟩:=h3;exact⟨_,h3,by simp⟩
    case iface=>exact absurd hk' (fun h=>h2 h)
    case func=>obtain⟨p,q,r,h3⟩:=h3;exact⟨_,h3,by simp⟩
    all_goals exact⟨_,h3,by simp⟩
   obtain⟨z,hz1,hz2⟩:=hz hk;split
   . rw[force_eq];have hr:(Instr.typeAssert .nilIface t0 t true).run C.P w=.ok (.tuple #[z,.bool false]) w:=by
      unfold Instr.typeAssert;cases d<;>first
       |(rename_i ms;exact absurd rfl (hni ms))
       |simp[run_underlying hd,hz1]
     exact aa.when fun hu=>aa.ret (az.pure R _ w (by simp[execOp,ho,hx,hr];rfl) (aQ.refl w) (by simp only[VR];exact⟨_,rfl,cy (hz2 _ _ _) (cy fz dM)⟩))
   . exact aa.fail
 . exact aa.fail
end
end Go.VG
namespace Go.VG
open Go

section
variable {C:Ctx} {E:Env} {st:St} {g:au} {s:AS} {a:Act} {w:World} {o:Oper} {e:Ef}

theorem Ah{len:Nat} {lo hi:Option Operand} (R:Rel E st g s a w) (hg:aL C.gl st):
   aa (fun r=>∃l h:Nat,l<=h/\h<=len/\(∀(isSlice:Bool) (cap:Nat),len<=cap->(Instr.sliceBounds isSlice len cap (lo.map a.eval) (hi.map a.eval) none).run C.P w=.ok (l,h,cap) w)/\
    (∀{α:Type} (xs:List α),xs.length=len->tv xs r=(xs.take h).drop l)) (kz C s len lo hi):=by
 have hv:=aR (C:=C) R hg;unfold kz;split
 . exact aa.ret ⟨0,len,by omega,by omega,fun b cap hc=>by simp[Instr.sliceBounds],fun xs hx=>by simp[tv,<-hx]⟩
 . rename_i l;split
   . rename_i k n he;have h1:=hv l;rw[he] at h1;simp only[VR] at h1;refine aa.aI fun h0=>aa.ret ⟨n.toNat,len,by omega,by omega,fun b cap hc=>?_,fun xs hx=>by simp[tv,<-hx]⟩;simp[Instr.sliceBounds,h1.1,run_sliceBound _ k n len _ h0.1 h0.2]
   . exact aa.fail
 . rename_i h;split
   . rename_i k n he;have h1:=hv h;rw[he] at h1;simp only[VR] at h1;refine aa.aI fun h0=>aa.ret ⟨0,n.toNat,by omega,by omega,fun b cap hc=>?_,fun xs hx=>by simp[tv]⟩;simp[Instr.sliceBounds,h1.1,run_sliceBound _ k n cap _ h0.1 (by omega)]
   . exact aa.fail
 . rename_i l h;split
   . rename_i k n k' n' he he';have h1:=hv l;have h2:=hv h;rw[he] at h1;rw[he'] at h2;simp only[VR] at h1 h2;refine aa.aI fun h0=>aa.ret ⟨n.toNat,n'.toNat,by omega,by omega,fun b cap hc=>?_,fun xs hx=>by simp[tv]⟩;simp[Instr.sliceBounds,h1.1,h2.1,run_sliceBound _ k' n' cap _ (by omega) (by omega),run_sliceBound _ k n n'.toNat _ h0.1 (by omega)]
   . exact aa.fail

theorem Hb(s:gA) (l h:Nat):(⟨s.toArray⟩:ByteArray).extract l h=⟨((s.take h).drop l).toArray⟩:=by
 apply ByteArray.ext;simp[List.extract_eq_take_drop,List.drop_take]

theorem Of{l:List V} {sz b o:Nat} (h:cn st g l sz (st b) o) (k:Nat):cn st g (l.drop k) sz (st b) (o+k*sz):=by
 rw[gV] at h⊢;intro i x hx;rw[List.getElem?_drop] at hx;obtain⟨u,h1,h2,h3,h4⟩:=h (k+i) x hx;refine⟨u,h1,h2,h3,fun j hj=>?_⟩;have:=h4 j hj;rw[Nat.add_mul] at this;rw[<-this];congr 1;omega
theorem BY{l:List V} {sz:Nat} {look:Nat->Option Value} {o:Nat} (h:cn st g l sz look o) (k:Nat):cn st g (l.take k) sz look o:=by
 rw[gV] at h⊢;intro i x hx;rw[List.getElem?_take] at hx;split at hx
 . exact h i x hx
 . cases hx

theorem sL{sz esz:Nat} {l:List V} (h:jN sz esz l=true):sz=esz\/l=[]:=by
 unfold jN at h;split at h
 . rename_i hb;exact .inl (aB hb)
 . split at h
   . exact .inr rfl
   . cases h

theorem td(s:AS) (d:Option Nat) (x:V) (ks:List Nat) (i:Nat) (ob:O) (rd:List Nat):(s.app d ⟨x,ks,[(i,ob)],[],rd⟩).sg=(s.sg.map (O.kill ks)).set i ob:=by
 simp[AS.app,sc,dd,jS,jD]

def c9(st:St) (b:Nat) (c:Array Value):St:=fun b' o=>if b'=b then c[o]? else st b' o
theorem az.freeze{x:V} {rd:List Nat} {i:Nat} {b:Nat} {c:Array Value} {el:TypeId} {fr:Nat×Nat} (R:Rel E st g s a w) (hi:i<s.sg.length) (hb:(g i).blk=some b) (hG:E.G b)
   (hw:w.heap[b]?=some (.cells c el fr)) (v:Value) (hr:(execOp a.eval o).run C.P w=.ok (.value v) w) (hv:VR (c9 st b c) g x s.sg.length v):
   az C E st g s a w o ⟨x,[i],[(i,.dead)],[],rd⟩:=by
 have hlen:(s.app o.dst ⟨x,[i],[(i,.dead)],[],rd⟩).sg.length=s.sg.length:=by rw[td];simp
 have hmono:∀b' o' v',st b' o'=some v'->c9 st b c b' o'=some v':=fun b' o' v' h=>by
  simp only[c9];split
  . rename_i e;subst e;rw[<-gZ hw];exact R.wr.stw _ _ _ h
  . exact h
 have hg:aX g i (g i) =g:=by funext j;simp only[aX];split<;>simp_all
 have A:kn E st g s.sg.length (c9 st b c) g (s.app o.dst ⟨x,[i],[(i,.dead)],[],rd⟩).sg.length [i]:=by
  rw[hlen];exact⟨hmono,fun _ _ _=>rfl,cb _⟩
 have W:=R.wr.j9 (st':=c9 st b c) (w':=w) i hi [i] (g i) .dead
  ⟨rfl,rfl,rfl,cb _,fun _ _ _=>rfl,fun b' hb'=>(R.wr.cH hi hb').2,hmono,fun b' o' v' h=>by
   simp only[c9] at h;split at h
   . rename_i e;subst e;exact .inr ⟨hG,by rw[gZ hw];exact h⟩
   . exact .inl h,fun b' o' v' hb' h=>R.wr.stw _ _ _ h⟩
  (.inl rfl) (fun b' hb'=>.inl hb') (fun j b' hj hne hb' o' v' h=>by
   simp only[c9] at h;split at h
   . rename_i e;subst e;exact absurd (R.wr.inj j i b' hj hi hb' hb) hne
   . exact h) (fun b' hb'=>R.wr.cH hi hb')
 rw[hg] at W;refine az.val v w _ g hr A ?_ (by rw[hlen];exact hv);rw[td];exact W

theorem az.j9{x:V} {ks rd:List Nat} {i:Nat} {ob:O} (R:Rel E st g s a w) (hi:i<s.sg.length) (v:Value) (w':World) (gi:Gh)
   (hr:(execOp a.eval o).run C.P w=.ok (.value v) w'\/((execOp a.eval o).run C.P w=.ok .skip w'/\v=undef))
   (c:dg E st st w w' (fun b=>(g i).blk=some b)) (hks:gi=g i\/aH i ks=true) (hblk:∀b,gi.blk=some b->(g i).blk=some b\/b=w.heap.size)
   (ho:dK E st (aX g i gi) s.sg.length w' gi ob) (hv:VR st (aX g i gi) x s.sg.length v):az C E st g s a w o ⟨x,ks,[(i,ob)],[],rd⟩:=by
 have hlen:(s.app o.dst ⟨x,ks,[(i,ob)],[],rd⟩).sg.length=s.sg.length:=by rw[td];simp
 have A:kn E st g s.sg.length st (aX g i gi) (s.app o.dst ⟨x,ks,[(i,ob)],[],rd⟩).sg.length ks:=by
  rw[hlen];refine⟨fun _ _ _ h=>h,fun j hj hm=>?_,cb _⟩;by_cases e:j=i
  . subst e;rw[dU];rcases hks with h|h
    . exact h
    . rw[hm] at h;cases h
  . exact cK e
 have W:aF E st (aX g i gi) (s.app o.dst ⟨x,ks,[(i,ob)],[],rd⟩).sg w':=by
  rw[td];exact R.wr.j9 i hi ks gi ob c hks hblk (fun _ _ _ _ _ _ _ h=>h) ho
 rcases hr with hr|⟨hr,rfl⟩
 . exact az.val v w' st _ hr A W (by rw[hlen];exact hv)
 . exact az.skip w' st _ hr A W (by rw[hlen];exact hv)

def lY(st:St) (b:Nat) (c:Array Value) (m:Nat):St:=fun b' o=>if b'=b/\o<m then c[o]? else st b' o
theorem az.snap{x:V} {rd:List Nat} {i:Nat} {b:Nat} {c:Array Value} {el:TypeId} {fr:Nat×Nat} {m:Nat} {ob:O} (R:Rel E st g s a w) (hi:i<s.sg.length) (hb:(g i).blk=some b) (hG:E.G b)
   (hw:w.heap[b]?=some (.cells c el fr)) (v:Value) (hr:(execOp a.eval o).run C.P w=.ok (.value v) w) (hv:(∀b' o' v',st b' o'=some v'->lY st b c m b' o'=some v')->VR (lY st b c m) g x s.sg.length v)
   (ho:(∀b' o' v',st b' o'=some v'->lY st b c m b' o'=some v')->dK E (lY st b c m) g s.sg.length w (g i) ob):
   az C E st g s a w o ⟨x,[],[(i,ob)],[],rd⟩:=by
 have hlen:(s.app o.dst ⟨x,[],[(i,ob)],[],rd⟩).sg.length=s.sg.length:=by rw[td];simp
 have hmono:∀b' o' v',st b' o'=some v'->lY st b c m b' o'=some v':=fun b' o' v' h=>by
  simp only[lY];split
  . rename_i e;obtain⟨rfl,_⟩:=e;rw[<-gZ hw];exact R.wr.stw _ _ _ h
  . exact h
 have hg:aX g i (g i) =g:=by funext j;simp only[aX];split<;>simp_all
 have A:kn E st g s.sg.length (lY st b c m) g (s.app o.dst ⟨x,[],[(i,ob)],[],rd⟩).sg.length []:=by
  rw[hlen];exact⟨hmono,fun _ _ _=>rfl,cb _⟩
 have W:=R.wr.j9 (st':=lY st b c m) (w':=w) i hi [] (g i) ob
  ⟨rfl,rfl,rfl,cb _,fun _ _ _=>rfl,fun b' hb'=>(R.wr.cH hi hb').2,hmono,fun b' o' v' h=>by
   simp only[lY] at h;split at h
   . rename_i e;obtain⟨rfl,_⟩:=e;exact .inr ⟨hG,by rw[gZ hw];exact h⟩
   . exact .inl h,fun b' o' v' hb' h=>R.wr.stw _ _ _ h⟩
  (.inl rfl) (fun b' hb'=>.inl hb') (fun j b' hj hne hb' o' v' h=>by
   simp only[lY] at h;split at h
   . rename_i e;obtain⟨rfl,_⟩:=e;exact absurd (R.wr.inj j i b' hj hi hb' hb) hne
   . exact h) (by rw[hg];exact ho hmono)
 rw[hg] at W;refine az.val v w _ g hr A ?_ (by rw[hlen];exact hv hmono);rw[td];exact W
theorem XI{t:TypeId} (R:Rel E st g s a w) (G:Good C) (ho:o.op=.alloc t):cw C E st g s a w o (o5 C s o.dst t):=by
 unfold o5;split
 . split
   . rename_i k _;split
     . rename_i hd;split
       . exact aa.fail
       . rename_i hk;rw[force_eq];refine aa.when fun hu=>aa.ret ?_;simp only[zza,Bool.not_eq_true'] at hu;obtain⟨⟨hkl,hu⟩,hp⟩:=hu;have hkl:=d6 hkl;have hil:k<s.sg.length:=hkl;obtain⟨z,hz,hz'⟩:=Ap w (G.ti t) (fun h=>hk h);have hc:=kp (hz' st (aX g k ⟨some w.heap.size,none,0,0,0⟩) s.sg.length) hu;refine az.j9 R hil (.pointer (some ⟨w.heap.size,0,none⟩)) (w.alloc (.cells z.cells t)) ⟨some w.heap.size,none,0,0,0⟩ (.inl ?_)
          ⟨rfl,rfl,rfl,by simp,fun b hb _=>qq hb,fun b hb=>(R.wr.cH hil hb).2,fun _ _ _ h=>h,fun _ _ _ h=>.inl h,fun b o v hb h=>?_⟩
          (.inr (by simp[aH,Nat.beq_refl])) (fun b hb=>.inr (by simpa using hb.symm)) ?_ ?_
         . simp[execOp,ho,Instr.alloc,hz,newVar,newRow]
         . rw[rv (qq (R.wr.cH hil hb).1)];exact R.wr.stw _ _ _ h
         . exact⟨w.heap.size,z.cells,t,(0,0),rfl,R.wr.gnew _ R.wr.size,heap_alloc_new,hc,⟨by simp,by intro o _;simp⟩,R.wr.mX⟩
         . simp only[VR];exact⟨hil,w.heap.size,by rw[dU],rfl⟩
     . exact aa.fail
   . exact Mk R G ho
 . exact Mk R G ho
theorem DU{cs:List V} {i:Nat} {x:V} (h:eG cs=true) (hx:cs[i]?=some x):x.one=true:=by
 induction cs generalizing i with
 |nil=>simp at hx
 |cons c cs ih=>
   simp only[eG,zza] at h;cases i with
   |zero=>simp at hx;subst hx;exact h.1
   |succ i=>exact ih h.2 (by simpa using hx)
theorem X9{cs:List V} {i:Nat} {x:V} (h:V.gd cs=true) (hx:cs[i]?=some x):x.pure=true:=by
 induction cs generalizing i with
 |nil=>simp at hx
 |cons c cs ih=>
   simp only[V.gd,zza] at h;cases i with
   |zero=>simp at hx;subst hx;exact h.1
   |succ i=>exact ih h.2 (by simpa using hx)
mutual
theorem xx{x:V} (h:x.pure=true) (i:Nat):x.has i=false:=by
 cases x<;>simp only[V.pure] at h<;>first
  |(simp[V.has];done)
  |cases h
  |(simp only[V.has];exact xw h i)
  |(simp only[V.has];exact xx h i)
  |(simp only[V.has,zza] at h⊢;rw[xw h.1 i,xw h.2 i];rfl)
theorem xw{xs:List V} (h:V.gd xs=true) (i:Nat):V.iF i xs=false:=by
 cases xs with
 |nil=>simp[V.iF]
 |cons x xs=>
   simp only[V.gd,zza] at h;simp only[V.iF];rw[xx h.1 i,xw h.2 i];rfl
end
theorem A5{x:V} {n:Nat} {v:Value} (h:VR st g x n v) (ho:x.one=true):v.oneCell'=true:=by
 cases x<;>first
  |(simp[V.one] at ho;done)
  | (simp only [VR] at h
     first
      |(subst h;rfl)
      |(obtain⟨rfl,_⟩:=h;rfl)
      |(obtain⟨_,_,rfl,_⟩:=h;rfl)
      |(obtain⟨_,_,_,rfl,_⟩:=h;rfl)
      |(obtain⟨_,_,_,rfl⟩:=h;rfl)
      |(obtain⟨_,rfl⟩:=h;rfl)
      |(obtain⟨_,rfl,_⟩:=h;rfl)
      |(obtain⟨_,_,_,_,_,_,rfl⟩:=h;rfl))

theorem GY{sz:Nat} {look look':Nat->Option Value}:∀{l:List V} {o:Nat},(∀k,k<l.length*sz->look (o+k) =look' (o+k))->cn st g l sz look o->cn st g l sz look' o
 |[],_,_,_=>by simp only[cn]
 |x::xs,o,hk,h=>by
   simp only[cn] at h⊢;obtain⟨⟨u,h1,h2,h3,h4⟩,h5⟩:=h;have e:(x::xs).length*sz=sz+xs.length*sz:=by rw[List.length_cons,Nat.add_mul,Nat.one_mul,Nat.add_comm]
   rw[e] at hk;refine⟨⟨u,h1,h2,h3,fun j hj=>by rw[<-hk j (by omega)];exact h4 j hj⟩,GY (fun k hk'=>?_) h5⟩;have:=hk (sz+k) (by omega);rw[<-Nat.add_assoc] at this;exact this
theorem Jy{look:Nat->Option Value}:∀{n:Nat} {l cs:List V} {of:Nat},ud n l=some cs->cn st g l 1 look of->n<=l.length/\∃vs,aC st g cs 0 vs/\∀j,j<vs.length->look (of+j) =vs[j]?
 |0,l,cs,of,h,_=>by
   simp only[ud,Option.some.injEq] at h;subst h;exact⟨bu _,[],dM,fun j hj=>absurd hj (Nat.not_lt_zero _)⟩
 |n+1,l,cs,of,h,hr=>by
   unfold ud at h;split at h
   . rename_i hh;simp at hh
   . rename_i n' k m l' hh;cases hh;split at h
     . rename_i r hr';cases h;simp only[cn] at hr;obtain⟨⟨u,h1,h2,h3,h4⟩,h5⟩:=hr;obtain⟨k1,vs,k2,k3⟩:=Jy hr' h5;have h1':=h1;simp only[VR] at h1';obtain⟨rfl,_⟩:=h1';refine⟨by rw[List.length_cons];omega,.int k m::vs,cy h1 k2,fun j hj=>?_⟩;cases j with
       |zero=>exact h4 0 (by omega)
       |succ j=>
         have:=k3 j (by simpa using hj);rw[show of+(j+1) =of+1+j by omega,this];rfl
     . cases h
   . cases h
theorem s_arr{t:TypeId} {x:Operand} (R:Rel E st g s a w) (hg:aL C.gl st) (G:Good C) (ho:o.op=.sliceToArrayPointer t x):cw C E st g s a w o (wg C s t x):=by
 unfold wg;have hx:=aR R hg x;split
 . rename_i n e clip sz l hk he;rw[he] at hx;simp only[VR] at hx;obtain⟨base,cap,hx,h1,h2,h8,h9⟩:=hx;have h3:=((G.ti t).of (by rw[hk];simp)).1;rw[hk] at h3;refine aa.when fun hn=>aa.opt fun cs hcs=>?_;rw[zza] at hn;have hn0:0<n:=Nat.lt_of_lt_of_le (Nat.lt_succ_self 0) (d6 hn.1);have hs1:sz=1:=aB hn.2;subst hs1;rcases h9 with h9|⟨b,of,h9,h10,h11⟩
   . subst h9;obtain⟨m,rfl⟩:∃m,n=m+1:=⟨n-1,by omega⟩
     simp[ud] at hcs
   . subst h9;obtain⟨k1,vs,k2,k3⟩:=Jy hcs h11;refine aa.ret (az.pure R (.pointer (some ⟨b,of,none⟩)) w ?_ (aQ.refl w) ?_)
     . have hlt:¬l.length<n:=by omega
       simp[execOp,ho,Instr.arrayAt,run_underlying h3,hx,hlt]
     . simp only[VR];exact⟨b,of,vs,rfl,k2,k3⟩
 . exact aa.fail
theorem Yh{t:TypeId} {x:Operand} {lo hi mx:Option Operand} (R:Rel E st g s a w) (hg:aL C.gl st) (G:Good C) (ho:o.op=.slice t x lo hi mx):cw C E st g s a w o (qe C s t x lo hi mx):=by
 unfold qe;have hx:=aR R hg x;split
 . rename_i p hk he;rw[he] at hx;simp only[VR] at hx;have h3:=((G.ti t).of (by rw[hk];simp)).1;rw[hk] at h3;refine aa.bind (oV _ _ _ _ _) fun r hr=>?_;obtain⟨l,h,h4,h5,h6,h7⟩:=Ah R hg r (hr _ rfl);rw[tu,h7 p rfl];refine aa.ret (az.pure R (.string ⟨((p.take h).drop l).toArray⟩) w ?_ (aQ.refl w) (by simp only[VR];exact⟨trivial,by simp;omega⟩));have hsz:(⟨p.toArray⟩:ByteArray).size=p.length:=by show p.toArray.size=_;simp
   simp[execOp,ho,Instr.sliceAt,Instr.slice,run_underlying h3,hx.1,hsz,h6 false p.length (cb _),Hb p l h]
 . rename_i e clip sz l hk he;rw[he] at hx;simp only[VR] at hx;obtain⟨base,cap,hx,h1,h2,h8,h9⟩:=hx;have h3:=((G.ti t).of (by rw[hk];simp)).1;rw[hk] at h3;split
   . exact aa.fail
   rename_i hk2;refine aa.when fun hsz=>aa.bind (oV _ _ _ _ _) fun r hr=>?_;obtain⟨lo',hi',h4,h5,h6,h7⟩:=Ah R hg r (hr _ rfl);rw[tu,h7 l rfl];have hrun:(execOp a.eval o).run C.P w=.ok (.value (.slice (if cap=lo' then base else base.map (·.add (lo'*(C.ti e).size))) (hi'-lo') (cap-lo'))) w:=by
    simp[execOp,ho,Instr.sliceAt,Instr.slice,run_underlying h3,hx,h6 true cap h1,gj w (G.ti e) (fun h=>hk2 h)]
   have hlen:((l.take hi').drop lo').length=hi'-lo':=by simp;omega
   refine aa.ret (az.pure R _ w hrun (aQ.refl w) ?_);simp only[VR];refine⟨_,_,by rw[hlen],by rw[hlen];omega,by rw[hlen];omega,by simp,?_⟩;rcases sL hsz with hsz|hsz
   . rcases h9 with h9|⟨b,of,h9,h10,h11⟩
     . subst h9;left;simp
     . by_cases hc:cap=lo'
       . left;apply co;rw[hlen];omega
       . right;refine⟨b,of+lo'*(C.ti e).size,?_,by rw[hsz] at h10;rw[hsz];exact h10,?_⟩
         . rw[if_neg hc,h9];simp[Addr.add_lit]
         . rw[<-hsz];exact Of (BY h11 _) _
   . subst hsz;left;simp
 . rename_i e i hk he;rw[he] at hx;simp only[VR] at hx;obtain⟨hil,hx⟩:=hx;have h3:=((G.ti t).of (by rw[hk];simp)).1;rw[hk] at h3;split
   . exact aa.fail
   rename_i hk2;split
   . rename_i sz pre l hOp hs;split
     . rename_i k n hn;have hh:=aR (C:=C) R hg hOp;rw[hn] at hh;simp only[VR] at hh;obtain⟨hs1,_⟩:=eY hs (by simp);obtain⟨q1,q2,q3,q4,q5,q6,q7⟩:=R.wr.ob i _ hs1;refine aa.when fun hsz=>aa.aI fun h0=>aa.ret ?_;have hb:(Instr.sliceBounds true (g i).len (g i).cap none (some (a.eval hOp)) none).run C.P w=.ok (0,n.toNat,(g i).cap) w:=by
        simp[Instr.sliceBounds,hh.1,run_sliceBound _ k n (g i).cap _ (by omega) (by omega)]
       refine az.j9 R hil (.slice (g i).base n.toNat (g i).cap) w {g i with len:=n.toNat} (.inl ?_) ⟨rfl,rfl,rfl,cb _,fun _ _ _=>rfl,fun b hb=>?_,fun _ _ _ h=>h,fun _ _ _ h=>.inl h,fun b o v _ h=>R.wr.stw _ _ _ h⟩
        (.inr (by simp[aH])) (fun b hb=>.inl hb) ?_ ?_
       . simp[execOp,ho,Instr.sliceAt,Instr.slice,run_underlying h3,hx,hb,gj w (G.ti e) (fun h=>hk2 h)];intro _;cases(g i).base<;>simp[Addr.add_zero']
       . exact(R.wr.cH hil hb).2
       . refine⟨q1,q2,by simp;omega,by simp;omega,by simp;omega,by simp;omega,?_⟩;rcases q7 with q7|⟨b',c,el,fr,k1,k2,k3,k4,k5,k6,k7,k8⟩
         . exact .inl q7
         . exact .inr ⟨b',c,el,fr,k1,k2,k3,k4,k5,lT (fun _ _ _ h=>h) (fun _ _ h=>h) (BY k6 _),k7,k8⟩
       . simp only[VR];exact⟨hil,by simp⟩
     . exact aa.fail
   . exact aa.fail
 . rename_i e i mo hk he;rw[he] at hx;simp only[VR] at hx;obtain⟨hil,hx⟩:=hx;have h3:=((G.ti t).of (by rw[hk];simp)).1;rw[hk] at h3;split
   . exact aa.fail
   rename_i hk2;split
   . rename_i sz pre l hOp hs;split
     . rename_i k n k' n' hn hn';have hh:=aR (C:=C) R hg hOp;rw[hn] at hh;have hm:=aR (C:=C) R hg mo;rw[hn'] at hm;simp only[VR] at hh hm;obtain⟨hs1,_⟩:=eY hs (by simp);obtain⟨q1,q2,q3,q4,q5,q6,q7⟩:=R.wr.ob i _ hs1;refine aa.when fun hsz=>aa.aI fun h0=>aa.ret ?_;have hb:(Instr.sliceBounds true (g i).len (g i).cap none (some (a.eval hOp)) (some (a.eval mo))).run C.P w=.ok (0,l.length,l.length) w:=by
        simp[Instr.sliceBounds,hh.1,hm.1,run_sliceBound _ k' n' (g i).cap _ (by omega) (by omega)];rw[run_sliceBound _ k n n'.toNat _ (by omega) (by omega)];simp;omega
       have hr:(execOp a.eval o).run C.P w=.ok (.value (.slice (g i).base l.length l.length)) w:=by
        simp[execOp,ho,Instr.sliceAt,Instr.slice,run_underlying h3,hx,hb,gj w (G.ti e) (fun h=>hk2 h)];intro _;cases(g i).base<;>simp[Addr.add_zero']
       rcases q7 with q7|⟨b,c,el,fr,k1,k2,k3,k4,k5,k6,k7,k8⟩
       . have hl:l=[]:=co (by omega);have hg:aX g i (g i) =g:=by funext j;simp only[aX];split<;>simp_all
         refine az.j9 R hil _ w (g i) (.inl hr) ⟨rfl,rfl,rfl,cb _,fun _ _ _=>rfl,fun b hb=>?_,fun _ _ _ h=>h,fun _ _ _ h=>.inl h,fun b o v _ h=>R.wr.stw _ _ _ h⟩
          (.inl rfl) (fun b hb=>.inl hb) ?_ ?_
         . rw[q7.2] at hb;cases hb
         . rw[hg];exact⟨q1,q2,cb _,q4,q5,q6,.inl q7⟩
         . simp only[VR];exact⟨_,_,rfl,cb _,q4,fun _=>rfl,.inl hl⟩
       . have hmr:∀k:Nat,k<l.length*sz->lY st b c (l.length*sz) b k=c[k]?:=fun k hk=>by
           simp only[lY];rw[if_pos ⟨trivial,hk⟩]
         refine az.snap (m:=l.length*sz) R hil k1 k3 k4 _ hr (fun hmono=>?_) fun hmono=>?_
         . simp only[VR];refine⟨_,_,rfl,cb _,q4,fun _=>rfl,.inr ⟨b,0,k2,q1,?_⟩⟩;refine GY ?_ (lT hmono (fun _ _ h=>h) k6);intro k hk;rw[Nat.zero_add];exact(hmr k hk).symm
         . refine⟨q1,q2,cb _,q4,q5,q6,.inr ⟨b,c,el,fr,k1,k2,k3,k4,k5,lT hmono (fun _ _ h=>h) k6,k7,fun o v h=>?_⟩⟩;rcases d7 o (l.length*sz) with q|q
           . exact q
           . simp only[lY] at h;rw[if_neg (fun e=>by have:=e.2;omega)] at h;have:=k8 o v h;have h9:pre*sz<=l.length*sz:=gg _ q3;omega
     . exact aa.fail
   . exact aa.fail
 . rename_i e clip sz l mo hk he;rw[he] at hx;simp only[VR] at hx;obtain⟨base,cap,hx,h1,h2,h8,h9⟩:=hx;have h3:=((G.ti t).of (by rw[hk];simp)).1;rw[hk] at h3;split
   . exact aa.fail
   rename_i hk2;split
   . rename_i hOp;split
     . rename_i k n k' n' hn hn';have hh:=aR (C:=C) R hg hOp;rw[hn] at hh;have hm:=aR (C:=C) R hg mo;rw[hn'] at hm;simp only[VR] at hh hm;refine aa.when fun hsz=>aa.aI fun h0=>?_;have hb:(Instr.sliceBounds true l.length cap none (some (a.eval hOp)) (some (a.eval mo))).run C.P w=.ok (0,n'.toNat,n'.toNat) w:=by
        simp[Instr.sliceBounds,hh.1,hm.1,run_sliceBound _ k' n' cap _ (by omega) (by omega)];rw[run_sliceBound _ k n n'.toNat _ (by omega) (by omega)];simp;omega
       have hr:(execOp a.eval o).run C.P w=.ok (.value (.slice base n'.toNat n'.toNat)) w:=by
        simp[execOp,ho,Instr.sliceAt,Instr.slice,run_underlying h3,hx,hb,gj w (G.ti e) (fun h=>hk2 h)];intro _;cases base<;>simp[Addr.add_zero']
       have hlen:(l.take n.toNat).length=n'.toNat:=by simp;omega
       refine aa.ret (az.pure R _ w hr (aQ.refl w) ?_);simp only[VR];refine⟨_,_,by rw[hlen],by rw[hlen];omega,by rw[hlen];omega,by rw[hlen];exact fun _=>rfl,?_⟩;rcases sL hsz with hsz|hsz
       . rcases h9 with h9|⟨b,of,h9,h10,h11⟩
         . subst h9;left;simp
         . exact .inr ⟨b,of,h9,h10,BY h11 _⟩
       . subst hsz;left;simp
     . exact aa.fail
   . exact aa.fail
 . rename_i m e i a' hk he;rw[he] at hx;simp only[VR] at hx;obtain⟨hil,b,hb,hx⟩:=hx;have h3:=((G.ti t).of (by rw[hk];simp)).1;rw[hk] at h3;split
   . exact aa.fail
   rename_i k hk2;split
   . rename_i cs hs;obtain⟨hs1,_⟩:=eY hs (by simp);obtain⟨b',c,el,fr,k1,k2,k3,k4,k5,k6⟩:=R.wr.ob i _ hs1;rw[hb] at k1;cases k1;refine aa.when fun hsz=>aa.opt fun l hl=>aa.bind (oV _ _ _ _ _) fun r hr=>?_;simp only[zza,Bool.not_eq_true'] at hsz;obtain⟨⟨⟨⟨z1,z2⟩,z3⟩,z4⟩,z5⟩:=hsz;have z5:=d6 z5;have z6:1048576<=maxLen:=by decide
     have z1:=aB z1;obtain⟨hl1,hl2⟩:=Bv hl;rw[vW] at hl1 hl2;have hll:l.length=m:=by rw[hl1];simp at hl2⊢;omega
     obtain⟨lo',hi',h4,h5,h6,h7⟩:=Ah R hg r (hr _ rfl);rw[tu,h7 l hll];refine aa.ret (az.freeze R hil hb k2 k3 (.slice (some ⟨b,a'+lo'*(if m=lo' then 0 else 1),none⟩) (hi'-lo') (m-lo')) ?_ ?_)
     . simp[execOp,ho,Instr.sliceAt,run_underlying h3,hx,Instr.sureAddr,h6 false m (cb _),gj w (G.ti e) (fun h=>hk2 h),z1];by_cases hml:m=lo'
       . simp[hml]
       . simp[hml,Addr.add_lit]
     . have hlen:((l.take hi').drop lo').length=hi'-lo':=by simp;omega
       simp only[VR];refine⟨_,_,by rw[hlen],by rw[hlen];omega,by rw[hlen];omega,by simp,?_⟩;by_cases hml:m=lo'
       . left;apply co;rw[hlen];omega
       . right;refine⟨b,a'+lo',by simp[hml],by omega,?_⟩;rw[gV];intro q y hy;have hyq:cs[a'+lo'+q]?=some y:=by
          rw[List.getElem?_drop,List.getElem?_take] at hy;split at hy
          . rw[hl1,List.getElem?_take] at hy;split at hy
            . rw[List.getElem?_drop] at hy;rw[<-hy];congr 1;omega
            . cases hy
          . cases hy
         obtain⟨u,q1,q2⟩:=jQ k4 hyq;have hyp:y.pure=true:=X9 z3 hyq;have hy1:y.one=true:=DU z4 hyq;have hu1:=A5 q2 hy1;refine⟨u,gC (fun b' o' v' h=>by
          simp only[c9];split
          . rename_i e;subst e;rw[k6] at h;cases h
          . exact h) (fun j hj _=>by rw[xx hyp j] at hj;cases hj) q2,?_,?_,?_⟩
         . cases u<;>first|rfl|(simp[Value.oneCell'] at hu1)
         . intro v hv;cases u<;>simp[Value.oneCell'] at hu1<;>simp[Value.cells] at hv<;>subst hv<;>rfl
         . intro j hj;obtain rfl:j=0:=by omega
           simp only[c9,if_true];have:c[a'+lo'+q]?=some u:=by simpa using q1
           rw[Nat.mul_one,Nat.add_zero,this];cases u<;>first|rfl|(simp[Value.oneCell'] at hu1)
   . exact aa.fail
 . rename_i m e cs a' hk he;rw[he] at hx;simp only[VR] at hx;obtain⟨b,of,vs,hx,k4,k5⟩:=hx;have h3:=((G.ti t).of (by rw[hk];simp)).1;rw[hk] at h3;split
   . exact aa.fail
   rename_i k hk2;refine aa.when fun hsz=>aa.opt fun l hl=>aa.bind (oV _ _ _ _ _) fun r hr=>?_;simp only[zza,Bool.not_eq_true'] at hsz;obtain⟨⟨⟨⟨z1,z2⟩,z3⟩,z4⟩,z5⟩:=hsz;have z5:=d6 z5;have z6:1048576<=maxLen:=by decide
   have z1:=aB z1;obtain⟨hl1,hl2⟩:=Bv hl;rw[vW] at hl1 hl2;have hll:l.length=m:=by rw[hl1];simp at hl2⊢;omega
   obtain⟨lo',hi',h4,h5,h6,h7⟩:=Ah R hg r (hr _ rfl);rw[tu,h7 l hll];refine aa.ret (az.pure R (.slice (some ⟨b,of+a'+lo'*(if m=lo' then 0 else 1),none⟩) (hi'-lo') (m-lo')) w ?_ (aQ.refl w) ?_)
   . simp[execOp,ho,Instr.sliceAt,run_underlying h3,hx,Instr.sureAddr,h6 false m (cb _),gj w (G.ti e) (fun h=>hk2 h),z1];by_cases hml:m=lo'
     . simp[hml]
     . simp[hml,Addr.add_lit]
   . have hlen:((l.take hi').drop lo').length=hi'-lo':=by simp;omega
     simp only[VR];refine⟨_,_,by rw[hlen],by rw[hlen];omega,by rw[hlen];omega,by simp,?_⟩;by_cases hml:m=lo'
     . left;apply co;rw[hlen];omega
     . right;refine⟨b,of+a'+lo',by simp[hml],by omega,?_⟩;rw[gV];intro q y hy;have hyq:cs[a'+lo'+q]?=some y:=by
        rw[List.getElem?_drop,List.getElem?_take] at hy;split at hy
        . rw[hl1,List.getElem?_take] at hy;split at hy
          . rw[List.getElem?_drop] at hy;rw[<-hy];congr 1;omega
          . cases hy
        . cases hy
       obtain⟨u,q1,q2⟩:=jQ k4 hyq;have hy1:y.one=true:=DU z4 hyq;have hu1:=A5 q2 hy1;refine⟨u,q2,?_,?_,?_⟩
       . cases u<;>first|rfl|(simp[Value.oneCell'] at hu1)
       . intro v hv;cases u<;>simp[Value.oneCell'] at hu1<;>simp[Value.cells] at hv<;>subst hv<;>rfl
       . intro j hj;obtain rfl:j=0:=by omega
         have hlt:a'+lo'+q<vs.length:=by
          rcases d7 (a'+lo'+q) vs.length with z|z
          . exact z
          . rw[ci z] at q1;cases q1
         have h9:=k5 _ hlt;rw[show of+a'+lo'+q*1+0=of+(a'+lo'+q) by omega,h9,q1];cases u<;>first|rfl|(simp[Value.oneCell'] at hu1)
 . exact aa.fail

theorem Yj{t:TypeId} {x:Operand} {lo hi mx:Option Operand} (R:Rel E st g s a w) (hg:aL C.gl st) (G:Good C) (ho:o.op=.slice t x lo hi mx):cw C E st g s a w o (qf C s t x lo hi mx):=by
 unfold qf;have hx:=aR R hg x;split
 . rename_i m e i a' hk he;rw[he] at hx;simp only[VR] at hx;obtain⟨hil,b,hb,hx⟩:=hx;have h3:=((G.ti t).of (by rw[hk];simp)).1;rw[hk] at h3;split
   . exact aa.fail
   rename_i k hk2;refine aa.when fun hw=>?_;rw[zza] at hw;have hs1:=aB hw.1;have hm:0<m:=Nat.lt_of_lt_of_le (Nat.lt_succ_self 0) (d6 hw.2);split
   . refine aa.ret (az.pure R (.slice (some ⟨b,a',none⟩) m m) w ?_ (aQ.refl w) ?_)
     . simp[execOp,ho,Instr.sliceAt,run_underlying h3,hx,Instr.sureAddr,Instr.sliceBounds,gj w (G.ti e) (fun h=>hk2 h),hs1];intro _;simp[Addr.add_zero']
     . simp only[VR];exact⟨hil,b,hb,_,_,.inr rfl,rfl⟩
   . rename_i l;split
     . rename_i k' n' hl;have h1:=aR (C:=C) R hg l;rw[hl] at h1;simp only[VR] at h1;refine aa.aI fun h0=>?_;simp only[dN];have hne:¬m=n'.toNat:=by omega
       refine aa.ret (az.pure R (.slice (some ⟨b,a'+n'.toNat,none⟩) (m-n'.toNat) (m-n'.toNat)) w ?_ (aQ.refl w) ?_)
       . simp[execOp,ho,Instr.sliceAt,run_underlying h3,hx,Instr.sureAddr,Instr.sliceBounds,h1.1,run_sliceBound _ k' n' m _ (by omega) (by omega),gj w (G.ti e) (fun h=>hk2 h),hs1,hne,Addr.add_lit]
       . simp only[VR];exact⟨hil,b,hb,_,_,.inr rfl,rfl⟩
     . exact aa.fail
 . rename_i e i hk he;rw[he] at hx;simp only[VR] at hx;obtain⟨hil,hx⟩:=hx;have h3:=((G.ti t).of (by rw[hk];simp)).1;rw[hk] at h3;split
   . exact aa.fail
   rename_i hk2;split
   . rename_i sz xs hs;split
     . rename_i l;split
       . rename_i k' n' hl;have h1:=aR (C:=C) R hg l;rw[hl] at h1;simp only[VR] at h1;obtain⟨hs1,_⟩:=eY hs (by simp);obtain⟨q1,q2,q3,q4,q5,q6,q7⟩:=R.wr.ob i _ hs1;refine aa.when fun hsz=>aa.aI fun h0=>?_;have hsz:=aB hsz;obtain⟨h01,h02,h03⟩:=h0;have hxp:0<xs.length:=by cases xs with
          |nil=>exact absurd rfl h03
          |cons _ _=>simp
         rcases q7 with q7|⟨b,c,el,fr,k1,k2,_⟩
         . omega
         have hb:(Instr.sliceBounds true (g i).len (g i).cap (some (a.eval l)) none none).run C.P w=.ok (n'.toNat,xs.length,(g i).cap) w:=by
          simp[Instr.sliceBounds,h1.1,q5,run_sliceBound _ k' n' xs.length _ h01 h02]
         refine aa.ret (az.pure R (.slice (if(g i).cap=n'.toNat then some ⟨b,0,none⟩ else some ⟨b,n'.toNat*(C.ti e).size,none⟩) (xs.length-n'.toNat) ((g i).cap-n'.toNat)) w ?_ (aQ.refl w) ?_)
         . simp[execOp,ho,Instr.sliceAt,Instr.slice,run_underlying h3,hx,hb,gj w (G.ti e) (fun h=>hk2 h),k2,Addr.add_lit]
         . simp only[VR];by_cases hc:(g i).cap=n'.toNat
           . exact⟨hil,b,k1,0,_,.inl (by omega),by rw[if_pos hc]⟩
           . exact⟨hil,b,k1,_,_,.inr (by rw[hsz]),by rw[if_neg hc]⟩
       . exact aa.fail
     . exact aa.fail
   . exact aa.fail
 . exact aa.fail
theorem je(s:gA):(bl s).length=s.length:=by induction s with
 |nil=>rfl
 |cons b s ih=>simp[bl,ih]
theorem Hg(s:gA) (i:Nat):(bl s)[i]?=(s[i]?).map bv:=by induction s generalizing i with
 |nil=>simp[bl]
 |cons b s ih=>cases i<;>simp[bl,ih]
theorem Oe{s:gA} {look:Nat->Option Value} {o:Nat} (h:cn st g (bl s) 1 look o) (j:Nat) (hj:j<s.length):look (o+j) =some (.int .u8 (s[j].toNat:Int)):=by
 have h1:(bl s)[j]?=some (bv s[j]):=by rw[Hg,am hj];rfl
 obtain⟨u,h2,h3,h4,h5⟩:=gV.1 h j _ h1;simp only[bv,VR] at h2;obtain⟨rfl,_⟩:=h2;have:=h5 0 (by omega);simp only[Nat.mul_one,Nat.add_zero] at this;rw[this];rfl

theorem GZ{s:gA} {look:Nat->Option Value} {o:Nat} (h:∀j (hj:j<s.length),look (o+j) =some (.int .u8 (s[j].toNat:Int))):cn st g (bl s) 1 look o:=by
 rw[gV];intro i x hx;rw[Hg] at hx;cases hs:s[i]? with
 |none=>rw[hs] at hx;cases hx
 |some b=>
   rw[hs] at hx;cases hx;have hi:i<s.length:=by
    rcases d7 i s.length with h'|h'
    . exact h'
    . simp[ci h'] at hs
   have hb:s[i]=b:=by rw[am hi] at hs;simpa using hs
   refine⟨.int .u8 (b.toNat:Int),gU (Ca b),rfl,by simp[Value.cells,Value.oneCell'],fun j hj=>?_⟩;have:j=0:=by omega
   subst this;simp only[Nat.mul_one,Nat.add_zero];rw[h i hi,hb];rfl

structure pL(E:Env) (st:St) (g:au) (w:World) (v:Value) (sz:Nat) (l:List V):Prop where
 len:(∃base cap,v=.slice base l.length cap/\(l=[]\/∃b o,base=some ⟨b,o,none⟩/\0<sz/\cn st g l sz (fun k=>w.cell? ⟨b,k,none⟩) o))\/(sz=1/\∃s,l=bl s/\v=.string ⟨s.toArray⟩)
 max:l.length<=maxLen

theorem w9{x:Operand} (R:Rel E st g s a w) (hg:aL C.gl st):aa (fun r=>pL E st g w (a.eval x) r.1 r.2.1/\∀i,aH i r.2.2=false->∀j,s.ev C x=.buf j->j≠i) (elems s (s.ev C x)):=by
 have hx:=aR (C:=C) R hg x;unfold elems;split
 . rename_i clip sz l he;rw[he] at hx;simp only[VR] at hx;obtain⟨base,cap,hx,h1,h2,h8,h9⟩:=hx;refine aa.ret ⟨⟨.inl ⟨base,cap,hx,?_⟩,h2⟩,fun i _ j hj=>by rw[he] at hj;cases hj⟩;rcases h9 with h9|⟨b,o,h9,h10,h11⟩
   . exact .inl h9
   . exact .inr ⟨b,o,h9,h10,lT (fun _ _ _ h=>h) (fun k v hk=>R.wr.stw _ _ _ hk) h11⟩
 . rename_i p he;rw[he] at hx;simp only[VR] at hx;refine aa.ret ⟨⟨.inr ⟨rfl,p,rfl,hx.1⟩,?_⟩,fun i _ j hj=>by rw[he] at hj;cases hj⟩;show(bl p).length<=maxLen;rw[je];exact hx.2
 . rename_i i he;rw[he] at hx;simp only[VR] at hx;obtain⟨hil,hx⟩:=hx;split
   . rename_i sz pre l hs;obtain⟨hs1,_⟩:=eY hs (by simp);obtain⟨q1,q2,q3,q4,q5,q6,q7⟩:=R.wr.ob i _ hs1;refine aa.ret ⟨⟨.inl ⟨(g i).base,(g i).cap,by rw[hx,q5],?_⟩,q4⟩,fun k hk j hj=>?_⟩
     . rcases q7 with ⟨q7,_⟩|⟨b',c,el,fr,k1,k2,k3,k4,k5,k6,k7,k8⟩
       . left;apply co;show l.length=0;omega
       . exact .inr ⟨b',0,k2,q1,lT (fun _ _ _ h=>h) (fun k v hk=>by rw[gZ k4];exact hk) k6⟩
     . rw[he] at hj;cases hj;intro e;subst e;simp[aH,Nat.beq_refl] at hk
   . exact aa.fail
 . exact aa.fail

theorem XR{src dst:TypeId} {x:Operand} (R:Rel E st g s a w) (hg:aL C.gl st) (G:Good C) (ho:o.op=.convert src dst x):cw C E st g s a w o (lX C s src dst (s.ev C x)):=by
 have hx:=aR (C:=C) R hg x;have hel:=w9 (C:=C) (x:=x) R hg;unfold lX;split
 . exact aa.fail
 . rename_i k d n hs he hd;rw[he] at hx;simp only[VR] at hx;obtain⟨d0,hd0⟩:∃d,C.P.underlying src=some d:=by
    have h3:=((G.ti src).of (fun h=>hd h)).1;cases hk':(C.ti src).k<;>rw[hk'] at h3<;>simp only[TK.ok] at h3
    case struct fs=>obtain⟨f,h3,_⟩:=h3;exact⟨_,h3⟩
    case iface=>obtain⟨p,h3⟩:=h3;exact⟨_,h3⟩
    case func=>obtain⟨p,q,r,h3⟩:=h3;exact⟨_,h3⟩
    all_goals exact⟨_,h3⟩
   have h3:=((G.ti dst).of (by rw[hs];simp)).1;rw[hs] at h3;refine aa.ret (az.pure R (.int k (k.wrap n)) w ?_ (aQ.refl w) (gU (mZ _ _)));simp[execOp,ho,hx.1,convert,run_underlying hd0,run_underlying h3,Conv.intToInt]
 . rename_i p hs hd he;rw[he] at hx;have hx':=hx;simp only[VR] at hx;have h3:=((G.ti src).of (by rw[hs];simp)).1;rw[hs] at h3;have h4:=((G.ti dst).of (by rw[hd];simp)).1;rw[hd] at h4;refine aa.ret (az.pure R (a.eval x) w ?_ (aQ.refl w) hx');simp[execOp,ho,hx.1,convert,run_underlying h3,run_underlying h4]
 . rename_i e p hs hd he;rw[he] at hx;simp only[VR] at hx;have h3:=((G.ti src).of (by rw[hs];simp)).1;rw[hs] at h3;have h4:=((G.ti dst).of (by rw[hd];simp)).1;rw[hd] at h4;split
   . rename_i hk;have h5:=((G.ti e).of (by rw[hk];simp)).1;rw[hk] at h5;have hsz:(⟨p.toArray⟩:ByteArray).size=p.length:=by show p.toArray.size=_;simp
     have hr:=Go.run_bytes_of_string w src dst e ⟨p.toArray⟩ h3 h4 h5;rw[hsz] at hr;refine aa.ret ?_;have hW:=(R.wr.same (w':=w.drew) ⟨rfl,rfl,rfl,rfl⟩).C1 (bytesRow ⟨p.toArray⟩ (grownCap w p.length 0 e)) e
      ((bytesRow ⟨p.toArray⟩ (grownCap w p.length 0 e)).size,(bytesRow ⟨p.toArray⟩ (grownCap w p.length 0 e)).size+1) p.length
     refine az.val _ _ _ g (by simp only[execOp,ho,hx.1];rw[Sem.run_bind,hr];rfl) ⟨pR R.wr.mX,fun _ _ _=>rfl,by rw[jr];exact cb _⟩ (by rw[jr];exact hW) ?_;simp only[VR,pe];refine⟨_,_,by rw[je],by rw[je];exact grownCap_ge w p.length 0 e,by rw[je];exact hx.2,by simp,.inr ⟨w.heap.size,0,rfl,by omega,GZ fun j hj=>?_⟩⟩;simp only[lg,if_true,Nat.zero_add];rw[if_pos hj];simp only[bytesRow];rw[Array.getElem?_append_left (by simpa using hj)];simp[hj]
   . exact aa.fail
 . rename_i e hs hd;split
   . exact aa.fail
   . rename_i hk hns;have h5:=((G.ti e).of (by rw[hk];simp)).1;rw[hk] at h5;have h3:=((G.ti src).of (by rw[hs];simp)).1;rw[hs] at h3;have h4:=((G.ti dst).of (by rw[hd];simp)).1;rw[hd] at h4;refine aa.bind (lz _ _) fun r hr=>?_;obtain⟨sz,l,rd⟩:=r;obtain⟨⟨hlen,hmax⟩,_⟩:=hel _ (hr _ rfl);refine aa.when fun hsz=>aa.ex fun p=>aa.aI fun hl=>aa.ret ?_;simp only at hlen hmax;have hlp:l.length=p.length:=by rw[hl,je]
     rcases hlen with ⟨base,cap,hv,hrow⟩|⟨_,q,hq,hv⟩
     . refine az.pure R (.string ⟨p.toArray⟩) w ?_ (aQ.refl w) (by simp only[VR];exact⟨trivial,by omega⟩);have hrun:(convert src dst (.slice base p.length cap)).run C.P w=.ok (.string ⟨p.toArray⟩) w:=by
        rcases hrow with hrow|⟨b,of,hrow,h0,hrow2⟩
        . have hp:p=[]:=co (by rw[<-hlp,hrow];rfl);subst hp;cases base with
          |none=>
            rw[run_convert_bytes_string w src dst e none _ cap h3 h5 h4];rfl
          |some ad=>exact run_convert_bytes_back w src dst e ad cap [] h3 h5 h4 (fun j hj=>absurd hj (Nat.not_lt_zero _))
        . subst hrow;refine run_convert_bytes_back w src dst e _ cap p h3 h5 h4 (fun j hj=>?_);rcases sL hsz with hsz|hsz
          . subst hsz;subst hl;rw[Addr.add_lit];exact Oe hrow2 j hj
          . rw[hsz] at hlp;simp at hlp;omega
       simp only[execOp,ho];rw[hv,hlp,Sem.run_bind,hrun];rfl
     . exfalso;have:=hr (fun _=>True) trivial;unfold elems at this;cases he:s.ev C x<;>rw[he] at hx this<;>first
        |exact hns _ he
        |exact this.elim
        |skip
       . simp only[VR] at hx;obtain⟨_,_,hx,_⟩:=hx;rw[hv] at hx;cases hx
       . simp only[VR] at hx;rw[hv] at hx;cases hx.2
   . exact aa.fail
 . exact aa.fail
end
end Go.VG
