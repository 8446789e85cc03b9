/-
  A part of the proof.
-/
import Derived.Test.YtknljebcgcmaeaaGreatDoorVgF
import Derived.IntWalk
import Derived.OpenShut
import Derived.Laws.IdiomStrings
import Derived.Laws.Tables
set_option linter.unusedSimpArgs false
set_option linter.unusedVariables false
namespace Go.VG
open Go

theorem mn(k:IntKind) (n:Int):k.min<=k.wrap n/\k.wrap n<=k.max:=by
 have h:(Lit.int k (k.wrap n)).wf=true:=wf_wrap k n;simpa[Lit.wf] using h

theorem Yt{k:IntKind} {a:Int} (b:Int) (h:k.min<=a/\a<=k.max):k.min<=a.tmod b/\a.tmod b<=k.max:=by
 have hz:k.min<=0/\0<=k.max:=by cases k<;>simp[IntKind.min,IntKind.max,IntKind.signed,IntKind.bits]
 have:(0<=a->0<=a.tmod b/\a.tmod b<=a)/\(a<=0->a<=a.tmod b/\a.tmod b<=0):=by
  cases a with
  |ofNat m=>
    have hm:∀n:Nat,((m%n:Nat):Int)<=m:=fun n=>by exact_mod_cast Nat.mod_le m n
    cases b with
    |ofNat n=>
      have e:(Int.ofNat m).tmod (Int.ofNat n) =((m%n:Nat):Int):=rfl;rw[e];refine⟨fun _=>⟨by omega,hm n⟩,fun h=>?_⟩;have h0:m=0:=by have:(m:Int)<=0:=h;omega
      subst h0;simp
    |negSucc n=>
      have e:(Int.ofNat m).tmod (Int.negSucc n) =((m%(n+1):Nat):Int):=rfl;rw[e];refine⟨fun _=>⟨by omega,hm (n+1)⟩,fun h=>?_⟩;have h0:m=0:=by have:(m:Int)<=0:=h;omega
      subst h0;simp
  |negSucc m=>
    have hm:∀n:Nat,(((m+1)%n:Nat):Int)<=m+1:=fun n=>by exact_mod_cast Nat.mod_le (m+1) n
    have hneg:Int.negSucc m=-((m:Int)+1):=by omega
    cases b with
    |ofNat n=>
      have e:(Int.negSucc m).tmod (Int.ofNat n) =-(((m+1)%n:Nat):Int):=rfl;rw[e];have:=hm n;exact⟨fun h=>by omega,fun _=>⟨by omega,by omega⟩⟩
    |negSucc n=>
      have e:(Int.negSucc m).tmod (Int.negSucc n) =-(((m+1)%(n+1):Nat):Int):=rfl;rw[e];have:=hm (n+1);exact⟨fun h=>by omega,fun _=>⟨by omega,by omega⟩⟩
 rcases Int.le_total 0 a with h0|h0
 . have:=this.1 h0;omega
 . have:=this.2 h0;omega

theorem Y4{k:IntKind} {a:Int} (n:Nat) (h:k.min<=a/\a<=k.max):k.min<=a.fdiv (2^n)/\a.fdiv (2^n)<=k.max:=by
 have hz:k.min<=0/\0<=k.max:=by cases k<;>simp[IntKind.min,IntKind.max,IntKind.signed,IntKind.bits]
 have hp:(1:Int)<=2^n:=by
  have:1<=2^n:=Nat.one_le_two_pow
  exact_mod_cast this
 rw[Int.fdiv_eq_ediv_of_nonneg _ (by omega)];generalize (2:Int)^n=p at hp;rcases Int.le_total 0 a with h0|h0
 . have h1:a/p<=a:=Int.ediv_le_self p h0;have h2:0<=a/p:=Int.ediv_nonneg h0 (by omega);omega
 . have h1:a<=a/p:=by
     rw[Int.le_ediv_iff_mul_le (by omega)];have:=Int.mul_le_mul_of_nonpos_left h0 hp;omega
   have h2:a/p<=0:=by
    have:=Int.ediv_le_ediv (c:=p) (by omega) h0;simpa using this
   omega

theorem CC{k k':IntKind}:fV k k'=true↔k=k':=by cases k<;>cases k'<;>simp[fV]

section
variable {C:Ctx} {E:Env} {st:St} {g:aw} {s:AS} {a:Act} {w:World} {o:Oper} {e:Ef}

theorem gN{k:IntKind} {n:Int} {m:Nat} (h:k.min<=n/\n<=k.max):VR st g (.int k n) m (.int k n):=by simp only[VR];exact⟨trivial,h⟩
theorem fw{b:Bool} {m:Nat}:VR st g (.bool b) m (.bool b):=by simp[VR]

theorem xU{P:Program} {w:World} {t e:TypeId} (h:P.underlying t=some (.pointer e)) (v:Option Addr):(Op.equal t (.pointer none) (.pointer v)).run P w=.ok v.isNone w:=by
 have:∀d:Nat,(Op.equalIn (d+1) t (.pointer none) (.pointer v)).run P w=.ok v.isNone w:=fun d=>by simp[Op.equalIn,run_underlying h]
 exact this 9999
theorem Ig{P:Program} {w:World} {t e:TypeId} (h:P.underlying t=some (.pointer e)) (v:Addr):(Op.equal t (.pointer (some v)) (.pointer none)).run P w=.ok false w:=by
 have:∀d:Nat,(Op.equalIn (d+1) t (.pointer (some v)) (.pointer none)).run P w=.ok false w:=fun d=>by simp[Op.equalIn,run_underlying h]
 exact this 9999
theorem Ib{P:Program} {w:World} {t:TypeId} {ms:Array (String×TypeId)} (h:P.underlying t=some (.interface ms)) (u:TypeId) (z:Value):(Op.equal t (.iface u z) .nilIface).run P w=.ok false w:=by
 have:∀d:Nat,(Op.equalIn (d+1) t (.iface u z) .nilIface).run P w=.ok false w:=fun d=>by simp[Op.equalIn,run_underlying h]
 exact this 9999
theorem Ic{P:Program} {w:World} {t:TypeId} {ms:Array (String×TypeId)} (h:P.underlying t=some (.interface ms)) (u:TypeId) (z:Value):(Op.equal t .nilIface (.iface u z)).run P w=.ok false w:=by
 have:∀d:Nat,(Op.equalIn (d+1) t .nilIface (.iface u z)).run P w=.ok false w:=fun d=>by simp[Op.equalIn,run_underlying h]
 exact this 9999
theorem Dy{P:Program} {w:World} {t:TypeId} {x y:Operand} {p q:Option Addr} {r:Bool} (h:(Op.equal t (.pointer p) (.pointer q)).run P w=.ok r w):
   (eqGuard .eql t x y (.pointer p) (.pointer q)>>=fun _=>binOp .eql t (.pointer p) (.pointer q)).run P w=.ok (.bool r) w:=by
 rw[eqGuard_at_pointer,pure_bind];show(Op.equal t (.pointer p) (.pointer q)>>=fun b=>pure (Value.bool b)).run P w=_;rw[Sem.run_bind,h];rfl
theorem Dz{P:Program} {w:World} {t:TypeId} {x y:Operand} {p q:Option Addr} {r:Bool} (h:(Op.equal t (.pointer p) (.pointer q)).run P w=.ok r w):
   (eqGuard .neq t x y (.pointer p) (.pointer q)>>=fun _=>binOp .neq t (.pointer p) (.pointer q)).run P w=.ok (.bool (!r)) w:=by
 rw[eqGuard_at_pointer,pure_bind];show(Op.equal t (.pointer p) (.pointer q)>>=fun b=>pure (Value.bool (!b))).run P w=_;rw[Sem.run_bind,h];rfl
theorem X7{P:Program} {w:World} {t u:TypeId} {x y:Operand} {z:Value} {r:Bool} (h:(Op.equal t (.iface u z) .nilIface).run P w=.ok r w):
   (eqGuard .eql t x y (.iface u z) .nilIface>>=fun _=>binOp .eql t (.iface u z) .nilIface).run P w=.ok (.bool r) w:=by
 show(Op.equal t (.iface u z) .nilIface>>=fun b=>pure (Value.bool b)).run P w=_;rw[Sem.run_bind,h];rfl
theorem X9{P:Program} {w:World} {t u:TypeId} {x y:Operand} {z:Value} {r:Bool} (h:(Op.equal t (.iface u z) .nilIface).run P w=.ok r w):
   (eqGuard .neq t x y (.iface u z) .nilIface>>=fun _=>binOp .neq t (.iface u z) .nilIface).run P w=.ok (.bool (!r)) w:=by
 show(Op.equal t (.iface u z) .nilIface>>=fun b=>pure (Value.bool (!b))).run P w=_;rw[Sem.run_bind,h];rfl
theorem X8{P:Program} {w:World} {t u:TypeId} {x y:Operand} {z:Value} {r:Bool} (h:(Op.equal t .nilIface (.iface u z)).run P w=.ok r w):
   (eqGuard .eql t x y .nilIface (.iface u z)>>=fun _=>binOp .eql t .nilIface (.iface u z)).run P w=.ok (.bool r) w:=by
 show(Op.equal t .nilIface (.iface u z)>>=fun b=>pure (Value.bool b)).run P w=_;rw[Sem.run_bind,h];rfl
theorem Xa{P:Program} {w:World} {t u:TypeId} {x y:Operand} {z:Value} {r:Bool} (h:(Op.equal t .nilIface (.iface u z)).run P w=.ok r w):
   (eqGuard .neq t x y .nilIface (.iface u z)>>=fun _=>binOp .neq t .nilIface (.iface u z)).run P w=.ok (.bool (!r)) w:=by
 show(Op.equal t .nilIface (.iface u z)>>=fun b=>pure (Value.bool (!b))).run P w=_;rw[Sem.run_bind,h];rfl

theorem s_bin{op:BinOp} {t yt:TypeId} {x y:Operand} (R:Rel E st g s a w) (hg:aV C.gl st) (G:Good C) (ho:o.op=.binOp op t x y yt):
   cz C E st g s a w o (fy (om C op t (s.ev C x) (s.ev C y)) fun v=>ret (pe v)):=by
 have hx:=bn R hg x;have hy:=bn R hg y;suffices h:aa (fun v=>∃u,(eqGuard op t x y (a.eval x) (a.eval y)>>=fun _=>binOp op t (a.eval x) (a.eval y)).run C.P w=.ok u w/\VR st g v s.sg.length u) (om C op t (s.ev C x) (s.ev C y)) by
  refine aa.bind (Ik _ _ _ _ _) fun v hv=>aa.ret ?_;obtain⟨u,h1,h2⟩:=h v (hv _ rfl);exact aD.pure R u w (by simp only[execOp,ho];rw[Sem.run_bind,h1];rfl) (aY.refl w) h2
 generalize s.ev C x=X at hx;generalize s.ev C y=Y at hy;generalize a.eval x=vx at hx;generalize a.eval y=vy at hy;unfold om;split
 . simp only[VR] at hx hy;obtain⟨rfl,hxi⟩:=hx;obtain⟨rfl,hyi⟩:=hy;simp only[eqGuard_at_int,pure_bind];split
   . exact aa.aR fun h0=>aa.ret ⟨_,by simp only[binOp,Op.shift];rw[if_neg (by omega)];rfl,gN (mn _ _)⟩
   . exact aa.aR fun h0=>aa.ret ⟨_,by simp only[binOp,Op.shift];rw[if_neg (by omega)];rfl,gN (Y4 _ hxi)⟩
   all_goals
    refine aa.when fun hk=>?_;have hk:=CC.1 hk;subst hk
   . exact aa.ret ⟨_,by simp[binOp,Op.intArith],gN (mn _ _)⟩
   . exact aa.ret ⟨_,by simp[binOp,Op.intArith],gN (mn _ _)⟩
   . exact aa.ret ⟨_,by simp[binOp,Op.intArith],gN (mn _ _)⟩
   . exact aa.aR fun h0=>aa.ret ⟨_,by simp[binOp,Op.intDiv,h0],gN (mn _ _)⟩
   . exact aa.aR fun h0=>aa.ret ⟨_,by simp[binOp,Op.intDiv,h0],gN (Yt _ hxi)⟩
   . exact aa.ret ⟨_,by simp only[binOp,Op.intBits,ne_eq,not_true_eq_false,if_false];rfl,gN (mn _ _)⟩
   . exact aa.ret ⟨_,by simp only[binOp,Op.intBits,ne_eq,not_true_eq_false,if_false];rfl,gN (mn _ _)⟩
   . exact aa.ret ⟨_,by simp only[binOp,Op.intBits,ne_eq,not_true_eq_false,if_false];rfl,gN (mn _ _)⟩
   . exact aa.ret ⟨_,by simp only[binOp,Op.intBits,ne_eq,not_true_eq_false,if_false];rfl,gN (mn _ _)⟩
   all_goals exact aa.ret ⟨_,by simp only[binOp,Op.intCmp,ne_eq,not_true_eq_false,if_false];rfl,fw⟩
 . rename_i p q;simp only[VR] at hx hy;obtain⟨rfl,hxi⟩:=hx;obtain⟨rfl,hyi⟩:=hy;simp only[eqGuard_at_string,pure_bind];split
   . refine aa.aR fun h0=>aa.ret ⟨.string ⟨(p++q).toArray⟩,?_,by simp only[VR];exact⟨trivial,by simp only[an,maxLen];omega⟩⟩;have h1:(⟨p.toArray⟩:ByteArray).size=p.length:=by show p.toArray.size=_;simp
     have h2:(⟨q.toArray⟩:ByteArray).size=q.length:=by show q.toArray.size=_;simp
     have h3:(⟨p.toArray⟩:ByteArray)++⟨q.toArray⟩=⟨(p++q).toArray⟩:=by
      apply ByteArray.ext;simp
     simp only[binOp,Op.stringOp,h1,h2,h3];rw[if_neg (by simp;omega)];rfl
   all_goals first
    |exact aa.fail
    |exact aa.ret ⟨_,by simp only[binOp,Op.stringOp,ByteArray.toList_mk];rfl,fw⟩
 . rename_i p q;simp only[VR] at hx hy;subst hx;subst hy;simp only[eqGuard_at_bool,pure_bind];split
   . rename_i hk;have h3:=((G.ti t).of (by rw[hk];simp)).1;rw[hk] at h3;exact aa.ret ⟨_,run_eql_bool w t p q h3,fw⟩
   . rename_i hk;have h3:=((G.ti t).of (by rw[hk];simp)).1;rw[hk] at h3;exact aa.ret ⟨_,run_neq_bool w t p q h3,fw⟩
   . exact aa.fail
 . rename_i p q;simp only[VR] at hx hy;obtain⟨vp,rfl,hx⟩:=hx;obtain⟨vq,rfl,hy⟩:=hy;split
   . exact aa.fail
   . exact aa.fail
   rename_i hk hkm;have hk:(C.ti t).k≠.other:=fun h=>hk h;refine aa.when fun hw=>aa.opt fun r hr=>?_;simp only[aA] at hw;obtain⟨hf,hf2,hl⟩:=hw;have hl:=cb hl;have hne:(C.ti t).feq≠[]:=fun e=>by rw[e] at hf;cases hf
   have fl:∀{xs:List V},BT (C.ti t).feq xs=true->cQ (C.ti t).feq xs=true:=fun{xs} h=>by
    cases e:(C.ti t).feq with
    |nil=>exact absurd e hne
    |cons k ks=>rw[e] at h;exact h
   have hfe:AW C.P t (C.ti t).feq:=by
    have h0:=((G.ti t).of hk).2.2 hne;cases hkk:(C.ti t).k with
    |map a b=>exact absurd hkk (fun q=>hkm _ _ q)
    |_=>rw[hkk] at h0;exact h0
   obtain⟨h1,h2⟩:=hfe st g s.sg.length p q r vp vq w (fl hf) (fl hf2) hr (by rw[Bm (G.ti t) hk];exact hl) hx hy;split
   . exact aa.ret ⟨_,by simp[eqGuard,binOp,h1,h2],fw⟩
   . exact aa.ret ⟨_,by simp[eqGuard,binOp,h1,h2],fw⟩
   . exact aa.fail
 . simp only[VR] at hx hy;subst hx;subst hy;split
   . rename_i e hk;have h3:=((G.ti t).of (by rw[hk];simp)).1;rw[hk] at h3;exact aa.ret ⟨_,Dy (xU h3 none),fw⟩
   . rename_i e hk;have h3:=((G.ti t).of (by rw[hk];simp)).1;rw[hk] at h3;exact aa.ret ⟨_,Dz (xU h3 none),fw⟩
   . exact aa.fail
 iterate 6
  . have hp:(∃ad,vx=.pointer (some ad)/\vy=.pointer none)\/(∃ad,vx=.pointer none/\vy=.pointer (some ad)):=by
      simp only[VR] at hx hy;first
       |(subst hy;obtain⟨_,_,_,rfl⟩:=hx;exact .inl ⟨_,rfl,rfl⟩)
       |(subst hx;obtain⟨_,_,_,rfl⟩:=hy;exact .inr ⟨_,rfl,rfl⟩)
       |(subst hy;obtain⟨_,_,_,rfl,_⟩:=hx;exact .inl ⟨_,rfl,rfl⟩)
       |(subst hx;obtain⟨_,_,_,rfl,_⟩:=hy;exact .inr ⟨_,rfl,rfl⟩)
    split
    . rename_i e hk;have h3:=((G.ti t).of (by rw[hk];simp)).1;rw[hk] at h3;rcases hp with ⟨ad,rfl,rfl⟩|⟨ad,rfl,rfl⟩
      . exact aa.ret ⟨_,Dy (Ig h3 ad),fw⟩
      . exact aa.ret ⟨_,Dy (xU h3 (some ad)),fw⟩
    . rename_i e hk;have h3:=((G.ti t).of (by rw[hk];simp)).1;rw[hk] at h3;rcases hp with ⟨ad,rfl,rfl⟩|⟨ad,rfl,rfl⟩
      . exact aa.ret ⟨_,Dz (Ig h3 ad),fw⟩
      . exact aa.ret ⟨_,Dz (xU h3 (some ad)),fw⟩
    . exact aa.fail
 iterate 2
  . have hp:(∃u z,vx=.iface u z/\vy=.nilIface)\/(∃u z,vx=.nilIface/\vy=.iface u z):=by
      simp only[VR] at hx hy;first
       |(subst hy;obtain⟨_,rfl,_⟩:=hx;exact .inl ⟨_,_,rfl,rfl⟩)
       |(subst hx;obtain⟨_,rfl,_⟩:=hy;exact .inr ⟨_,_,rfl,rfl⟩)
    split
    . rename_i hk;have h3:=((G.ti t).of (by rw[hk];simp)).1;rw[hk] at h3;obtain⟨ms,h3⟩:=h3;rcases hp with ⟨u,z,rfl,rfl⟩|⟨u,z,rfl,rfl⟩
      . exact aa.ret ⟨_,X7 (Ib h3 u z),fw⟩
      . exact aa.ret ⟨_,X8 (Ic h3 u z),fw⟩
    . rename_i hk;have h3:=((G.ti t).of (by rw[hk];simp)).1;rw[hk] at h3;obtain⟨ms,h3⟩:=h3;rcases hp with ⟨u,z,rfl,rfl⟩|⟨u,z,rfl,rfl⟩
      . exact aa.ret ⟨_,X9 (Ib h3 u z),fw⟩
      . exact aa.ret ⟨_,Xa (Ic h3 u z),fw⟩
    . exact aa.fail
 . exact aa.fail
theorem Ie{P:Program} {w:World} {t:TypeId} {ms:Array (String×TypeId)} (h:P.underlying t=some (.interface ms)):(Op.equal t .nilIface .nilIface).run P w=.ok true w:=by
 have:∀d:Nat,(Op.equalIn (d+1) t .nilIface .nilIface).run P w=.ok true w:=fun d=>by simp[Op.equalIn,run_underlying h]
 exact this 9999
theorem Vy(R:Rel E st g s a w) (hg:aV C.gl st) {x y:Operand} (h:wi x y (s.ev C x) (s.ev C y) =true):(a.eval x=.nilIface/\a.eval y=.nilIface)/\((∃v,x=.const v)\/∃v,y=.const v):=by
 have hx:=bn R hg x;have hy:=bn R hg y;have hn:∀{u:V} {v:Value},VR st g u s.sg.length v->Cm u=true->v=.nilIface:=fun{u v} hv hu=>by
  cases u with
  |nilIface=>simpa only[VR] using hv
  |_=>cases hu
 unfold wi at h;split at h
 . exact⟨⟨rfl,hn hy h⟩,.inl ⟨_,rfl⟩⟩
 . exact⟨⟨hn hx h,rfl⟩,.inr ⟨_,rfl⟩⟩
 . cases h
theorem Xj{op:BinOp} {t yt:TypeId} {x y:Operand} (R:Rel E st g s a w) (hg:aV C.gl st) (G:Good C) (ho:o.op=.binOp op t x y yt):
   cz C E st g s a w o (cond (wi x y (s.ev C x) (s.ev C y)) (qN C op t) (fy (om C op t (s.ev C x) (s.ev C y)) fun v=>ret (pe v))):=by
 cases hc:wi x y (s.ev C x) (s.ev C y) with
 |false=>exact s_bin R hg G ho
 |true=>
   obtain⟨⟨hx,hy⟩,hm⟩:=Vy R hg hc;have hq:∀op,(eqGuard op t x y .nilIface .nilIface).run C.P w=.ok () w:=fun op=>by
    unfold eqGuard;clear hx hy hc ho;rcases hm with ⟨v,rfl⟩|⟨v,rfl⟩<;>cases op<;>simp
   have key:∀b:Bool,(eqGuard op t x y .nilIface .nilIface>>=fun _=>binOp op t .nilIface .nilIface).run C.P w=.ok (.bool b) w->(execOp a.eval o).run C.P w=.ok (.value (.bool b)) w:=fun b h=>by
    simp only[execOp,ho,hx,hy];rw[Sem.run_bind,h];rfl
   show cz C E st g s a w o (qN C op t);unfold qN;split
   . rename_i hk;have h3:=((G.ti t).of (by rw[hk];simp)).1;rw[hk] at h3;obtain⟨ms,h3⟩:=h3;refine aa.ret (aD.pure R _ w (key true ?_) (aY.refl w) fw);rw[Sem.run_bind,hq];show(Op.equal t .nilIface .nilIface>>=fun b=>pure (Value.bool b)).run C.P w=_;rw[Sem.run_bind,Ie h3];rfl
   . rename_i hk;have h3:=((G.ti t).of (by rw[hk];simp)).1;rw[hk] at h3;obtain⟨ms,h3⟩:=h3;refine aa.ret (aD.pure R _ w (key false ?_) (aY.refl w) fw);rw[Sem.run_bind,hq];show(Op.equal t .nilIface .nilIface>>=fun b=>pure (Value.bool (!b))).run C.P w=_;rw[Sem.run_bind,Ie h3];rfl
   . exact aa.fail
end
end Go.VG
namespace Go.VG
open Go

section
variable {C:Ctx} {E:Env} {st:St} {g:aw} {s:AS} {a:Act} {w:World} {o:Oper} {e:Ef}

theorem s_un{op:UnOp} {t:TypeId} {x:Operand} (R:Rel E st g s a w) (hg:aV C.gl st) (ho:o.op=.unOp op t x):
   cz C E st g s a w o (fy (vz op (s.ev C x)) fun v=>ret (pe v)):=by
 have hx:=bn R hg x;refine aa.bind (Ir _ _) fun v hv=>aa.ret ?_;have hv:=hv (fun u=>u=v) rfl;unfold vz at hv;cases hX:s.ev C x<;>cases op<;>simp only[hX] at hv<;>first
  |exact hv.elim
  |skip
 all_goals
  rw[hX] at hx;simp only[VR] at hx;cases hv
 case int.neg k n=>exact aD.pure R _ w (by simp[execOp,ho,hx.1,Op.unary,Op.intArith]) (aY.refl w) (gN (mn _ _))
 case int.xor k n=>exact aD.pure R _ w (by simp only[execOp,ho,hx.1,Op.unary,Op.intBits];rfl) (aY.refl w) (gN (mn _ _))
 case bool.not b=>exact aD.pure R _ w (by simp[execOp,ho,hx,Op.unary]) (aY.refl w) fw

theorem O6(s:g8) (i:Nat):(⟨s.toArray⟩:ByteArray)[i]?=s[i]?:=by
 by_cases h:i<s.length
 . have h':i<(⟨s.toArray⟩:ByteArray).size:=by show i<s.toArray.size;simpa using h
   rw[ByteArray.getElem?_lt' _ _ h',am h];rfl
 . have h':¬i<(⟨s.toArray⟩:ByteArray).size:=by show¬i<s.toArray.size;simpa using h
   rw[ByteArray.getElem?_ge' _ _ h',dl (by omega)]

theorem Bi(b:UInt8):IntKind.u8.min<=(b.toNat:Int)/\(b.toNat:Int)<=IntKind.u8.max:=by
 have:=b.toNat_lt;simp[IntKind.min,IntKind.max,IntKind.signed,IntKind.bits];omega

theorem Xx{t:TypeId} {x ix:Operand} (R:Rel E st g s a w) (hg:aV C.gl st) (G:Good C) (ho:o.op=.index t x ix):cz C E st g s a w o (vu C s t x ix):=by
 unfold vu;simp only[mL];have hx:=bn R hg x;have hi:=bn R hg ix;split
 . rename_i p k n hk he hn;rw[he] at hx;rw[hn] at hi;simp only[VR] at hx hi;have h3:=((G.ti t).of (by rw[hk];simp)).1;rw[hk] at h3;refine aa.aR fun h0=>aa.opt fun b hb=>aa.ret (aD.pure R (.int .u8 b.toNat) w ?_ (aY.refl w) (gN (Bi b)));have hb':(⟨p.toArray⟩:ByteArray)[n.toNat]?=some b:=by rw[O6];exact hb
   simp[execOp,ho,hx.1,hi.1,Instr.index,asIntOf,run_underlying h3,h0,hb']
 . rename_i m e cs k n hk he hn;rw[he] at hx;rw[hn] at hi;simp only[VR] at hx hi;obtain⟨vs,hx,hc⟩:=hx;have h3:=((G.ti t).of (by rw[hk];simp)).1;rw[hk] at h3;split
   . exact aa.fail
   rename_i hk2;refine aa.aR fun h0=>aa.bind (mT _ _ _ _) fun v hv=>?_;rw[force_eq];obtain⟨u,h8,h9⟩:=Mc (w:=w) G (fun h=>hk2 h) hc hv;refine aa.ret (aD.pure R u w ?_ (aY.refl w) h9);simp[execOp,ho,hx,hi.1,Instr.index,asIntOf,run_underlying h3,h0,fY w (G.ti e) (fun h=>hk2 h),h8]
 . exact aa.fail

theorem NX{l:List V} {sz b o:Nat} (h:cq st g l sz (st b) o) {i:Nat} {y:V} (hy:l[i]?=some y) (hu:y.eX=false):
   VR st g (.box y.cells 0) 0 (.pointer (some ⟨b,o+i*sz,none⟩)):=by
 obtain⟨u,r1,r2,r3,r4⟩:=gO.1 h i y hy;have r5:=jU r1 hu;simp only[VR];refine⟨b,o+i*sz,u.cells.toList,rfl,r5,fun j hj=>?_⟩;have:=r4 j (by rw[<-r2];simpa using hj);simpa using this

theorem Xy{t:TypeId} {x ix:Operand} (R:Rel E st g s a w) (hg:aV C.gl st) (G:Good C) (ho:o.op=.indexAddr t x ix):cz C E st g s a w o (sW C s t x ix):=by
 unfold sW;simp only[mL];have hx:=bn R hg x;have hi:=bn R hg ix;split
 . rename_i e clip sz l k n hk he hn;rw[he] at hx;rw[hn] at hi;simp only[VR] at hx hi;obtain⟨base,cap,hx,h1,h2,h3,h4⟩:=hx;have h5:=((G.ti t).of (by rw[hk];simp)).1;rw[hk] at h5;split
   . exact aa.fail
   rename_i hk2;refine aa.when fun hsz=>aa.aR fun h0=>aa.opt fun y hy=>aa.when fun hu=>aa.ret ?_;have hsz:=cb hsz;have hlt:n.toNat<l.length:=by
    rcases eg n.toNat l.length with h'|h'
    . exact h'
    . simp[dl h'] at hy
   rcases h4 with h4|⟨b,of,h6,h7,h8⟩
   . subst h4;simp at hlt
   . refine aD.pure R (.pointer (some ⟨b,of+n.toNat*sz,none⟩)) w ?_ (aY.refl w) (gw (fun _ _ _ h=>h) (fun i _ hi=>absurd hi (Nat.not_lt_zero _)) (NX h8 hy (by simpa using hu)));have hlt':n<(l.length:Int):=by omega
     simp[execOp,ho,hx,hi.1,Instr.indexAt,asIntOf,run_underlying h5,h0,hlt',h6,fY w (G.ti e) (fun h=>hk2 h),<-hsz,Addr.add_lit]
 . rename_i e i k n hk he hn;rw[he] at hx;rw[hn] at hi;simp only[VR] at hx hi;obtain⟨hil,hx⟩:=hx;have h5:=((G.ti t).of (by rw[hk];simp)).1;rw[hk] at h5;split
   . exact aa.fail
   rename_i hk2;split
   . rename_i sz pre l hs;obtain⟨hs1,_⟩:=eU hs (by simp);obtain⟨q1,q2,q3,q4,q5,q6,q7⟩:=R.wr.ob i _ hs1;refine aa.when fun hsz=>aa.aR fun h0=>aa.ret ?_;have hsz:=cb hsz;rcases q7 with ⟨q7,_⟩|⟨b',c,el,fr,k1,k2,k3,k4,k5,k6,_⟩
     . exact absurd h0.2 (by omega)
     . refine aD.pure R (.pointer (some ⟨b',n.toNat*sz,none⟩)) w ?_ (aY.refl w) (by simp only[VR];exact⟨hil,b',k1,by rw[q2,Nat.add_zero]⟩);have hlt':n<((g i).len:Int):=by omega
       simp[execOp,ho,hx,hi.1,Instr.indexAt,asIntOf,run_underlying h5,h0.1,hlt',k2,fY w (G.ti e) (fun h=>hk2 h),<-hsz,Addr.add_lit]
   . exact aa.fail
 . rename_i m e i off k n hk he hn;rw[he] at hx;rw[hn] at hi;simp only[VR] at hx hi;obtain⟨hil,b,hb,hx⟩:=hx;have h5:=((G.ti t).of (by rw[hk];simp)).1;rw[hk] at h5;split
   . exact aa.fail
   rename_i hk2;refine aa.aR fun h0=>?_;rw[dN];refine aa.ret (aD.pure R (.pointer (some ⟨b,off+n.toNat*(C.ti e).size,none⟩)) w ?_ (aY.refl w) (by simp only[VR];exact⟨hil,b,hb,rfl⟩));simp[execOp,ho,hx,hi.1,Instr.indexAt,asIntOf,run_underlying h5,h0,Instr.sureAddr,fY w (G.ti e) (fun h=>hk2 h),Addr.add_lit]
 . rename_i m e cs off k n hk he hn;rw[he] at hx;rw[hn] at hi;simp only[VR] at hx hi;obtain⟨b,of,vs,hx,h1,h2⟩:=hx;have h5:=((G.ti t).of (by rw[hk];simp)).1;rw[hk] at h5;split
   . exact aa.fail
   rename_i hk2;refine aa.aR fun h0=>?_;rw[dN];refine aa.ret (aD.pure R (.pointer (some ⟨b,of+off+n.toNat*(C.ti e).size,none⟩)) w ?_ (aY.refl w) (by simp only[VR];exact⟨b,of,vs,by rw[Nat.add_assoc],h1,h2⟩));simp[execOp,ho,hx,hi.1,Instr.indexAt,asIntOf,run_underlying h5,h0,Instr.sureAddr,fY w (G.ti e) (fun h=>hk2 h),Addr.add_lit]
 . exact aa.fail

theorem Xi{x:Operand} {t0 t:TypeId} {ok:Bool} (R:Rel E st g s a w) (hg:aV C.gl st) (G:Good C) (ho:o.op=.typeAssert x t0 t ok):cz C E st g s a w o (vn C s x t ok):=by
 unfold vn;have hx:=bn R hg x;have hz:(C.ti t).k≠.other->∃z,(zeroValue t).run C.P w=.ok z w/\∀(st:St) (g:aw) (n:Nat),VR st g (C.ti t).zero n z:=fun h=>zt w (G.ti t) h;split
 . exact aa.fail
 . exact aa.fail
 . rename_i u v he h1 h2;rw[he] at hx;simp only[VR] at hx;obtain⟨v',hx,hv⟩:=hx;have hk:(C.ti t).k≠.other:=fun h=>h1 h;obtain⟨d,hd,hni⟩:∃d,C.P.underlying t=some d/\∀ms,d≠.interface ms:=by
    have h3:=((G.ti t).of hk).1;cases hk':(C.ti t).k<;>rw[hk'] at h3<;>simp only[TK.ok] at h3
    case struct fs=>obtain⟨f,h3,_⟩:=h3;exact⟨_,h3,by simp⟩
    case iface=>exact absurd hk' (fun h=>h2 h)
    case func=>obtain⟨p,q,r,h3⟩:=h3;exact⟨_,h3,by simp⟩
    all_goals exact⟨_,h3,by simp⟩
   obtain⟨z,hz1,hz2⟩:=hz hk;have hr:∀(b:Bool),Nat.beq u t=b->(Instr.typeAssert (.iface u v') t0 t ok).run C.P w=(if b then .ok (if ok then .tuple #[v',.bool true] else v') w else if ok then .ok (.tuple #[z,.bool false]) w else(Instr.typeAssert (.iface u v') t0 t ok).run C.P w):=fun b hb=>by
    cases b with
    |true=>
      have:=cb hb;subst this;unfold Instr.typeAssert;cases d<;>first
       |(rename_i ms;exact absurd rfl (hni ms))
       |simp[run_underlying hd]
    |false=>
      cases ok with
      |false=>rfl
      |true=>
        have hne:u≠t:=fun h=>by subst h;rw[Nat.beq_refl] at hb;cases hb
        unfold Instr.typeAssert;cases d<;>first
         |(rename_i ms;exact absurd rfl (hni ms))
         |simp[run_underlying hd,hne,hz1]
   split
   . rename_i hb;have h4:=hr true hb;exact aa.ret (aD.pure R _ w (by simp[execOp,ho,hx,h4];rfl) (aY.refl w) (by simp only[VR];exact⟨_,rfl,cu hv (cu fw dD)⟩))
   . rename_i hb;have h4:=hr true hb;exact aa.ret (aD.pure R _ w (by simp[execOp,ho,hx,h4]) (aY.refl w) hv)
   . rename_i hb;have h4:=hr false hb;rw[force_eq];exact aa.when fun hu=>aa.ret (aD.pure R _ w (by simp[execOp,ho,hx,h4];rfl) (aY.refl w) (by simp only[VR];exact⟨_,rfl,cu (hz2 _ _ _) (cu fw dD)⟩))
   . exact aa.fail
 . rename_i he h1 h2;rw[he] at hx;simp only[VR] at hx;have hk:(C.ti t).k≠.other:=fun h=>h1 h;obtain⟨d,hd,hni⟩:∃d,C.P.underlying t=some d/\∀ms,d≠.interface ms:=by
    have h3:=((G.ti t).of hk).1;cases hk':(C.ti t).k<;>rw[hk'] at h3<;>simp only[TK.ok] at h3
    case struct fs=>obtain⟨f,h3,_⟩:=h3;exact⟨_,h3,by simp⟩
    case iface=>exact absurd hk' (fun h=>h2 h)
    case func=>obtain⟨p,q,r,h3⟩:=h3;exact⟨_,h3,by simp⟩
    all_goals exact⟨_,h3,by simp⟩
   obtain⟨z,hz1,hz2⟩:=hz hk;split
   . rw[force_eq];have hr:(Instr.typeAssert .nilIface t0 t true).run C.P w=.ok (.tuple #[z,.bool false]) w:=by
      unfold Instr.typeAssert;cases d<;>first
       |(rename_i ms;exact absurd rfl (hni ms))
       |simp[run_underlying hd,hz1]
     exact aa.when fun hu=>aa.ret (aD.pure R _ w (by simp[execOp,ho,hx,hr];rfl) (aY.refl w) (by simp only[VR];exact⟨_,rfl,cu (hz2 _ _ _) (cu fw dD)⟩))
   . exact aa.fail
 . exact aa.fail
end
end Go.VG
namespace Go.VG
open Go

section
variable {C:Ctx} {E:Env} {st:St} {g:aw} {s:AS} {a:Act} {w:World} {o:Oper} {e:Ef}

theorem zj{len:Nat} {lo hi:Option Operand} (R:Rel E st g s a w) (hg:aV C.gl st):
   aa (fun r=>∃l h:Nat,l<=h/\h<=len/\(∀(isSlice:Bool) (cap:Nat),len<=cap->(Instr.sliceBounds isSlice len cap (lo.map a.eval) (hi.map a.eval) none).run C.P w=.ok (l,h,cap) w)/\
    (∀{α:Type} (xs:List α),xs.length=len->sD xs r=(xs.take h).drop l)) (ka C s len lo hi):=by
 have hv:=bn (C:=C) R hg;unfold ka;split
 . exact aa.ret ⟨0,len,by omega,by omega,fun b cap hc=>by simp[Instr.sliceBounds],fun xs hx=>by simp[sD,<-hx]⟩
 . rename_i l;split
   . rename_i k n he;have h1:=hv l;rw[he] at h1;simp only[VR] at h1;refine aa.aR fun h0=>aa.ret ⟨n.toNat,len,by omega,by omega,fun b cap hc=>?_,fun xs hx=>by simp[sD,<-hx]⟩;simp[Instr.sliceBounds,h1.1,run_sliceBound _ k n len _ h0.1 h0.2]
   . exact aa.fail
 . rename_i h;split
   . rename_i k n he;have h1:=hv h;rw[he] at h1;simp only[VR] at h1;refine aa.aR fun h0=>aa.ret ⟨0,n.toNat,by omega,by omega,fun b cap hc=>?_,fun xs hx=>by simp[sD]⟩;simp[Instr.sliceBounds,h1.1,run_sliceBound _ k n cap _ h0.1 (by omega)]
   . exact aa.fail
 . rename_i l h;split
   . rename_i k n k' n' he he';have h1:=hv l;have h2:=hv h;rw[he] at h1;rw[he'] at h2;simp only[VR] at h1 h2;refine aa.aR fun h0=>aa.ret ⟨n.toNat,n'.toNat,by omega,by omega,fun b cap hc=>?_,fun xs hx=>by simp[sD]⟩;simp[Instr.sliceBounds,h1.1,h2.1,run_sliceBound _ k' n' cap _ (by omega) (by omega),run_sliceBound _ k n n'.toNat _ h0.1 (by omega)]
   . exact aa.fail

theorem Hg(s:g8) (l h:Nat):(⟨s.toArray⟩:ByteArray).extract l h=⟨((s.take h).drop l).toArray⟩:=by
 apply ByteArray.ext;simp[List.extract_eq_take_drop,List.drop_take]

theorem NZ{l:List V} {sz b o:Nat} (h:cq st g l sz (st b) o) (k:Nat):cq st g (l.drop k) sz (st b) (o+k*sz):=by
 rw[gO] at h⊢;intro i x hx;rw[List.getElem?_drop] at hx;obtain⟨u,h1,h2,h3,h4⟩:=h (k+i) x hx;refine⟨u,h1,h2,h3,fun j hj=>?_⟩;have:=h4 j hj;rw[Nat.add_mul] at this;rw[<-this];congr 1;omega
theorem B0{l:List V} {sz:Nat} {look:Nat->Option Value} {o:Nat} (h:cq st g l sz look o) (k:Nat):cq st g (l.take k) sz look o:=by
 rw[gO] at h⊢;intro i x hx;rw[List.getElem?_take] at hx;split at hx
 . exact h i x hx
 . cases hx

theorem rN{sz esz:Nat} {l:List V} (h:ju sz esz l=true):sz=esz\/l=[]:=by
 unfold ju at h;split at h
 . rename_i hb;exact .inl (cb hb)
 . split at h
   . exact .inr rfl
   . cases h

theorem sk(s:AS) (d:Option Nat) (x:V) (ks:List Nat) (i:Nat) (ob:O) (rd:List Nat):(s.app d ⟨x,ks,[(i,ob)],[],rd⟩).sg=(s.sg.map (O.kill ks)).set i ob:=by
 simp[AS.app,rf,dk,jC,jg]

def bL(st:St) (b:Nat) (c:Array Value):St:=fun b' o=>if b'=b then c[o]? else st b' o
theorem aD.freeze{x:V} {rd:List Nat} {i:Nat} {b:Nat} {c:Array Value} {el:TypeId} {fr:Nat×Nat} (R:Rel E st g s a w) (hi:i<s.sg.length) (hb:(g i).blk=some b) (hG:E.G b)
   (hw:w.heap[b]?=some (.cells c el fr)) (v:Value) (hr:(execOp a.eval o).run C.P w=.ok (.value v) w) (hv:VR (bL st b c) g x s.sg.length v):
   aD C E st g s a w o ⟨x,[i],[(i,.dead)],[],rd⟩:=by
 have hlen:(s.app o.dst ⟨x,[i],[(i,.dead)],[],rd⟩).sg.length=s.sg.length:=by rw[sk];simp
 have hmono:∀b' o' v',st b' o'=some v'->bL st b c b' o'=some v':=fun b' o' v' h=>by
  simp only[bL];split
  . rename_i e;subst e;rw[<-gS hw];exact R.wr.stw _ _ _ h
  . exact h
 have hg:br g i (g i) =g:=by funext j;simp only[br];split<;>simp_all
 have A:jS E st g s.sg.length (bL st b c) g (s.app o.dst ⟨x,[i],[(i,.dead)],[],rd⟩).sg.length [i]:=by
  rw[hlen];exact⟨hmono,fun _ _ _=>rfl,co _⟩
 have W:=R.wr.iM (st':=bL st b c) (w':=w) i hi [i] (g i) .dead
  ⟨rfl,rfl,rfl,co _,fun _ _ _=>rfl,fun b' hb'=>(R.wr.cF hi hb').2,hmono,fun b' o' v' h=>by
   simp only[bL] at h;split at h
   . rename_i e;subst e;exact .inr ⟨hG,by rw[gS hw];exact h⟩
   . exact .inl h,fun b' o' v' hb' h=>R.wr.stw _ _ _ h⟩
  (.inl rfl) (fun b' hb'=>.inl hb') (fun j b' hj hne hb' o' v' h=>by
   simp only[bL] at h;split at h
   . rename_i e;subst e;exact absurd (R.wr.inj j i b' hj hi hb' hb) hne
   . exact h) (fun b' hb'=>R.wr.cF hi hb')
 rw[hg] at W;refine aD.val v w _ g hr A ?_ (by rw[hlen];exact hv);rw[sk];exact W

theorem aD.iM{x:V} {ks rd:List Nat} {i:Nat} {ob:O} (R:Rel E st g s a w) (hi:i<s.sg.length) (v:Value) (w':World) (gi:Gh)
   (hr:(execOp a.eval o).run C.P w=.ok (.value v) w'\/((execOp a.eval o).run C.P w=.ok .skip w'/\v=undef))
   (c:dm E st st w w' (fun b=>(g i).blk=some b)) (hks:gi=g i\/aQ i ks=true) (hblk:∀b,gi.blk=some b->(g i).blk=some b\/b=w.heap.size)
   (ho:dK E st (br g i gi) s.sg.length w' gi ob) (hv:VR st (br g i gi) x s.sg.length v):aD C E st g s a w o ⟨x,ks,[(i,ob)],[],rd⟩:=by
 have hlen:(s.app o.dst ⟨x,ks,[(i,ob)],[],rd⟩).sg.length=s.sg.length:=by rw[sk];simp
 have A:jS E st g s.sg.length st (br g i gi) (s.app o.dst ⟨x,ks,[(i,ob)],[],rd⟩).sg.length ks:=by
  rw[hlen];refine⟨fun _ _ _ h=>h,fun j hj hm=>?_,co _⟩;by_cases e:j=i
  . subst e;rw[dP];rcases hks with h|h
    . exact h
    . rw[hm] at h;cases h
  . exact cI e
 have W:aO E st (br g i gi) (s.app o.dst ⟨x,ks,[(i,ob)],[],rd⟩).sg w':=by
  rw[sk];exact R.wr.iM i hi ks gi ob c hks hblk (fun _ _ _ _ _ _ _ h=>h) ho
 rcases hr with hr|⟨hr,rfl⟩
 . exact aD.val v w' st _ hr A W (by rw[hlen];exact hv)
 . exact aD.skip w' st _ hr A W (by rw[hlen];exact hv)

def lC(st:St) (b:Nat) (c:Array Value) (m:Nat):St:=fun b' o=>if b'=b/\o<m then c[o]? else st b' o
theorem aD.snap{x:V} {rd:List Nat} {i:Nat} {b:Nat} {c:Array Value} {el:TypeId} {fr:Nat×Nat} {m:Nat} {ob:O} (R:Rel E st g s a w) (hi:i<s.sg.length) (hb:(g i).blk=some b) (hG:E.G b)
   (hw:w.heap[b]?=some (.cells c el fr)) (v:Value) (hr:(execOp a.eval o).run C.P w=.ok (.value v) w) (hv:(∀b' o' v',st b' o'=some v'->lC st b c m b' o'=some v')->VR (lC st b c m) g x s.sg.length v)
   (ho:(∀b' o' v',st b' o'=some v'->lC st b c m b' o'=some v')->dK E (lC st b c m) g s.sg.length w (g i) ob):
   aD C E st g s a w o ⟨x,[],[(i,ob)],[],rd⟩:=by
 have hlen:(s.app o.dst ⟨x,[],[(i,ob)],[],rd⟩).sg.length=s.sg.length:=by rw[sk];simp
 have hmono:∀b' o' v',st b' o'=some v'->lC st b c m b' o'=some v':=fun b' o' v' h=>by
  simp only[lC];split
  . rename_i e;obtain⟨rfl,_⟩:=e;rw[<-gS hw];exact R.wr.stw _ _ _ h
  . exact h
 have hg:br g i (g i) =g:=by funext j;simp only[br];split<;>simp_all
 have A:jS E st g s.sg.length (lC st b c m) g (s.app o.dst ⟨x,[],[(i,ob)],[],rd⟩).sg.length []:=by
  rw[hlen];exact⟨hmono,fun _ _ _=>rfl,co _⟩
 have W:=R.wr.iM (st':=lC st b c m) (w':=w) i hi [] (g i) ob
  ⟨rfl,rfl,rfl,co _,fun _ _ _=>rfl,fun b' hb'=>(R.wr.cF hi hb').2,hmono,fun b' o' v' h=>by
   simp only[lC] at h;split at h
   . rename_i e;obtain⟨rfl,_⟩:=e;exact .inr ⟨hG,by rw[gS hw];exact h⟩
   . exact .inl h,fun b' o' v' hb' h=>R.wr.stw _ _ _ h⟩
  (.inl rfl) (fun b' hb'=>.inl hb') (fun j b' hj hne hb' o' v' h=>by
   simp only[lC] at h;split at h
   . rename_i e;obtain⟨rfl,_⟩:=e;exact absurd (R.wr.inj j i b' hj hi hb' hb) hne
   . exact h) (by rw[hg];exact ho hmono)
 rw[hg] at W;refine aD.val v w _ g hr A ?_ (by rw[hlen];exact hv hmono);rw[sk];exact W
theorem Xf{t:TypeId} (R:Rel E st g s a w) (G:Good C) (ho:o.op=.alloc t):cz C E st g s a w o (ni C s o.dst t):=by
 unfold ni;split
 . split
   . rename_i k _;split
     . rename_i hd;split
       . exact aa.fail
       . rename_i hk;rw[force_eq];refine aa.when fun hu=>aa.ret ?_;simp only[aA,Bool.not_eq_true'] at hu;obtain⟨⟨hkl,hu⟩,hp⟩:=hu;have hkl:=d9 hkl;have hil:k<s.sg.length:=hkl;obtain⟨z,hz,hz'⟩:=zt w (G.ti t) (fun h=>hk h);have hc:=jU (hz' st (br g k ⟨some w.heap.size,none,0,0,0⟩) s.sg.length) hu;refine aD.iM R hil (.pointer (some ⟨w.heap.size,0,none⟩)) (w.alloc (.cells z.cells t)) ⟨some w.heap.size,none,0,0,0⟩ (.inl ?_)
          ⟨rfl,rfl,rfl,by simp,fun b hb _=>pJ hb,fun b hb=>(R.wr.cF hil hb).2,fun _ _ _ h=>h,fun _ _ _ h=>.inl h,fun b o v hb h=>?_⟩
          (.inr (by simp[aQ,Nat.beq_refl])) (fun b hb=>.inr (by simpa using hb.symm)) ?_ ?_
         . simp[execOp,ho,Instr.alloc,hz,newVar,newRow]
         . rw[qq (pJ (R.wr.cF hil hb).1)];exact R.wr.stw _ _ _ h
         . exact⟨w.heap.size,z.cells,t,(0,0),rfl,R.wr.gnew _ R.wr.size,heap_alloc_new,hc,⟨by simp,by intro o _;simp⟩,R.wr.ml⟩
         . simp only[VR];exact⟨hil,w.heap.size,by rw[dP],rfl⟩
     . exact aa.fail
   . exact Md R G ho
 . exact Md R G ho
theorem D6{cs:List V} {i:Nat} {x:V} (h:ew cs=true) (hx:cs[i]?=some x):x.one=true:=by
 induction cs generalizing i with
 |nil=>simp at hx
 |cons c cs ih=>
   simp only[ew,aA] at h;cases i with
   |zero=>simp at hx;subst hx;exact h.1
   |succ i=>exact ih h.2 (by simpa using hx)
theorem WE{cs:List V} {i:Nat} {x:V} (h:V.fX cs=true) (hx:cs[i]?=some x):x.pure=true:=by
 induction cs generalizing i with
 |nil=>simp at hx
 |cons c cs ih=>
   simp only[V.fX,aA] at h;cases i with
   |zero=>simp at hx;subst hx;exact h.1
   |succ i=>exact ih h.2 (by simpa using hx)
mutual
theorem wy{x:V} (h:x.pure=true) (i:Nat):x.has i=false:=by
 cases x<;>simp only[V.pure] at h<;>first
  |(simp[V.has];done)
  |cases h
  |(simp only[V.has];exact wx h i)
  |(simp only[V.has];exact wy h i)
  |(simp only[V.has,aA] at h⊢;rw[wx h.1 i,wx h.2 i];rfl)
theorem wx{xs:List V} (h:V.fX xs=true) (i:Nat):V.ij i xs=false:=by
 cases xs with
 |nil=>simp[V.ij]
 |cons x xs=>
   simp only[V.fX,aA] at h;simp only[V.ij];rw[wy h.1 i,wx h.2 i];rfl
end
theorem za{x:V} {n:Nat} {v:Value} (h:VR st g x n v) (ho:x.one=true):v.oneCell'=true:=by
 cases x<;>first
  |(simp[V.one] at ho;done)
  | (simp only [VR] at h
     first
      |(subst h;rfl)
      |(obtain⟨rfl,_⟩:=h;rfl)
      |(obtain⟨_,_,rfl,_⟩:=h;rfl)
      |(obtain⟨_,_,_,rfl,_⟩:=h;rfl)
      |(obtain⟨_,_,_,rfl⟩:=h;rfl)
      |(obtain⟨_,rfl⟩:=h;rfl)
      |(obtain⟨_,rfl,_⟩:=h;rfl)
      |(obtain⟨_,_,_,_,_,_,rfl⟩:=h;rfl))

theorem H4{sz:Nat} {look look':Nat->Option Value}:∀{l:List V} {o:Nat},(∀k,k<l.length*sz->look (o+k) =look' (o+k))->cq st g l sz look o->cq st g l sz look' o
 |[],_,_,_=>by simp only[cq]
 |x::xs,o,hk,h=>by
   simp only[cq] at h⊢;obtain⟨⟨u,h1,h2,h3,h4⟩,h5⟩:=h;have e:(x::xs).length*sz=sz+xs.length*sz:=by rw[List.length_cons,Nat.add_mul,Nat.one_mul,Nat.add_comm]
   rw[e] at hk;refine⟨⟨u,h1,h2,h3,fun j hj=>by rw[<-hk j (by omega)];exact h4 j hj⟩,H4 (fun k hk'=>?_) h5⟩;have:=hk (sz+k) (by omega);rw[<-Nat.add_assoc] at this;exact this
theorem Jx{look:Nat->Option Value}:∀{n:Nat} {l cs:List V} {of:Nat},tz n l=some cs->cq st g l 1 look of->n<=l.length/\∃vs,aE st g cs 0 vs/\∀j,j<vs.length->look (of+j) =vs[j]?
 |0,l,cs,of,h,_=>by
   simp only[tz,Option.some.injEq] at h;subst h;exact⟨ci _,[],dD,fun j hj=>absurd hj (Nat.not_lt_zero _)⟩
 |n+1,l,cs,of,h,hr=>by
   unfold tz at h;split at h
   . rename_i hh;simp at hh
   . rename_i n' k m l' hh;cases hh;split at h
     . rename_i r hr';cases h;simp only[cq] at hr;obtain⟨⟨u,h1,h2,h3,h4⟩,h5⟩:=hr;obtain⟨k1,vs,k2,k3⟩:=Jx hr' h5;have h1':=h1;simp only[VR] at h1';obtain⟨rfl,_⟩:=h1';refine⟨by rw[List.length_cons];omega,.int k m::vs,cu h1 k2,fun j hj=>?_⟩;cases j with
       |zero=>exact h4 0 (by omega)
       |succ j=>
         have:=k3 j (by simpa using hj);rw[show of+(j+1) =of+1+j by omega,this];rfl
     . cases h
   . cases h
theorem s_arr{t:TypeId} {x:Operand} (R:Rel E st g s a w) (hg:aV C.gl st) (G:Good C) (ho:o.op=.sliceToArrayPointer t x):cz C E st g s a w o (vm C s t x):=by
 unfold vm;have hx:=bn R hg x;split
 . rename_i n e clip sz l hk he;rw[he] at hx;simp only[VR] at hx;obtain⟨base,cap,hx,h1,h2,h8,h9⟩:=hx;have h3:=((G.ti t).of (by rw[hk];simp)).1;rw[hk] at h3;refine aa.when fun hn=>aa.opt fun cs hcs=>?_;rw[aA] at hn;have hn0:0<n:=Nat.lt_of_lt_of_le (Nat.lt_succ_self 0) (d9 hn.1);have hs1:sz=1:=cb hn.2;subst hs1;rcases h9 with h9|⟨b,of,h9,h10,h11⟩
   . subst h9;obtain⟨m,rfl⟩:∃m,n=m+1:=⟨n-1,by omega⟩
     simp[tz] at hcs
   . subst h9;obtain⟨k1,vs,k2,k3⟩:=Jx hcs h11;refine aa.ret (aD.pure R (.pointer (some ⟨b,of,none⟩)) w ?_ (aY.refl w) ?_)
     . have hlt:¬l.length<n:=by omega
       simp[execOp,ho,Instr.arrayAt,run_underlying h3,hx,hlt]
     . simp only[VR];exact⟨b,of,vs,rfl,k2,k3⟩
 . exact aa.fail
theorem XO{t:TypeId} {x:Operand} {lo hi mx:Option Operand} (R:Rel E st g s a w) (hg:aV C.gl st) (G:Good C) (ho:o.op=.slice t x lo hi mx):cz C E st g s a w o (pr C s t x lo hi mx):=by
 unfold pr;have hx:=bn R hg x;split
 . rename_i p hk he;rw[he] at hx;simp only[VR] at hx;have h3:=((G.ti t).of (by rw[hk];simp)).1;rw[hk] at h3;refine aa.bind (ot _ _ _ _ _) fun r hr=>?_;obtain⟨l,h,h4,h5,h6,h7⟩:=zj R hg r (hr _ rfl);rw[sC,h7 p rfl];refine aa.ret (aD.pure R (.string ⟨((p.take h).drop l).toArray⟩) w ?_ (aY.refl w) (by simp only[VR];exact⟨trivial,by simp;omega⟩));have hsz:(⟨p.toArray⟩:ByteArray).size=p.length:=by show p.toArray.size=_;simp
   simp[execOp,ho,Instr.sliceAt,Instr.slice,run_underlying h3,hx.1,hsz,h6 false p.length (co _),Hg p l h]
 . rename_i e clip sz l hk he;rw[he] at hx;simp only[VR] at hx;obtain⟨base,cap,hx,h1,h2,h8,h9⟩:=hx;have h3:=((G.ti t).of (by rw[hk];simp)).1;rw[hk] at h3;split
   . exact aa.fail
   rename_i hk2;refine aa.when fun hsz=>aa.bind (ot _ _ _ _ _) fun r hr=>?_;obtain⟨lo',hi',h4,h5,h6,h7⟩:=zj R hg r (hr _ rfl);rw[sC,h7 l rfl];have hrun:(execOp a.eval o).run C.P w=.ok (.value (.slice (if cap=lo' then base else base.map (·.add (lo'*(C.ti e).size))) (hi'-lo') (cap-lo'))) w:=by
    simp[execOp,ho,Instr.sliceAt,Instr.slice,run_underlying h3,hx,h6 true cap h1,fY w (G.ti e) (fun h=>hk2 h)]
   have hlen:((l.take hi').drop lo').length=hi'-lo':=by simp;omega
   refine aa.ret (aD.pure R _ w hrun (aY.refl w) ?_);simp only[VR];refine⟨_,_,by rw[hlen],by rw[hlen];omega,by rw[hlen];omega,by simp,?_⟩;rcases rN hsz with hsz|hsz
   . rcases h9 with h9|⟨b,of,h9,h10,h11⟩
     . subst h9;left;simp
     . by_cases hc:cap=lo'
       . left;apply d5;rw[hlen];omega
       . right;refine⟨b,of+lo'*(C.ti e).size,?_,by rw[hsz] at h10;rw[hsz];exact h10,?_⟩
         . rw[if_neg hc,h9];simp[Addr.add_lit]
         . rw[<-hsz];exact NZ (B0 h11 _) _
   . subst hsz;left;simp
 . rename_i e i hk he;rw[he] at hx;simp only[VR] at hx;obtain⟨hil,hx⟩:=hx;have h3:=((G.ti t).of (by rw[hk];simp)).1;rw[hk] at h3;split
   . exact aa.fail
   rename_i hk2;split
   . rename_i sz pre l hOp hs;split
     . rename_i k n hn;have hh:=bn (C:=C) R hg hOp;rw[hn] at hh;simp only[VR] at hh;obtain⟨hs1,_⟩:=eU hs (by simp);obtain⟨q1,q2,q3,q4,q5,q6,q7⟩:=R.wr.ob i _ hs1;refine aa.when fun hsz=>aa.aR fun h0=>aa.ret ?_;have hb:(Instr.sliceBounds true (g i).len (g i).cap none (some (a.eval hOp)) none).run C.P w=.ok (0,n.toNat,(g i).cap) w:=by
        simp[Instr.sliceBounds,hh.1,run_sliceBound _ k n (g i).cap _ (by omega) (by omega)]
       refine aD.iM R hil (.slice (g i).base n.toNat (g i).cap) w {g i with len:=n.toNat} (.inl ?_) ⟨rfl,rfl,rfl,co _,fun _ _ _=>rfl,fun b hb=>?_,fun _ _ _ h=>h,fun _ _ _ h=>.inl h,fun b o v _ h=>R.wr.stw _ _ _ h⟩
        (.inr (by simp[aQ])) (fun b hb=>.inl hb) ?_ ?_
       . simp[execOp,ho,Instr.sliceAt,Instr.slice,run_underlying h3,hx,hb,fY w (G.ti e) (fun h=>hk2 h)];intro _;cases(g i).base<;>simp[Addr.add_zero']
       . exact(R.wr.cF hil hb).2
       . refine⟨q1,q2,by simp;omega,by simp;omega,by simp;omega,by simp;omega,?_⟩;rcases q7 with q7|⟨b',c,el,fr,k1,k2,k3,k4,k5,k6,k7,k8⟩
         . exact .inl q7
         . exact .inr ⟨b',c,el,fr,k1,k2,k3,k4,k5,lq (fun _ _ _ h=>h) (fun _ _ h=>h) (B0 k6 _),k7,k8⟩
       . simp only[VR];exact⟨hil,by simp⟩
     . exact aa.fail
   . exact aa.fail
 . rename_i e i mo hk he;rw[he] at hx;simp only[VR] at hx;obtain⟨hil,hx⟩:=hx;have h3:=((G.ti t).of (by rw[hk];simp)).1;rw[hk] at h3;split
   . exact aa.fail
   rename_i hk2;split
   . rename_i sz pre l hOp hs;split
     . rename_i k n k' n' hn hn';have hh:=bn (C:=C) R hg hOp;rw[hn] at hh;have hm:=bn (C:=C) R hg mo;rw[hn'] at hm;simp only[VR] at hh hm;obtain⟨hs1,_⟩:=eU hs (by simp);obtain⟨q1,q2,q3,q4,q5,q6,q7⟩:=R.wr.ob i _ hs1;refine aa.when fun hsz=>aa.aR fun h0=>aa.ret ?_;have hb:(Instr.sliceBounds true (g i).len (g i).cap none (some (a.eval hOp)) (some (a.eval mo))).run C.P w=.ok (0,l.length,l.length) w:=by
        simp[Instr.sliceBounds,hh.1,hm.1,run_sliceBound _ k' n' (g i).cap _ (by omega) (by omega)];rw[run_sliceBound _ k n n'.toNat _ (by omega) (by omega)];simp;omega
       have hr:(execOp a.eval o).run C.P w=.ok (.value (.slice (g i).base l.length l.length)) w:=by
        simp[execOp,ho,Instr.sliceAt,Instr.slice,run_underlying h3,hx,hb,fY w (G.ti e) (fun h=>hk2 h)];intro _;cases(g i).base<;>simp[Addr.add_zero']
       rcases q7 with q7|⟨b,c,el,fr,k1,k2,k3,k4,k5,k6,k7,k8⟩
       . have hl:l=[]:=d5 (by omega);have hg:br g i (g i) =g:=by funext j;simp only[br];split<;>simp_all
         refine aD.iM R hil _ w (g i) (.inl hr) ⟨rfl,rfl,rfl,co _,fun _ _ _=>rfl,fun b hb=>?_,fun _ _ _ h=>h,fun _ _ _ h=>.inl h,fun b o v _ h=>R.wr.stw _ _ _ h⟩
          (.inl rfl) (fun b hb=>.inl hb) ?_ ?_
         . rw[q7.2] at hb;cases hb
         . rw[hg];exact⟨q1,q2,co _,q4,q5,q6,.inl q7⟩
         . simp only[VR];exact⟨_,_,rfl,co _,q4,fun _=>rfl,.inl hl⟩
       . have hmr:∀k:Nat,k<l.length*sz->lC st b c (l.length*sz) b k=c[k]?:=fun k hk=>by
           simp only[lC];rw[if_pos ⟨trivial,hk⟩]
         refine aD.snap (m:=l.length*sz) R hil k1 k3 k4 _ hr (fun hmono=>?_) fun hmono=>?_
         . simp only[VR];refine⟨_,_,rfl,co _,q4,fun _=>rfl,.inr ⟨b,0,k2,q1,?_⟩⟩;refine H4 ?_ (lq hmono (fun _ _ h=>h) k6);intro k hk;rw[Nat.zero_add];exact(hmr k hk).symm
         . refine⟨q1,q2,co _,q4,q5,q6,.inr ⟨b,c,el,fr,k1,k2,k3,k4,k5,lq hmono (fun _ _ h=>h) k6,k7,fun o v h=>?_⟩⟩;rcases eg o (l.length*sz) with q|q
           . exact q
           . simp only[lC] at h;rw[if_neg (fun e=>by have:=e.2;omega)] at h;have:=k8 o v h;have h9:pre*sz<=l.length*sz:=gA _ q3;omega
     . exact aa.fail
   . exact aa.fail
 . rename_i e clip sz l mo hk he;rw[he] at hx;simp only[VR] at hx;obtain⟨base,cap,hx,h1,h2,h8,h9⟩:=hx;have h3:=((G.ti t).of (by rw[hk];simp)).1;rw[hk] at h3;split
   . exact aa.fail
   rename_i hk2;split
   . rename_i hOp;split
     . rename_i k n k' n' hn hn';have hh:=bn (C:=C) R hg hOp;rw[hn] at hh;have hm:=bn (C:=C) R hg mo;rw[hn'] at hm;simp only[VR] at hh hm;refine aa.when fun hsz=>aa.aR fun h0=>?_;have hb:(Instr.sliceBounds true l.length cap none (some (a.eval hOp)) (some (a.eval mo))).run C.P w=.ok (0,n'.toNat,n'.toNat) w:=by
        simp[Instr.sliceBounds,hh.1,hm.1,run_sliceBound _ k' n' cap _ (by omega) (by omega)];rw[run_sliceBound _ k n n'.toNat _ (by omega) (by omega)];simp;omega
       have hr:(execOp a.eval o).run C.P w=.ok (.value (.slice base n'.toNat n'.toNat)) w:=by
        simp[execOp,ho,Instr.sliceAt,Instr.slice,run_underlying h3,hx,hb,fY w (G.ti e) (fun h=>hk2 h)];intro _;cases base<;>simp[Addr.add_zero']
       have hlen:(l.take n.toNat).length=n'.toNat:=by simp;omega
       refine aa.ret (aD.pure R _ w hr (aY.refl w) ?_);simp only[VR];refine⟨_,_,by rw[hlen],by rw[hlen];omega,by rw[hlen];omega,by rw[hlen];exact fun _=>rfl,?_⟩;rcases rN hsz with hsz|hsz
       . rcases h9 with h9|⟨b,of,h9,h10,h11⟩
         . subst h9;left;simp
         . exact .inr ⟨b,of,h9,h10,B0 h11 _⟩
       . subst hsz;left;simp
     . exact aa.fail
   . exact aa.fail
 . rename_i m e i a' hk he;rw[he] at hx;simp only[VR] at hx;obtain⟨hil,b,hb,hx⟩:=hx;have h3:=((G.ti t).of (by rw[hk];simp)).1;rw[hk] at h3;split
   . exact aa.fail
   rename_i k hk2;split
   . rename_i cs hs;obtain⟨hs1,_⟩:=eU hs (by simp);obtain⟨b',c,el,fr,k1,k2,k3,k4,k5,k6⟩:=R.wr.ob i _ hs1;rw[hb] at k1;cases k1;refine aa.when fun hsz=>aa.opt fun l hl=>aa.bind (ot _ _ _ _ _) fun r hr=>?_;simp only[aA,Bool.not_eq_true'] at hsz;obtain⟨⟨⟨⟨z1,z2⟩,z3⟩,z4⟩,z5⟩:=hsz;have z5:=d9 z5;have z6:1048576<=maxLen:=by decide
     have z1:=cb z1;obtain⟨hl1,hl2⟩:=AD hl;rw[vb] at hl1 hl2;have hll:l.length=m:=by rw[hl1];simp at hl2⊢;omega
     obtain⟨lo',hi',h4,h5,h6,h7⟩:=zj R hg r (hr _ rfl);rw[sC,h7 l hll];refine aa.ret (aD.freeze R hil hb k2 k3 (.slice (some ⟨b,a'+lo'*(if m=lo' then 0 else 1),none⟩) (hi'-lo') (m-lo')) ?_ ?_)
     . simp[execOp,ho,Instr.sliceAt,run_underlying h3,hx,Instr.sureAddr,h6 false m (co _),fY w (G.ti e) (fun h=>hk2 h),z1];by_cases hml:m=lo'
       . simp[hml]
       . simp[hml,Addr.add_lit]
     . have hlen:((l.take hi').drop lo').length=hi'-lo':=by simp;omega
       simp only[VR];refine⟨_,_,by rw[hlen],by rw[hlen];omega,by rw[hlen];omega,by simp,?_⟩;by_cases hml:m=lo'
       . left;apply d5;rw[hlen];omega
       . right;refine⟨b,a'+lo',by simp[hml],by omega,?_⟩;rw[gO];intro q y hy;have hyq:cs[a'+lo'+q]?=some y:=by
          rw[List.getElem?_drop,List.getElem?_take] at hy;split at hy
          . rw[hl1,List.getElem?_take] at hy;split at hy
            . rw[List.getElem?_drop] at hy;rw[<-hy];congr 1;omega
            . cases hy
          . cases hy
         obtain⟨u,q1,q2⟩:=jA k4 hyq;have hyp:y.pure=true:=WE z3 hyq;have hy1:y.one=true:=D6 z4 hyq;have hu1:=za q2 hy1;refine⟨u,gw (fun b' o' v' h=>by
          simp only[bL];split
          . rename_i e;subst e;rw[k6] at h;cases h
          . exact h) (fun j hj _=>by rw[wy hyp j] at hj;cases hj) q2,?_,?_,?_⟩
         . cases u<;>first|rfl|(simp[Value.oneCell'] at hu1)
         . intro v hv;cases u<;>simp[Value.oneCell'] at hu1<;>simp[Value.cells] at hv<;>subst hv<;>rfl
         . intro j hj;obtain rfl:j=0:=by omega
           simp only[bL,if_true];have:c[a'+lo'+q]?=some u:=by simpa using q1
           rw[Nat.mul_one,Nat.add_zero,this];cases u<;>first|rfl|(simp[Value.oneCell'] at hu1)
   . exact aa.fail
 . rename_i m e cs a' hk he;rw[he] at hx;simp only[VR] at hx;obtain⟨b,of,vs,hx,k4,k5⟩:=hx;have h3:=((G.ti t).of (by rw[hk];simp)).1;rw[hk] at h3;split
   . exact aa.fail
   rename_i k hk2;refine aa.when fun hsz=>aa.opt fun l hl=>aa.bind (ot _ _ _ _ _) fun r hr=>?_;simp only[aA,Bool.not_eq_true'] at hsz;obtain⟨⟨⟨⟨z1,z2⟩,z3⟩,z4⟩,z5⟩:=hsz;have z5:=d9 z5;have z6:1048576<=maxLen:=by decide
   have z1:=cb z1;obtain⟨hl1,hl2⟩:=AD hl;rw[vb] at hl1 hl2;have hll:l.length=m:=by rw[hl1];simp at hl2⊢;omega
   obtain⟨lo',hi',h4,h5,h6,h7⟩:=zj R hg r (hr _ rfl);rw[sC,h7 l hll];refine aa.ret (aD.pure R (.slice (some ⟨b,of+a'+lo'*(if m=lo' then 0 else 1),none⟩) (hi'-lo') (m-lo')) w ?_ (aY.refl w) ?_)
   . simp[execOp,ho,Instr.sliceAt,run_underlying h3,hx,Instr.sureAddr,h6 false m (co _),fY w (G.ti e) (fun h=>hk2 h),z1];by_cases hml:m=lo'
     . simp[hml]
     . simp[hml,Addr.add_lit]
   . have hlen:((l.take hi').drop lo').length=hi'-lo':=by simp;omega
     simp only[VR];refine⟨_,_,by rw[hlen],by rw[hlen];omega,by rw[hlen];omega,by simp,?_⟩;by_cases hml:m=lo'
     . left;apply d5;rw[hlen];omega
     . right;refine⟨b,of+a'+lo',by simp[hml],by omega,?_⟩;rw[gO];intro q y hy;have hyq:cs[a'+lo'+q]?=some y:=by
        rw[List.getElem?_drop,List.getElem?_take] at hy;split at hy
        . rw[hl1,List.getElem?_take] at hy;split at hy
          . rw[List.getElem?_drop] at hy;rw[<-hy];congr 1;omega
          . cases hy
        . cases hy
       obtain⟨u,q1,q2⟩:=jA k4 hyq;have hy1:y.one=true:=D6 z4 hyq;have hu1:=za q2 hy1;refine⟨u,q2,?_,?_,?_⟩
       . cases u<;>first|rfl|(simp[Value.oneCell'] at hu1)
       . intro v hv;cases u<;>simp[Value.oneCell'] at hu1<;>simp[Value.cells] at hv<;>subst hv<;>rfl
       . intro j hj;obtain rfl:j=0:=by omega
         have hlt:a'+lo'+q<vs.length:=by
          rcases eg (a'+lo'+q) vs.length with z|z
          . exact z
          . rw[dl z] at q1;cases q1
         have h9:=k5 _ hlt;rw[show of+a'+lo'+q*1+0=of+(a'+lo'+q) by omega,h9,q1];cases u<;>first|rfl|(simp[Value.oneCell'] at hu1)
 . exact aa.fail

theorem XQ{t:TypeId} {x:Operand} {lo hi mx:Option Operand} (R:Rel E st g s a w) (hg:aV C.gl st) (G:Good C) (ho:o.op=.slice t x lo hi mx):cz C E st g s a w o (pw C s t x lo hi mx):=by
 unfold pw;have hx:=bn R hg x;split
 . rename_i m e i a' hk he;rw[he] at hx;simp only[VR] at hx;obtain⟨hil,b,hb,hx⟩:=hx;have h3:=((G.ti t).of (by rw[hk];simp)).1;rw[hk] at h3;split
   . exact aa.fail
   rename_i k hk2;refine aa.when fun hw=>?_;rw[aA] at hw;have hs1:=cb hw.1;have hm:0<m:=Nat.lt_of_lt_of_le (Nat.lt_succ_self 0) (d9 hw.2);split
   . refine aa.ret (aD.pure R (.slice (some ⟨b,a',none⟩) m m) w ?_ (aY.refl w) ?_)
     . simp[execOp,ho,Instr.sliceAt,run_underlying h3,hx,Instr.sureAddr,Instr.sliceBounds,fY w (G.ti e) (fun h=>hk2 h),hs1];intro _;simp[Addr.add_zero']
     . simp only[VR];exact⟨hil,b,hb,_,_,.inr rfl,rfl⟩
   . rename_i l;split
     . rename_i k' n' hl;have h1:=bn (C:=C) R hg l;rw[hl] at h1;simp only[VR] at h1;refine aa.aR fun h0=>?_;simp only[dN];have hne:¬m=n'.toNat:=by omega
       refine aa.ret (aD.pure R (.slice (some ⟨b,a'+n'.toNat,none⟩) (m-n'.toNat) (m-n'.toNat)) w ?_ (aY.refl w) ?_)
       . simp[execOp,ho,Instr.sliceAt,run_underlying h3,hx,Instr.sureAddr,Instr.sliceBounds,h1.1,run_sliceBound _ k' n' m _ (by omega) (by omega),fY w (G.ti e) (fun h=>hk2 h),hs1,hne,Addr.add_lit]
       . simp only[VR];exact⟨hil,b,hb,_,_,.inr rfl,rfl⟩
     . exact aa.fail
 . rename_i e i hk he;rw[he] at hx;simp only[VR] at hx;obtain⟨hil,hx⟩:=hx;have h3:=((G.ti t).of (by rw[hk];simp)).1;rw[hk] at h3;split
   . exact aa.fail
   rename_i hk2;split
   . rename_i sz xs hs;split
     . rename_i l;split
       . rename_i k' n' hl;have h1:=bn (C:=C) R hg l;rw[hl] at h1;simp only[VR] at h1;obtain⟨hs1,_⟩:=eU hs (by simp);obtain⟨q1,q2,q3,q4,q5,q6,q7⟩:=R.wr.ob i _ hs1;refine aa.when fun hsz=>aa.aR fun h0=>?_;have hsz:=cb hsz;obtain⟨h01,h02,h03⟩:=h0;have hxp:0<xs.length:=by cases xs with
          |nil=>exact absurd rfl h03
          |cons _ _=>simp
         rcases q7 with q7|⟨b,c,el,fr,k1,k2,_⟩
         . omega
         have hb:(Instr.sliceBounds true (g i).len (g i).cap (some (a.eval l)) none none).run C.P w=.ok (n'.toNat,xs.length,(g i).cap) w:=by
          simp[Instr.sliceBounds,h1.1,q5,run_sliceBound _ k' n' xs.length _ h01 h02]
         refine aa.ret (aD.pure R (.slice (if(g i).cap=n'.toNat then some ⟨b,0,none⟩ else some ⟨b,n'.toNat*(C.ti e).size,none⟩) (xs.length-n'.toNat) ((g i).cap-n'.toNat)) w ?_ (aY.refl w) ?_)
         . simp[execOp,ho,Instr.sliceAt,Instr.slice,run_underlying h3,hx,hb,fY w (G.ti e) (fun h=>hk2 h),k2,Addr.add_lit]
         . simp only[VR];by_cases hc:(g i).cap=n'.toNat
           . exact⟨hil,b,k1,0,_,.inl (by omega),by rw[if_pos hc]⟩
           . exact⟨hil,b,k1,_,_,.inr (by rw[hsz]),by rw[if_neg hc]⟩
       . exact aa.fail
     . exact aa.fail
   . exact aa.fail
 . exact aa.fail
theorem iA(s:g8):(bl s).length=s.length:=by induction s with
 |nil=>rfl
 |cons b s ih=>simp[bl,ih]
theorem Hk(s:g8) (i:Nat):(bl s)[i]?=(s[i]?).map bv:=by induction s generalizing i with
 |nil=>simp[bl]
 |cons b s ih=>cases i<;>simp[bl,ih]
theorem NY{s:g8} {look:Nat->Option Value} {o:Nat} (h:cq st g (bl s) 1 look o) (j:Nat) (hj:j<s.length):look (o+j) =some (.int .u8 (s[j].toNat:Int)):=by
 have h1:(bl s)[j]?=some (bv s[j]):=by rw[Hk,am hj];rfl
 obtain⟨u,h2,h3,h4,h5⟩:=gO.1 h j _ h1;simp only[bv,VR] at h2;obtain⟨rfl,_⟩:=h2;have:=h5 0 (by omega);simp only[Nat.mul_one,Nat.add_zero] at this;rw[this];rfl

theorem H5{s:g8} {look:Nat->Option Value} {o:Nat} (h:∀j (hj:j<s.length),look (o+j) =some (.int .u8 (s[j].toNat:Int))):cq st g (bl s) 1 look o:=by
 rw[gO];intro i x hx;rw[Hk] at hx;cases hs:s[i]? with
 |none=>rw[hs] at hx;cases hx
 |some b=>
   rw[hs] at hx;cases hx;have hi:i<s.length:=by
    rcases eg i s.length with h'|h'
    . exact h'
    . simp[dl h'] at hs
   have hb:s[i]=b:=by rw[am hi] at hs;simpa using hs
   refine⟨.int .u8 (b.toNat:Int),gN (Bi b),rfl,by simp[Value.cells,Value.oneCell'],fun j hj=>?_⟩;have:j=0:=by omega
   subst this;simp only[Nat.mul_one,Nat.add_zero];rw[h i hi,hb];rfl

structure oX(E:Env) (st:St) (g:aw) (w:World) (v:Value) (sz:Nat) (l:List V):Prop where
 len:(∃base cap,v=.slice base l.length cap/\(l=[]\/∃b o,base=some ⟨b,o,none⟩/\0<sz/\cq st g l sz (fun k=>w.cell? ⟨b,k,none⟩) o))\/(sz=1/\∃s,l=bl s/\v=.string ⟨s.toArray⟩)
 max:l.length<=maxLen

theorem vh{x:Operand} (R:Rel E st g s a w) (hg:aV C.gl st):aa (fun r=>oX E st g w (a.eval x) r.1 r.2.1/\∀i,aQ i r.2.2=false->∀j,s.ev C x=.buf j->j≠i) (elems s (s.ev C x)):=by
 have hx:=bn (C:=C) R hg x;unfold elems;split
 . rename_i clip sz l he;rw[he] at hx;simp only[VR] at hx;obtain⟨base,cap,hx,h1,h2,h8,h9⟩:=hx;refine aa.ret ⟨⟨.inl ⟨base,cap,hx,?_⟩,h2⟩,fun i _ j hj=>by rw[he] at hj;cases hj⟩;rcases h9 with h9|⟨b,o,h9,h10,h11⟩
   . exact .inl h9
   . exact .inr ⟨b,o,h9,h10,lq (fun _ _ _ h=>h) (fun k v hk=>R.wr.stw _ _ _ hk) h11⟩
 . rename_i p he;rw[he] at hx;simp only[VR] at hx;refine aa.ret ⟨⟨.inr ⟨rfl,p,rfl,hx.1⟩,?_⟩,fun i _ j hj=>by rw[he] at hj;cases hj⟩;show(bl p).length<=maxLen;rw[iA];exact hx.2
 . rename_i i he;rw[he] at hx;simp only[VR] at hx;obtain⟨hil,hx⟩:=hx;split
   . rename_i sz pre l hs;obtain⟨hs1,_⟩:=eU hs (by simp);obtain⟨q1,q2,q3,q4,q5,q6,q7⟩:=R.wr.ob i _ hs1;refine aa.ret ⟨⟨.inl ⟨(g i).base,(g i).cap,by rw[hx,q5],?_⟩,q4⟩,fun k hk j hj=>?_⟩
     . rcases q7 with ⟨q7,_⟩|⟨b',c,el,fr,k1,k2,k3,k4,k5,k6,k7,k8⟩
       . left;apply d5;show l.length=0;omega
       . exact .inr ⟨b',0,k2,q1,lq (fun _ _ _ h=>h) (fun k v hk=>by rw[gS k4];exact hk) k6⟩
     . rw[he] at hj;cases hj;intro e;subst e;simp[aQ,Nat.beq_refl] at hk
   . exact aa.fail
 . exact aa.fail

theorem Xo{src dst:TypeId} {x:Operand} (R:Rel E st g s a w) (hg:aV C.gl st) (G:Good C) (ho:o.op=.convert src dst x):cz C E st g s a w o (lA C s src dst (s.ev C x)):=by
 have hx:=bn (C:=C) R hg x;have hel:=vh (C:=C) (x:=x) R hg;unfold lA;split
 . exact aa.fail
 . rename_i k d n hs he hd;rw[he] at hx;simp only[VR] at hx;obtain⟨d0,hd0⟩:∃d,C.P.underlying src=some d:=by
    have h3:=((G.ti src).of (fun h=>hd h)).1;cases hk':(C.ti src).k<;>rw[hk'] at h3<;>simp only[TK.ok] at h3
    case struct fs=>obtain⟨f,h3,_⟩:=h3;exact⟨_,h3⟩
    case iface=>obtain⟨p,h3⟩:=h3;exact⟨_,h3⟩
    case func=>obtain⟨p,q,r,h3⟩:=h3;exact⟨_,h3⟩
    all_goals exact⟨_,h3⟩
   have h3:=((G.ti dst).of (by rw[hs];simp)).1;rw[hs] at h3;refine aa.ret (aD.pure R (.int k (k.wrap n)) w ?_ (aY.refl w) (gN (mn _ _)));simp[execOp,ho,hx.1,convert,run_underlying hd0,run_underlying h3,Conv.intToInt]
 . rename_i p hs hd he;rw[he] at hx;have hx':=hx;simp only[VR] at hx;have h3:=((G.ti src).of (by rw[hs];simp)).1;rw[hs] at h3;have h4:=((G.ti dst).of (by rw[hd];simp)).1;rw[hd] at h4;refine aa.ret (aD.pure R (a.eval x) w ?_ (aY.refl w) hx');simp[execOp,ho,hx.1,convert,run_underlying h3,run_underlying h4]
 . rename_i e p hs hd he;rw[he] at hx;simp only[VR] at hx;have h3:=((G.ti src).of (by rw[hs];simp)).1;rw[hs] at h3;have h4:=((G.ti dst).of (by rw[hd];simp)).1;rw[hd] at h4;split
   . rename_i hk;have h5:=((G.ti e).of (by rw[hk];simp)).1;rw[hk] at h5;have hsz:(⟨p.toArray⟩:ByteArray).size=p.length:=by show p.toArray.size=_;simp
     have hr:=Go.run_bytes_of_string w src dst e ⟨p.toArray⟩ h3 h4 h5;rw[hsz] at hr;refine aa.ret ?_;have hW:=(R.wr.same (w':=w.drew) ⟨rfl,rfl,rfl,rfl⟩).B6 (bytesRow ⟨p.toArray⟩ (grownCap w p.length 0 e)) e
      ((bytesRow ⟨p.toArray⟩ (grownCap w p.length 0 e)).size,(bytesRow ⟨p.toArray⟩ (grownCap w p.length 0 e)).size+1) p.length
     refine aD.val _ _ _ g (by simp only[execOp,ho,hx.1];rw[Sem.run_bind,hr];rfl) ⟨p8 R.wr.ml,fun _ _ _=>rfl,by rw[j7];exact co _⟩ (by rw[j7];exact hW) ?_;simp only[VR,pe];refine⟨_,_,by rw[iA],by rw[iA];exact grownCap_ge w p.length 0 e,by rw[iA];exact hx.2,by simp,.inr ⟨w.heap.size,0,rfl,by omega,H5 fun j hj=>?_⟩⟩;simp only[kF,if_true,Nat.zero_add];rw[if_pos hj];simp only[bytesRow];rw[Array.getElem?_append_left (by simpa using hj)];simp[hj]
   . exact aa.fail
 . rename_i e hs hd;split
   . exact aa.fail
   . rename_i hk hns;have h5:=((G.ti e).of (by rw[hk];simp)).1;rw[hk] at h5;have h3:=((G.ti src).of (by rw[hs];simp)).1;rw[hs] at h3;have h4:=((G.ti dst).of (by rw[hd];simp)).1;rw[hd] at h4;refine aa.bind (kR _ _) fun r hr=>?_;obtain⟨sz,l,rd⟩:=r;obtain⟨⟨hlen,hmax⟩,_⟩:=hel _ (hr _ rfl);refine aa.when fun hsz=>aa.ex fun p=>aa.aR fun hl=>aa.ret ?_;simp only at hlen hmax;have hlp:l.length=p.length:=by rw[hl,iA]
     rcases hlen with ⟨base,cap,hv,hrow⟩|⟨_,q,hq,hv⟩
     . refine aD.pure R (.string ⟨p.toArray⟩) w ?_ (aY.refl w) (by simp only[VR];exact⟨trivial,by omega⟩);have hrun:(convert src dst (.slice base p.length cap)).run C.P w=.ok (.string ⟨p.toArray⟩) w:=by
        rcases hrow with hrow|⟨b,of,hrow,h0,hrow2⟩
        . have hp:p=[]:=d5 (by rw[<-hlp,hrow];rfl);subst hp;cases base with
          |none=>
            rw[run_convert_bytes_string w src dst e none _ cap h3 h5 h4];rfl
          |some ad=>exact run_convert_bytes_back w src dst e ad cap [] h3 h5 h4 (fun j hj=>absurd hj (Nat.not_lt_zero _))
        . subst hrow;refine run_convert_bytes_back w src dst e _ cap p h3 h5 h4 (fun j hj=>?_);rcases rN hsz with hsz|hsz
          . subst hsz;subst hl;rw[Addr.add_lit];exact NY hrow2 j hj
          . rw[hsz] at hlp;simp at hlp;omega
       simp only[execOp,ho];rw[hv,hlp,Sem.run_bind,hrun];rfl
     . exfalso;have:=hr (fun _=>True) trivial;unfold elems at this;cases he:s.ev C x<;>rw[he] at hx this<;>first
        |exact hns _ he
        |exact this.elim
        |skip
       . simp only[VR] at hx;obtain⟨_,_,hx,_⟩:=hx;rw[hv] at hx;cases hx
       . simp only[VR] at hx;rw[hv] at hx;cases hx.2
   . exact aa.fail
 . exact aa.fail
end
end Go.VG
set_option linter.unusedSimpArgs false
set_option linter.unusedVariables false
namespace Go.VG
open Go

def c9(w:World) (b:Nat) (o:Obj):World:={w with heap:=w.heap.setIfInBounds b o}
theorem l8{w:World} {b:Nat} {o o':Obj} (h:w.heap[b]?=some o):(c9 w b o').heap[b]?=some o':=by
 have:=mE h;simp[c9,this]
theorem WI{w:World} {b b':Nat} {o:Obj} (h:b'≠b):(c9 w b o).heap[b']?=w.heap[b']?:=by
 simp[c9,Ne.symm h]
theorem WK{w:World} {b:Nat} {o:Obj}:(c9 w b o).heap.size=w.heap.size:=by simp[c9]
theorem WJ{w:World} {b:Nat} {o o':Obj}:c9 (c9 w b o) b o'=c9 w b o':=by
 simp[c9]
theorem WH{w:World} {b:Nat} {o:Obj} (h:w.heap[b]?=some o):c9 w b o=w:=by
 have hlt:=mE h;simp only[c9];have:w.heap.setIfInBounds b o=w.heap:=by
  apply Array.ext
  . simp
  . intro i h1 h2;rw[Array.getElem?_eq_getElem hlt] at h;by_cases e:b=i
    . subst e;simpa using(Option.some.inj h).symm
    . rw[Array.getElem_setIfInBounds_ne _ e]
 rw[this]

theorem Y0{w:World} {b off:Nat} {c:Array Value} {el:TypeId} {fr:Nat×Nat} (h:w.heap[b]?=some (.cells c el fr)) (v:Value):
   w.setCell ⟨b,off,none⟩ v=c9 w b (.cells (c.setIfInBounds off v) el fr):=by
 have hlt:=mE h;simp only[World.setCell,c9]
 congr 1
 apply Array.ext
 . simp
 . intro i h1 h2;by_cases e:b=i
   . subst e;rw[Array.getElem?_eq_getElem hlt] at h;simp[Array.getElem_modify,Option.some.inj h]
   . rw[Array.getElem_setIfInBounds_ne _ e,Array.getElem_modify,if_neg e]

theorem LC{c:List Value} {o:Nat} {v:Value} {vs:List Value} (h:o<c.length):over (c.set o v) (o+1) vs=over c o (v::vs):=by
 unfold over;have h1:(c.set o v).take (o+1) =c.take o++[v]:=by
  rw[List.take_succ_eq_append_getElem (by simpa using h)];rw[List.take_set_of_le (co _)];simp
 have h2:(c.set o v).drop (o+1+vs.length) =c.drop (o+(v::vs).length):=by
  rw[List.drop_set_of_lt (by omega)]
  congr 1;simp;omega
 rw[h1,h2];simp

theorem tU{α:Type} {xs ys:List α} {o:Nat} (h:ys=[]\/o+ys.length<=xs.length) (k:Nat):(over xs o ys)[k]?=if o<=k/\k<o+ys.length then ys[k-o]? else xs[k]?:=by
 unfold over;rcases h with rfl|h
 . rw[if_neg (by simp only[List.length_nil];omega)];simp
 have h1:(xs.take o).length=o:=by simp;omega
 rcases eg k o with hk|hk
 . rw[if_neg (by omega),gc,d6 (by omega),List.getElem?_take,if_pos hk]
 . rcases eg k (o+ys.length) with hk2|hk2
   . rw[if_pos ⟨hk,hk2⟩,gc,d7 (by omega),d6 (by omega),h1]
   . rw[if_neg (by omega),d7 (by simp;omega),List.getElem?_drop]
     congr 1
     simp only[an,h1];omega
theorem VY{α:Type} {xs ys:List α} {o:Nat} {v:α} (h:v∈over xs o ys):v∈xs\/v∈ys:=by
 unfold over at h;rcases List.mem_append.1 h with h|h
 . rcases List.mem_append.1 h with h|h
   . exact .inl (List.mem_of_mem_take h)
   . exact .inr h
 . exact .inl (List.mem_of_mem_drop h)

theorem uc{P:Program} {b o:Nat} {el:TypeId} {fr:Nat×Nat}:∀(vs:List Value) (i:Nat) (c:Array Value) (w:World),w.heap[b]?=some (.cells c el fr)->px c fr->(vs=[]\/o+i+vs.length<=c.size)->
   (∀v∈vs,v.oneCell'=true)->(storeCells ⟨b,o,none⟩ vs i).run P w=.ok () (c9 w b (.cells (over c.toList (o+i) vs).toArray el fr))
 |[],i,c,w,h,_,_,_=>by
   have:over c.toList (o+i) []=c.toList:=by simp[over]
   rw[this,Array.toArray_toList,WH h];rfl
 |v::vs,i,c,w,h,hf,hl,h1=>by
   have hl':o+i+(vs.length+1)<=c.size:=by
    rcases hl with hl|hl
    . cases hl
    . simpa using hl
   have hst:(store ((⟨b,o,none⟩:Addr).add i) v).run P w=.ok () (c9 w b (.cells (c.setIfInBounds (o+i) v) el fr)):=by
    rw[Addr.add_lit,run_store P w _ v _ (h1 v (by simp)),gS h];have hlt:o+i<c.size:=by omega
    rw[Array.getElem?_eq_getElem hlt];simp only;rw[IS h hf hlt,Y0 h];simp
   have h':(c9 w b (.cells (c.setIfInBounds (o+i) v) el fr)).heap[b]?=some (.cells (c.setIfInBounds (o+i) v) el fr):=l8 h;have ih:=uc (P:=P) (o:=o) vs (i+1) (c.setIfInBounds (o+i) v) (c9 w b (.cells (c.setIfInBounds (o+i) v) el fr)) h' ⟨hf.1,fun k hk=>hf.2 k (by simpa using hk)⟩ (.inr (by simp;omega)) (fun u hu=>h1 u (by simp[hu]));unfold storeCells;rw[Sem.run_bind,hst];simp only[Result.andThen];rw[ih,WJ]
   congr 2
   rw[Array.toList_setIfInBounds,<-Nat.add_assoc,LC (by simp;omega)]

theorem dm.c9{E:Env} {st:St} {w:World} {b:Nat} {o:Obj} (hG:E.G b) (B:Nat->Prop) (hB:∀b',B b'↔b'=b)
   (hold:∀k v,st b k=some v->(c9 w b o).cell? ⟨b,k,none⟩=some v):dm E st st w (c9 w b o) B where
 os:=rfl
 tape:=rfl
 output:=rfl
 size:=by rw[WK];exact co _
 aX:=fun b' _ hn=>WI (fun e=>hn ((hB b').2 e))
 own:=fun b' h=>by rw[(hB b').1 h];exact hG
 mono:=fun _ _ _ h=>h
 newst:=fun _ _ _ h=>.inl h
 oldst:=fun b' k v h hv=>by rw[(hB b').1 h] at hv⊢;exact hold k v hv

section
variable {C:Ctx} {E:Env} {st:St} {g:aw} {s:AS} {a:Act} {w:World} {o:Oper} {e:Ef}

theorem tS{xs:List V} {n:Nat} {vs:List Value} (h:aE st g xs n vs) (ho:ew xs=true):∀v∈vs,v.oneCell'=true:=by
 induction xs generalizing vs with
 |nil=>simp only[aE] at h;subst h;simp
 |cons x xs ih=>
   simp only[aE] at h;obtain⟨u,us,rfl,h1,h2⟩:=h;simp only[ew,aA] at ho;intro v hv;cases hv with
   |head=>exact za h1 ho.1
   |tail _ hv=>exact ih h2 ho.2 v hv

theorem LP{xs:List V} {n n':Nat} {vs:List Value} (h:aE st g xs n vs) (hp:V.fX xs=true):aE st g xs n' vs:=
 kE (fun _ _ _ h=>h) (fun i hi _=>by rw[wx hp i] at hi;cases hi) h
theorem WG{x:V} (hp:x.pure=true):V.fX x.cells=true:=by
 cases x<;>simp only[V.pure] at hp<;>first
  |exact hp
  |(simp[V.cells,V.fX,V.pure,hp];done)
  |(simp only[V.cells,V.fX,V.pure,hp,Bool.and_true];exact hp)
  |simp_all[V.cells,V.fX,V.pure]

theorem XP{t:TypeId} {x y:Operand} (R:Rel E st g s a w) (hg:aV C.gl st) (G:Good C) (ho:o.op=.store t x y):cz C E st g s a w o (qP C s t x y):=by
 unfold qP;simp only[mL];split
 . exact aa.fail
 rename_i hk;have hk:(C.ti t).k≠.other:=fun h=>hk h;have hx:=bn (C:=C) R hg x;have hy:=bn (C:=C) R hg y;rw[force_eq];refine aa.when fun hw=>?_;simp only[aA,Bool.not_eq_true'] at hw;obtain⟨⟨hsz,hu⟩,h1⟩:=hw;have hsz:=cb hsz;have hc:=jU hy hu;have hsz':(a.eval y).cells.size=(C.ti t).size:=by rw[<-hsz,eJ hc];simp
 have hone:=tS hc h1;have hrun:∀b off,a.eval x=.pointer (some ⟨b,off,none⟩)->∀c el fr,w.heap[b]?=some (.cells c el fr)->px c fr->((a.eval y).cells.toList=[]\/off+(a.eval y).cells.toList.length<=c.size)->
    (execOp a.eval o).run C.P w=.ok .skip (c9 w b (.cells (over c.toList off (a.eval y).cells.toList).toArray el fr)):=fun b off hb c el fr hbl hf hlen=>by
  have:=uc (P:=C.P) (b:=b) (o:=off) (a.eval y).cells.toList 0 c w hbl hf (by simpa using hlen) hone;rw[Nat.add_zero] at this;simp[execOp,ho,Instr.storeAt,hb,Instr.sureAddr,storeVar,hsz',fY w (G.ti t) hk,this]
 generalize (a.eval y).cells.toList=ys at hc hone hrun;split
 . rename_i i off he;rw[he] at hx;simp only[VR] at hx;obtain⟨hi,b,hb,hx⟩:=hx;split
   . rename_i cs hs;obtain⟨hs1,_⟩:=eU hs (by simp);obtain⟨b',c,el,fr,k1,k2,k3,k4,k5,k6⟩:=xL R.wr hs1;rw[hb] at k1;cases k1;refine aa.opt fun cs' hcs'=>aa.ret ?_;obtain⟨r1,r2⟩:=ue hcs';subst r1;have hcl:=eJ k4;have hyl:=eJ hc;have hlen:ys=[]\/off+ys.length<=c.size:=by
      rcases r2 with r2|r2
      . left;apply d5;rw[<-hyl,r2];rfl
      . right;rw[<-hyl];simp only[Array.length_toList] at hcl;omega
     refine aD.iM R hi undef _ (g i) (.inr ⟨hrun b off hx c el fr k3 k5 hlen,rfl⟩)
      (dm.c9 k2 _ (fun b'=>by rw[hb];simp[eq_comm]) (fun k v hv=>by rw[k6 k] at hv;cases hv)) (.inl rfl) (fun b hb=>.inl hb) ?_ (by simp[VR])
     have hug:∀j,br g i (g i) j=g j:=fun j=>by by_cases e:j=i<;>simp[br,e]
     refine⟨b,_,el,fr,hb,k2,l8 k3,?_,?_,k6⟩
     . exact kE (fun _ _ _ h=>h) (fun j _ hj=>⟨hj,hug j⟩) (xA k4 hc)
     . refine⟨k5.1,fun k hk=>?_⟩;refine k5.2 k ?_;have:=lI (xs:=c.toList) (by simpa using hlen);simp only[List.size_toArray,this,Array.length_toList] at hk;exact hk
   . exact aa.fail
 . rename_i i idx off he;rw[he] at hx;simp only[VR] at hx;obtain⟨hi,b,hb,hx⟩:=hx;split
   . rename_i sz pre l hs;obtain⟨hs1,_⟩:=eU hs (by simp);obtain⟨q1,q2,q3,q4,q5,q6,q7⟩:=R.wr.ob i _ hs1;refine aa.opt fun z hz=>?_;split
     . rename_i cs hzz;refine aa.when fun hp=>aa.opt fun cs' hcs'=>aa.aR fun hpre=>aa.ret ?_;obtain⟨r1,r2⟩:=ue hcs';subst r1;rcases q7 with ⟨_,q7⟩|⟨b',c,el,fr,k1,k2,k3,k4,k5,k6,k7,k8⟩
       . rw[hb] at q7;cases q7
       rw[hb] at k1;cases k1;obtain⟨u,u1,u2,u3,u4⟩:=gO.1 k6 idx _ hz;simp only[VR] at u1;obtain⟨us,rfl,u1⟩:=u1;simp only[Value.cells] at u2 u3 u4;have hidx:idx<l.length:=by
        rcases eg idx l.length with h'|h'
        . exact h'
        . simp[dl h'] at hz
       have hyl:=eJ hc;have hul:=eJ u1;have hin:(idx+1)*sz<=c.size:=by
        rw[k5];exact gA _ (by omega)
       rw[Nat.add_mul,Nat.one_mul] at hin;have hlen2:ys=[]\/off+ys.length<=us.toList.length:=by
        rcases r2 with r2|r2
        . left;apply d5;rw[<-hyl,r2];rfl
        . right;omega
       have hul2:us.toList.length=sz:=by simpa using u2
       have hlen:ys=[]\/(idx*sz+off)+ys.length<=c.size:=by
        rcases hlen2 with h|h
        . exact .inl h
        . right;omega
       have hlen':ys=[]\/idx*sz+off+ys.length<=c.toList.length:=by simpa using hlen
       have hcell:=tU (xs:=c.toList) (ys:=ys) (o:=idx*sz+off) hlen';have hcell2:=tU (xs:=us.toList) (ys:=ys) (o:=off) hlen2;have hug:∀j,br g i (g i) j=g j:=fun j=>by by_cases e:j=i<;>simp[br,e]
       have hugf:br g i (g i)=g:=funext hug;have hoff:ys.length=0\/off+ys.length<=sz:=by
        rcases hlen2 with h|h
        . left;rw[h];rfl
        . right;omega
       rw[q2] at hx;refine aD.iM R hi undef _ (g i) (.inr ⟨hrun b _ hx c el fr k4 k7 hlen,rfl⟩)
        (dm.c9 k3 _ (fun b'=>by rw[hb];simp[eq_comm]) (fun k v hv=>?_)) (.inl rfl) (fun b hb=>.inl hb) ?_ (by simp[VR])
       . have h9:=k8 k v hv;have h10:=R.wr.stw _ _ _ hv;rw[gS k4] at h10;rw[gS (l8 k4),List.getElem?_toArray,hcell,if_neg,<-h10]
         . simp
         . have:pre*sz<=idx*sz:=gA _ hpre;omega
       . rw[hugf];refine⟨q1,q2,by simpa using q3,by simpa using q4,by simpa using q5,by simpa using q6,.inr ⟨b,_,el,fr,hb,k2,k3,l8 k4,?_,?_,?_,k8⟩⟩
         . simp only[List.size_toArray,lI hlen',Array.length_toList];exact k5
         . rw[gO];intro j z' hz';rw[List.getElem?_set] at hz';by_cases e:idx=j
           . subst e;rw[if_pos rfl,if_pos hidx] at hz';cases hz';refine⟨.agg (over us.toList off ys).toArray,?_,?_,?_,fun k hk=>?_⟩
             . simp only[VR];exact⟨_,rfl,xA u1 (LP hc (WG hp))⟩
             . simp only[Value.cells,List.size_toArray,lI hlen2];exact hul2
             . intro v hv;simp only[Value.cells] at hv;rcases VY hv with h|h
               . exact u3 v h
               . exact hone v h
             . simp only[Value.cells];rw[List.getElem?_toArray,List.getElem?_toArray,Nat.zero_add,hcell,hcell2];have h5:=u4 k hk;rw[Nat.zero_add] at h5;by_cases hin2:off<=k/\k<off+ys.length
               . rw[if_pos hin2,if_pos (by omega)]
                 congr 1;omega
               . rw[if_neg hin2,if_neg (by omega)];simpa using h5
           . rw[if_neg e] at hz';obtain⟨v1,v2,v3,v4,v5⟩:=gO.1 k6 j z' hz';refine⟨v1,v2,v3,v4,fun k hk=>?_⟩;rw[<-v5 k hk,List.getElem?_toArray,hcell,if_neg]
             . simp
             . rcases eg j idx with h|h
               . have:(j+1)*sz<=idx*sz:=gA _ h;rw[Nat.add_mul,Nat.one_mul] at this;omega
               . have:(idx+1)*sz<=j*sz:=gA _ (by omega);rw[Nat.add_mul,Nat.one_mul] at this;omega
         . refine⟨k7.1,fun k hk=>?_⟩;refine k7.2 k ?_;simp only[List.size_toArray,lI (xs:=c.toList) hlen',Array.length_toList] at hk;exact hk
     . exact aa.fail
   . exact aa.fail
 . exact aa.fail
end
end Go.VG
namespace Go.VG
open Go

theorem C2(off:Nat):∀(vs:List Value) (k:Nat) (c:Array Value),(vs=[]\/off+k+vs.length<=c.size)->
   (vs.zipIdx k).foldl (fun cs (p:Value×Nat) =>cs.setIfInBounds (off+p.2) p.1) c=(over c.toList (off+k) vs).toArray
 |[],k,c,_=>by simp[over]
 |v::vs,k,c,h=>by
   have h':off+k+(vs.length+1)<=c.size:=by
    rcases h with h|h
    . cases h
    . simpa using h
   rw[List.zipIdx_cons,List.foldl_cons,C2 off vs (k+1) _ (.inr (by simp;omega))];rw[Array.toList_setIfInBounds,<-Nat.add_assoc,LC (by simp;omega)]

theorem zh{x:V} (h:x.pure=true):x.eX=false:=by cases x<;>first|rfl|(simp[V.pure] at h)

section
variable {C:Ctx} {E:Env} {st:St} {g:aw} {s:AS} {a:Act} {w:World} {o:Oper} {e:Ef}

theorem BP{placeV:Nat->Option (Nat×Nat)} {place:Nat->Option (Nat×Nat)} (hp:∀i x,placeV i=some x->place i=some x) (R:Rel E st g s a w) (hg:aV C.gl st):
   ∀(parts:List (Nat×Operand)) (zs:List V) (z:Array Value) (cs:List V),aE st g zs s.sg.length z.toList->tf placeV (jI C s parts) zs=some cs->
    ∃cells,Instr.fill place z (parts.map fun(i,x) =>(i,a.eval x)) =some cells/\aE st g cs s.sg.length cells.toList
 |[],zs,z,cs,hz,h=>by
   simp only[jI,tf,Option.some.injEq] at h;subst h;exact⟨z,rfl,hz⟩
 |(i,x)::r,zs,z,cs,hz,h=>by
   simp only[jI,tf] at h;cases hpl:placeV i with
   |none=>rw[hpl] at h;cases h
   |some q=>
     obtain⟨off,size⟩:=q;rw[hpl] at h;simp only at h;cases hb:(Nat.beq (s.ev C x).cells.length size&&Nat.blt 0 size) with
     |false=>rw[hb] at h;cases h
     |true=>
       cases hu:(s.ev C x).eX with
       |true=>rw[hb,hu] at h;cases h
       |false=>
         rw[hb,hu] at h;simp only at h;cases hs:jr zs off (s.ev C x).cells with
         |none=>rw[hs] at h;cases h
         |some zs'=>
           rw[hs] at h;simp only at h;obtain⟨r1,r2⟩:=ue hs;subst r1;have hv:=jU (bn (C:=C) R hg x) hu;have hl:=eJ hv;have hzl:=eJ hz;simp only[aA] at hb;obtain⟨hb,hb0⟩:=hb;have hb:=cb hb;have hb0:=d9 hb0;have hin:(a.eval x).cells.toList=[]\/off+(a.eval x).cells.toList.length<=z.toList.length:=by
            rcases r2 with r2|r2
            . left;apply d5;rw[<-hl,r2];rfl
            . right;omega
           have h2:=xA (o:=off) hz hv;obtain⟨cells,k1,k2⟩:=BP hp R hg r _ (over z.toList off (a.eval x).cells.toList).toArray cs (by simpa using h2) h;refine⟨cells,?_,k2⟩;rw[List.map_cons];unfold Instr.fill;rw[hp i _ hpl];simp only;have hsz:(a.eval x).cells.size=size:=by rw[<-hb,hl];simp
           by_cases h0:(a.eval x).cells.toList=[]
           . rw[h0] at hl;simp at hl;rw[hl] at hb;simp at hb;omega
           . have hin':off+(a.eval x).cells.size<=z.size:=by
               rcases hin with h|h
               . exact absurd h h0
               . simpa using h
             rw[if_neg (by simp[hsz];omega)];have:=C2 off (a.eval x).cells.toList 0 z (.inr (by simpa using hin'));rw[Nat.add_zero] at this;rw[<-k1]
             congr 1
             rw[<-this];rw[<-Array.foldl_toList,Array.toList_zipIdx]

theorem LM{P:Program}:∀{fs:List Field} {places:List (Nat×Nat)},fs.mapM (fun f=>(P.info? f.type).map fun i=>(f.offset,i.size)) =some places->
   ∀{i:Nat} {f:Field},fs[i]?=some f->∃info,P.info? f.type=some info/\places[i]?=some (f.offset,info.size)
 |[],places,h,i,f,hf=>by simp at hf
 |f0::fs,places,h,i,f,hf=>by
   simp only[List.mapM_cons,Option.bind_eq_bind,Option.pure_def] at h;cases hi:P.info? f0.type with
   |none=>simp[hi] at h
   |some info=>
     cases hr:fs.mapM (fun f=>(P.info? f.type).map fun i=>(f.offset,i.size)) with
     |none=>simp[hi,hr] at h
     |some rest=>
       simp[hi,hr] at h;subst h;cases i with
       |zero=>simp at hf;subst hf;exact⟨info,hi,rfl⟩
       |succ i=>simpa using LM hr (by simpa using hf)

theorem Xk{t:TypeId} {parts:Array (Nat×Operand)} (R:Rel E st g s a w) (hg:aV C.gl st) (G:Good C) (ho:o.op=.build t parts):cz C E st g s a w o (sU C s t parts):=by
 unfold sU;have hparts:(parts.map fun(i,x) =>(i,a.eval x)).toList=parts.toList.map fun(i,x) =>(i,a.eval x):=by simp
 split
 . rename_i fs hk;obtain⟨h3,⟨info,h4,h5,_,z,h6,h7⟩,_⟩:=(G.ti t).of (by rw[hk];simp);rw[hk] at h3;obtain⟨fields,h3,h8,h9⟩:=h3;obtain⟨places,h9⟩:=Option.isSome_iff_exists.1 h9;refine aa.when fun hu=>aa.opt fun cs hcs=>aa.ret ?_;obtain⟨cells,k1,k2⟩:=BP (place:=fun i=>places.toArray[i]?) (fun i x hx=>by
    unfold placeOf at hx;split at hx
    . rename_i off ft hf;split at hx
      . cases hx
      . rename_i hk2;cases hx;obtain⟨f,f1,f2,f3⟩:=BO h8 hf;obtain⟨info',f4,f5⟩:=LM h9 (i:=i) (by simpa using f1);have f6:=Bm (G.ti ft) (fun h=>hk2 h);simp only at f2 f3;rw[f3] at f4;simp only[Program.cellsOf,f4,Option.map_some,Option.getD_some] at f6;simp[f5,f2,f6]
    . cases hx) R hg parts.toList _ z.cells cs (jU (h7 st g _) (by simpa using hu)) hcs
   refine aD.pure R (.agg cells) w ?_ (aY.refl w) (by simp only[VR];exact⟨_,rfl,k2⟩);have:C.P.built t (parts.map fun(i,x) =>(i,a.eval x)).toList=some cells:=by
    unfold Program.built;rw[h4,h3,hparts];simp only[h6,h9];exact k1
   simp only[execOp,ho];rw[Sem.run_bind,Go.run_build w t _ cells this];rfl
 . rename_i n e hk;obtain⟨h3,⟨info,h4,h5,_,z,h6,h7⟩,_⟩:=(G.ti t).of (by rw[hk];simp);rw[hk] at h3;split
   . exact aa.fail
   rename_i hk2;obtain⟨_,⟨infoe,e4,e5,_⟩,_⟩:=(G.ti e).of (fun h=>hk2 h);refine aa.when fun hu=>aa.opt fun cs hcs=>aa.ret ?_;obtain⟨cells,k1,k2⟩:=BP (place:=fun i=>some (i*infoe.size,infoe.size)) (fun i x hx=>by rw[e5];exact hx) R hg parts.toList _ z.cells cs (jU (h7 st g _) (by simpa using hu)) hcs;refine aD.pure R (.agg cells) w ?_ (aY.refl w) (by simp only[VR];exact⟨_,rfl,k2⟩);have:C.P.built t (parts.map fun(i,x) =>(i,a.eval x)).toList=some cells:=by
    unfold Program.built;rw[h4,h3,hparts];simp only[h6,e4];exact k1
   simp only[execOp,ho];rw[Sem.run_bind,Go.run_build w t _ cells this];rfl
 . exact aa.fail

theorem LJ:∀(ps:List (Nat×Operand)) (k sz:Nat) (l:List V),tY (jI C s ps) k sz=some l->
   l.length=ps.length/\∀(i:Nat) (p:Nat×Operand),ps[i]?=some p->p.1=k+i/\∃x,l[i]?=some x/\x=s.ev C p.2/\x.cells.length=sz/\x.pure=true/\ew x.cells=true
 |[],k,sz,l,h=>by simp[jI,tY] at h;subst h;simp
 |(i0,x)::r,k,sz,l,h=>by
   simp only[jI,tY] at h;cases h1:Nat.beq i0 k with
   |false=>rw[h1] at h;cases h
   |true=>
     cases h2:Nat.beq (s.ev C x).cells.length sz with
     |false=>rw[h1,h2] at h;cases h
     |true=>
       cases h3:((s.ev C x).pure&&ew (s.ev C x).cells) with
       |false=>rw[h1,h2,h3] at h;cases h
       |true=>
         rw[h1,h2,h3] at h;simp only at h;cases h4:tY (jI C s r) (k+1) sz with
         |none=>rw[h4] at h;cases h
         |some l'=>
           rw[h4] at h;cases h;obtain⟨k1,k2⟩:=LJ r (k+1) sz l' h4;simp only[aA] at h3;refine⟨by simp[k1],fun i p hp=>?_⟩;cases i with
           |zero=>
             simp at hp;subst hp;exact⟨by rw[cb h1];rfl,_,rfl,rfl,cb h2,h3.1,h3.2⟩
           |succ i=>
             obtain⟨k3,y,k4,k5⟩:=k2 i p (by simpa using hp);exact⟨by rw[k3];omega,y,by simpa using k4,k5⟩

theorem ID{sz:Nat} (h0:0<sz) (R:Rel E st g s a w) (hg:aV C.gl st):∀(ps:List (Nat×Operand)) (k:Nat) (z:Array Value),
   (∀(i:Nat) (p:Nat×Operand),ps[i]?=some p->p.1=k+i/\(a.eval p.2).cells.size=sz)->(k+ps.length)*sz<=z.size->
   ∃cells,Instr.fill (fun i=>some (i*sz,sz)) z (ps.map fun(i,x) =>(i,a.eval x)) =some cells/\cells.size=z.size/\(∀j,j<k*sz->cells[j]?=z[j]?)/\
    ∀(i:Nat) (p:Nat×Operand),ps[i]?=some p->∀j,j<sz->cells[(k+i)*sz+j]?=(a.eval p.2).cells[j]?
 |[],k,z,_,_=>⟨z,rfl,rfl,fun _ _=>rfl,fun i p hp=>by simp at hp⟩
 |(i0,x)::r,k,z,h,hz=>by
   obtain⟨h1,h2⟩:=h 0 _ rfl;simp only[Nat.add_zero] at h1;subst h1;have hle:(i0+1)*sz<=z.size:=Nat.le_trans (gA _ (by simp)) hz;rw[Nat.add_mul,Nat.one_mul] at hle;have hin:(a.eval x).cells.toList=[]\/i0*sz+(a.eval x).cells.toList.length<=z.toList.length:=.inr (by simpa[h2] using hle);obtain⟨cells,k1,k2,k3,k4⟩:=ID h0 R hg r (i0+1) (over z.toList (i0*sz) (a.eval x).cells.toList).toArray (fun i p hp=>by
    obtain⟨q1,q2⟩:=h (i+1) p (by simpa using hp);exact⟨by rw[q1];omega,q2⟩) (by
    simp only[List.size_toArray,lI hin,Array.length_toList];simp only[List.length_cons] at hz;rw[show i0+1+r.length=i0+(r.length+1) by omega];exact hz)
   have hget:=tU hin;refine⟨cells,?_,?_,?_,?_⟩
   . rw[List.map_cons];unfold Instr.fill;simp only;rw[if_neg (by simp[h2];omega)];have:=C2 (i0*sz) (a.eval x).cells.toList 0 z (.inr (by simpa[h2] using hle));rw[Nat.add_zero] at this;rw[<-k1]
     congr 1
     rw[<-this];rw[<-Array.foldl_toList,Array.toList_zipIdx]
   . rw[k2];simp only[List.size_toArray,lI hin,Array.length_toList]
   . intro j hj;rw[k3 j (by rw[Nat.add_mul];omega),List.getElem?_toArray,hget,if_neg (by omega)];simp
   . intro i p hp j hj;cases i with
     |zero=>
       simp at hp;subst hp;simp only[Nat.add_zero];rw[k3 _ (by rw[Nat.add_mul,Nat.one_mul];omega),List.getElem?_toArray,hget,if_pos (by simp[h2];omega)];simp only[Nat.add_sub_cancel_left];simp
     |succ i=>
       have:=k4 i p (by simpa using hp) j hj;rw[show i0+1+i=i0+(i+1) by omega] at this;exact this

theorem Bf{t:TypeId} {len:Nat} {parts:Array (Nat×Operand)} (R:Rel E st g s a w) (hg:aV C.gl st) (G:Good C) (ho:o.op=.buildSlice t len parts):
   aa (fun ef=>∃x e cells,ef=pe x/\C.P.underlying t=some (.slice e)/\(execOp a.eval o).run C.P w=.ok (.value (.slice (some ⟨w.heap.size,0,none⟩) len len)) (w.alloc (.cells cells e))/\
    VR (kF st w.heap.size cells cells.size) g x s.sg.length (.slice (some ⟨w.heap.size,0,none⟩) len len)/\
    ∃l,x=.list true (C.ti e).size l/\l.length=len/\0<(C.ti e).size/\cells.size=len*(C.ti e).size/\len<=maxLen/\cq st g l (C.ti e).size (fun k=>cells[k]?) 0) (lz C s t len parts):=by
 unfold lz;simp only[tp];split
 . rename_i e hk;obtain⟨h3,_⟩:=(G.ti t).of (by rw[hk];simp);rw[hk] at h3;split
   . exact aa.fail
   rename_i hk2;obtain⟨_,⟨infoe,e4,e5,_,z,e6,e7⟩,_⟩:=(G.ti e).of (fun h=>hk2 h);refine aa.when fun hw=>aa.opt fun l hl=>?_;rw[dN];refine aa.ret ?_;simp only[aA] at hw;obtain⟨⟨hw1,hw2⟩,hw3⟩:=hw;have hw1:=cb hw1;have hw2:=d9 hw2;have hw3:=d9 hw3;obtain⟨p1,p2⟩:=LJ parts.toList 0 (C.ti e).size l hl;have hcell:∀(i:Nat) (p:Nat×Operand),parts.toList[i]?=some p->p.1=0+i/\(a.eval p.2).cells.size=(C.ti e).size:=fun i p hp=>by
    obtain⟨q1,x,q2,q3,q4,q5,q6⟩:=p2 i p hp;refine⟨q1,?_⟩;have hu:x.eX=false:=zh q5;rw[q3] at q4 hu;have:=eJ (jU (bn (C:=C) R hg p.2) hu);rw[<-q4,this];simp
   have hn0:∀z0:Array Value,∃z1:Array Value,z1.size=len*(C.ti e).size/\(Array.range (len*(C.ti e).size)).map (fun i=>z0[i%z0.size]!) =z1:=fun z0=>⟨_,by simp,rfl⟩
   have hrun:∃cells:Array Value,(execOp a.eval o).run C.P w=.ok (.value (.slice (some ⟨w.heap.size,0,none⟩) len len)) (w.alloc (.cells cells e))/\cells.size=len*(C.ti e).size/\
      ∀(i:Nat) (p:Nat×Operand),parts.toList[i]?=some p->∀j,j<(C.ti e).size->cells[i*(C.ti e).size+j]?=(a.eval p.2).cells[j]?:=by
    have hfin:∀z0:Array Value,∃cells:Array Value,Instr.fill (fun i=>some (i*(C.ti e).size,(C.ti e).size)) ((Array.range (len*(C.ti e).size)).map (fun i=>z0[i%z0.size]!)) (parts.toList.map fun(i,x) =>(i,a.eval x)) =some cells/\cells.size=len*(C.ti e).size/\
       ∀(i:Nat) (p:Nat×Operand),parts.toList[i]?=some p->∀j,j<(C.ti e).size->cells[i*(C.ti e).size+j]?=(a.eval p.2).cells[j]?:=fun z0=>by
     obtain⟨cells,k1,k2,_,k4⟩:=ID (by omega) R hg parts.toList 0 ((Array.range (len*(C.ti e).size)).map (fun i=>z0[i%z0.size]!)) hcell (by simp[hw1]);exact⟨cells,k1,by rw[k2];simp,fun i p hp j hj=>by have:=k4 i p hp j hj;rwa [Nat.zero_add] at this⟩
    have hparts:(parts.map fun(i,x) =>(i,a.eval x)).toList=parts.toList.map fun(i,x) =>(i,a.eval x):=by simp
    by_cases h0:len*(C.ti e).size=0
    . obtain⟨cells,k1,k2,k3⟩:=hfin #[];refine⟨cells,?_,k2,k3⟩;simp only[execOp,ho];rw[Sem.run_bind];unfold Instr.buildSlice;simp only[Sem.run_bind,run_underlying h3,Result.andThen,fY w (G.ti e) (fun h=>hk2 h),hparts];rw[if_neg (by omega),if_pos h0];simp only[Sem.run_pure,Sem.run_bind,Result.andThen,k1,newRow,run_newObj_alloc]
    . obtain⟨cells,k1,k2,k3⟩:=hfin z.cells;refine⟨cells,?_,k2,k3⟩;have hzr:(zeroValue e).run C.P w=.ok z w:=by simp[zeroValue,typeInfo,e4,e6]
      simp only[execOp,ho];rw[Sem.run_bind];unfold Instr.buildSlice;simp only[Sem.run_bind,run_underlying h3,Result.andThen,fY w (G.ti e) (fun h=>hk2 h),hparts];rw[if_neg (by omega),if_neg h0];simp only[Sem.run_pure,Sem.run_bind,Result.andThen,hzr,k1,newRow,run_newObj_alloc]
   obtain⟨cells,hrun,hsz,hcells⟩:=hrun;have hll:l.length=len:=by rw[p1,hw1]
   have hmx:len<=maxLen:=by simp only[maxLen];have:len*1<=len*(C.ti e).size:=Nat.mul_le_mul_left _ hw2;omega
   refine⟨_,e,cells,rfl,h3,hrun,?_,l,rfl,hll,hw2,hsz,hmx,?_⟩
   rotate_left
   . rw[gO];intro i x hx;have hi:i<parts.toList.length:=by
      rw[<-p1];rcases eg i l.length with h'|h'
      . exact h'
      . simp[dl h'] at hx
     obtain⟨q1,x',q2,q3,q4,q5,q6⟩:=p2 i _ (am hi);rw[hx] at q2;cases q2;have hv:=bn (C:=C) R hg (parts.toList[i]).2;rw[<-q3] at hv;have hu:x.eX=false:=zh q5;have hvc:=jU hv hu;refine⟨a.eval (parts.toList[i]).2,gw (fun _ _ _ h=>h) (fun j hj _=>by rw[wy q5 j] at hj;cases hj) hv,(hcell i _ (am hi)).2,tS hvc q6,fun j hj=>?_⟩;rw[<-hcells i _ (am hi) j hj,Nat.zero_add]
   simp only[VR,pe];refine⟨_,_,by rw[hll],by omega,by omega,fun _=>hll.symm,.inr ⟨w.heap.size,0,rfl,hw2,?_⟩⟩;rw[gO];intro i x hx;have hi:i<parts.toList.length:=by
    rw[<-p1];rcases eg i l.length with h'|h'
    . exact h'
    . simp[dl h'] at hx
   obtain⟨q1,x',q2,q3,q4,q5,q6⟩:=p2 i _ (am hi);rw[hx] at q2;cases q2;have hv:=bn (C:=C) R hg (parts.toList[i]).2;rw[<-q3] at hv;have hu:x.eX=false:=zh q5;have hvc:=jU hv hu;refine⟨a.eval (parts.toList[i]).2,gw (p8 R.wr.ml) (fun j hj _=>by rw[wy q5 j] at hj;cases hj) hv,(hcell i _ (am hi)).2,tS hvc q6,fun j hj=>?_⟩;rw[<-hcells i _ (am hi) j hj];simp only[kF,if_true,Nat.zero_add];rw[if_pos];rw[hsz,hw1];have:(i+1)*(C.ti e).size<=parts.toList.length*(C.ti e).size:=gA _ hi;rw[Nat.add_mul,Nat.one_mul] at this;omega
 . exact aa.fail
theorem Xl{t:TypeId} {len:Nat} {parts:Array (Nat×Operand)} (R:Rel E st g s a w) (hg:aV C.gl st) (G:Good C) (ho:o.op=.buildSlice t len parts):cz C E st g s a w o (lz C s t len parts):=fun ef he=>by
 obtain⟨x,e,cells,rfl,h3,hrun,hv,_⟩:=Bf R hg G ho ef he;exact aD.val _ _ _ g hrun ⟨p8 R.wr.ml,fun _ _ _=>rfl,by rw[j7];exact co _⟩ (by rw[j7];exact R.wr.B6 cells e (0,0) cells.size) (by rw[j7];exact hv)

end
end Go.VG
namespace Go.VG
open Go

theorem w9:4294967296<=maxLen:=by unfold maxLen;omega
section
variable {C:Ctx} {E:Env} {st:St} {g:aw} {s:AS} {a:Act} {w:World} {o:Oper} {e:Ef}

theorem aD.CZ{sz:Nat} {l:List V} {rd:List Nat} (R:Rel E st g s a w) (w1:World) (hw:aY w w1) (c:Array Value) (el:TypeId) (cap:Nat) (h0:0<sz) (hl:l.length<=cap) (hm:l.length<=maxLen)
   (hr:(execOp a.eval o).run C.P w=.ok (.value (.slice (some ⟨w1.heap.size,0,none⟩) l.length cap)) (w1.alloc (.cells c el))) (hc:c.size=cap*sz) (hrow:cq st g l sz (fun k=>c[k]?) 0):
   aD C E st g s a w o ⟨.buf s.sg.length,[],[],[.buf sz 0 l],rd⟩:=by
 have hW:=R.wr.same hw;refine aD.new R _ w1 hw ⟨some w1.heap.size,some ⟨w1.heap.size,0,none⟩,l.length,cap,sz⟩ _ hr (by simp) ?_ ?_
 . refine⟨h0,rfl,by simp,hm,rfl,hl,.inr ⟨w1.heap.size,c,el,(0,0),rfl,rfl,hW.gnew _ hW.size,heap_alloc_new,hc,?_,⟨by simp,by intro o _;simp⟩,fun k v hv=>?_⟩⟩
   . exact lq (fun _ _ _ h=>h) (fun _ _ h=>h) hrow
   . rw[hW.ml k] at hv;cases hv
 . simp only[VR,dP];exact⟨by omega,trivial⟩

theorem XG{t:TypeId} {x y:Operand} (R:Rel E st g s a w) (hg:aV C.gl st) (G:Good C) (ho:o.op=.makeSlice t x y):cz C E st g s a w o (qL C s t x y):=by
 unfold qL;have hx:=bn (C:=C) R hg x;have hy:=bn (C:=C) R hg y;split
 . rename_i e k n k' m hk he he';rw[he] at hx;rw[he'] at hy;simp only[VR] at hx hy;obtain⟨h3,_⟩:=(G.ti t).of (by rw[hk];simp);rw[hk] at h3;split
   . exact aa.fail
   rename_i hk2;obtain⟨_,⟨infoe,e4,e5,e6,z,e7,e8⟩,_⟩:=(G.ti e).of (fun h=>hk2 h);refine aa.when fun hw=>aa.aR fun h0=>?_;rw[dN,dN,force_eq];refine aa.ret ?_;simp only[aA] at hw;obtain⟨⟨⟨⟨hw1,hw2⟩,hw3⟩,hw4⟩,hw5⟩:=hw;have hw1:=d9 hw1;have hw2:=d9 hw2;have hw5:=cb hw5;have hzc:=jU (e8 st g 0) (zh hw3);have hzl:z.cells.size=(C.ti e).size:=by rw[<-hw5,eJ hzc];simp
   have hbytes:(infoe.bytes:Int)*m<=281474976710656:=by
    have h1:(infoe.bytes:Int)<=4096:=by rw[e6];exact Int.ofNat_le.2 hw1
    have h2:(infoe.bytes:Int)*m<=4096*4294967296:=by
     have h3:(infoe.bytes:Int)*m<=4096*m:=Int.mul_le_mul_of_nonneg_right h1 (by omega);omega
    omega
   have hr:=run_make (P:=C.P) w t e infoe z h3 e4 e7 k k' n m h0.1 h0.2.1 hbytes (by omega);have hln:(List.replicate n.toNat (C.ti e).zero).length=n.toNat:=List.length_replicate;refine aD.CZ R w (aY.refl w) (madeCells z.cells (m.toNat*infoe.size)) e m.toNat hw2 (by rw[hln];omega) (by rw[hln];exact Nat.le_trans (by omega) w9) ?_ (by rw[size_madeCells,e5]) ?_
   . simp only[execOp,ho,hx.1,hy.1];rw[Sem.run_bind,hr,hln];rfl
   . rw[gO];intro i z' hz';rw[List.getElem?_replicate] at hz';split at hz'
     . rename_i hi;cases hz';refine⟨z,e8 st g 0,hzl,tS hzc hw4,fun j hj=>?_⟩;simp only[madeCells,Nat.zero_add];have hb:i*(C.ti e).size+j<m.toNat*infoe.size:=by
        rw[e5];have:(i+1)*(C.ti e).size<=m.toNat*(C.ti e).size:=gA _ (by omega);rw[Nat.add_mul,Nat.one_mul] at this;omega
       have hz2:0<z.cells.size:=by rw[hzl];exact hw2
       have hmod:(i*(C.ti e).size+j)%z.cells.size=j:=by
        rw[hzl,Nat.add_comm,Nat.add_mul_mod_self_right,Nat.mod_eq_of_lt hj]
       rw[Array.getElem?_map,Array.getElem?_range,if_pos hb];simp only[Option.map_some,hmod];have hjz:j<z.cells.size:=by rw[hzl];exact hj
       rw[getElem!_pos z.cells j hjz,Array.getElem?_eq_getElem hjz]
     . cases hz'
 . exact aa.fail

theorem s_bs{t:TypeId} {len:Nat} {parts:Array (Nat×Operand)} (R:Rel E st g s a w) (hg:aV C.gl st) (G:Good C) (ho:o.op=.buildSlice t len parts):cz C E st g s a w o (oh C s o.dst t len parts):=by
 have hb:=Xl R hg G ho;unfold oh;split
 . rename_i d hd;cases C.lits d with
   |false=>exact hb
   |true=>
     simp only[cond_true];unfold sX;refine aa.bind (vo _ _ _ _ _) fun e he=>?_;obtain⟨x,el,cells,rfl,h3,hrun,_,l,rfl,hl,h0,hc,hm,hrow⟩:=Bf R hg G ho e (he _ rfl);simp only[pe];rw[dN];refine aa.ret ?_;refine aD.CZ R w (aY.refl w) cells el len h0 (by omega) (by omega) ?_ hc hrow;rw[hl];exact hrun
 . exact hb
theorem RY{w:World} {b o:Nat} {c:Array Value} {el:TypeId} {fr:Nat×Nat} (h:w.heap[b]?=some (.cells c el fr)):w.freeze ⟨b,o,none⟩ 1=c9 w b (.cells c el (if fr.1==fr.2 then(o,o+1) else(min fr.1 o,max fr.2 (o+1)))):=by
 unfold World.freeze;rw[if_neg (by decide)];unfold c9
 congr 1
 apply Array.ext
 . simp
 . intro k h1 h2;simp only[Array.getElem_modify,Array.getElem_setIfInBounds];have hk:k<w.heap.size:=by simpa using h1
   by_cases e:b=k
   . subst e;rw[if_pos rfl,Array.getElem_setIfInBounds_self];have:w.heap[b]=.cells c el fr:=by
      rw[Array.getElem?_eq_getElem hk] at h;exact Option.some.inj h
     rw[this]
   . rw[if_neg e,Array.getElem_setIfInBounds_ne hk e]
theorem XJ{src dst:TypeId} {x:Operand} (R:Rel E st g s a w) (hg:aV C.gl st) (G:Good C) (ho:o.op=.convert src dst x):cz C E st g s a w o (pq C s src dst (s.ev C x)):=by
 have hb:=Xo R hg G ho;have hx:=bn (C:=C) R hg x;unfold pq;split
 . rename_i i he;rw[he] at hb hx;cases hsd:Nat.beq src dst with
   |false=>exact hb
   |true=>
     have hsd:=cb hsd;subst hsd;simp only[cond_true];split
     . rename_i e hk;split
       . rename_i hk2;split
         . rename_i sz pre y l hs1;obtain⟨hs1,_⟩:=eU hs1 (by simp);obtain⟨q1,q2,q3,q4,q5,q6,q7⟩:=R.wr.ob i _ hs1;simp only[VR] at hx;rcases q7 with ⟨q7,_⟩|⟨b,c,el,fr,k1,k2,k3,k4,k5,k6,k7,k8⟩
           . simp at q6;omega
           refine aa.ret ?_;have h5:=((G.ti e).of (by rw[hk2];simp)).1;rw[hk2] at h5;have h3:=((G.ti src).of (by rw[hk];simp)).1;rw[hk] at h3;have hfr:px c (if fr.1==fr.2 then(c.size,c.size+1) else(min fr.1 c.size,max fr.2 (c.size+1))):=by
            obtain⟨f1,f2⟩:=k7;split
            . exact⟨by simp,fun o ho=>by simp;omega⟩
            . rename_i hne;have hne:fr.1≠fr.2:=by simpa using hne
              refine⟨by simp only;omega,fun o ho=>?_⟩;have hge:c.size<=fr.1:=by
               rcases eg fr.1 c.size with h'|h'
               . exact absurd ⟨co _,by omega⟩ (f2 fr.1 h')
               . exact h'
              simp only;omega
           have hsh:w.shape? b=some (el,c.size):=by unfold World.shape?;rw[k4]
           have hv:a.eval x=.slice (some ⟨b,0,none⟩) (g i).len (g i).cap:=by rw[hx.2,k2]
           obtain⟨fr2,hfr2,hcv⟩:∃fr2,px c fr2/\(convert src src (.slice (some ⟨b,0,none⟩) (g i).len (g i).cap)).run C.P w=.ok (.slice (some ⟨b,0,none⟩) (g i).len (g i).cap) (c9 w b (.cells c el fr2)):=by
            refine⟨_,hfr,?_⟩;simp[convert,run_underlying h3,run_underlying h5,markStringish,hsh];simpa using RY (o:=c.size) k4
           refine aD.iM R hx.1 (.slice (some ⟨b,0,none⟩) (g i).len (g i).cap) (c9 w b (.cells c el fr2)) (g i) (.inl ?_) (dm.c9 k3 _ (fun b'=>by rw[k1];simp[eq_comm]) (fun k v hv=>?_)) (.inl rfl) (fun b hb=>.inl hb) ?_ ?_
           . simp only[execOp,ho,hv];rw[Sem.run_bind,hcv];rfl
           . have h10:=R.wr.stw _ _ _ hv;rw[gS k4] at h10;rw[gS (l8 k4),<-h10]
           . have hug:∀j,br g i (g i) j=g j:=fun j=>by by_cases e:j=i<;>simp[br,e]
             rw[show br g i (g i) =g from funext hug];exact⟨q1,q2,q3,q4,q5,q6,.inr ⟨b,c,el,fr2,k1,k2,k3,l8 k4,k5,k6,hfr2,k8⟩⟩
           . have hug:∀j,br g i (g i) j=g j:=fun j=>by by_cases e:j=i<;>simp[br,e]
             rw[show br g i (g i) =g from funext hug];simp only[VR];exact⟨hx.1,by rw[<-hv];exact hx.2⟩
         . exact aa.fail
       . exact aa.fail
     . exact aa.fail
 . exact hb

theorem uO{l:List V} {sz o:Nat} {look:Nat->Option Value} (h:cq st g l sz look o):∃cs:List Value,cs.length=l.length*sz/\(∀v∈cs,v.oneCell'=true)/\(∀k v,cs[k]?=some v->look (o+k) =some v)/\
   ∀(look':Nat->Option Value) (o':Nat),(∀k v,cs[k]?=some v->look' (o'+k) =some v)->cq st g l sz look' o':=by
 induction l generalizing o with
 |nil=>exact⟨[],by simp,by simp,by simp,fun _ _ _=>by simp[cq]⟩
 |cons x l ih=>
   simp only[cq] at h;obtain⟨⟨u,h1,h2,h3,h4⟩,h5⟩:=h;obtain⟨cs,k1,k2,k3,k4⟩:=ih h5;have hul:u.cells.toList.length=sz:=by simpa using h2
   refine⟨u.cells.toList++cs,by simp only[an,hul,k1,List.length_cons,Nat.add_mul];omega,fun v hv=>?_,fun k v hv=>?_,fun look' o' hl=>?_⟩
   . rcases List.mem_append.1 hv with h|h
     . exact h3 v h
     . exact k2 v h
   . rcases eg k sz with hk|hk
     . rw[d6 (by omega)] at hv;rw[h4 k hk];simpa using hv
     . rw[d7 (by omega),hul] at hv;have:=k3 _ v hv;rw[<-this];congr 1;omega
   . simp only[cq];refine⟨⟨u,h1,h2,h3,fun j hj=>?_⟩,k4 look' (o'+sz) fun k v hv=>?_⟩
     . have hj':j<u.cells.toList.length:=by omega
       have:=hl j (u.cells.toList[j]) (by rw[d6 hj',am hj']);rw[this];rw[Array.getElem?_eq_getElem (by omega)];simp
     . have:=hl (sz+k) v (by rw[d7 (by omega),hul,Nat.add_sub_cancel_left];exact hv);rw[<-this];congr 1;omega

theorem oX.cells{v:Value} {sz:Nat} {l:List V} (h:oX E st g w v sz l) {esz:Nat} (hsz:ju sz esz l=true) (h0:0<esz):
   ∃cs:List Value,cs.length=l.length*esz/\(∀u∈cs,u.oneCell'=true)/\(∀(look:Nat->Option Value) (o:Nat),(∀k u,cs[k]?=some u->look (o+k) =some u)->cq st g l esz look o)/\
    ∀(P:Program) (w':World),w'.heap=w.heap->(Builtin.lenOf v).run P w'=.ok l.length w'/\∀n,n<=l.length->(Builtin.firstCells esz n v).run P w'=.ok (cs.take (n*esz)).toArray w':=by
 obtain⟨hlen,hmax⟩:=h;rcases hlen with ⟨base,cap,rfl,hrow⟩|⟨rfl,p,rfl,rfl⟩
 . rcases hrow with rfl|⟨b,of,rfl,hs0,hrow⟩
   . refine⟨[],by simp,by simp,fun _ _ _=>by simp[cq],fun P w' _=>⟨by simp[Builtin.lenOf],fun n hn=>?_⟩⟩;simp only[List.length_nil] at hn;have hn:n=0:=by omega
     subst hn;cases base<;>simp[Builtin.firstCells,loadCells,loadCellsFrom]
   . rcases rN hsz with rfl|rfl
     . obtain⟨cs,k1,k2,k3,k4⟩:=uO hrow;refine⟨cs,k1,k2,k4,fun P w' hw=>⟨by simp[Builtin.lenOf],fun n hn=>?_⟩⟩;have hle:n*sz<=cs.length:=by rw[k1];exact gA _ hn
       have:=run_firstCells_some (P:=P) w' sz n ⟨b,of,none⟩ l.length cap (cs.take (n*sz)) (by simp;omega) (fun j u hj=>by
        rw[List.getElem?_take] at hj;split at hj
        . have:=k3 j u hj;rw[Addr.add_lit];simp only[World.cell?,hw] at this⊢;exact this
        . cases hj)
       exact this
     . refine⟨[],by simp,by simp,fun _ _ _=>by simp[cq],fun P w' _=>⟨by simp[Builtin.lenOf],fun n hn=>?_⟩⟩;simp only[List.length_nil] at hn;have hn:n=0:=by omega
       subst hn;simp[Builtin.firstCells,loadCells,loadCellsFrom]
 . have hpsz:(⟨p.toArray⟩:ByteArray).size=p.length:=by show p.toArray.size=_;simp
   have hesz:1=esz\/bl p=[]:=rN hsz;have hcs:(bl p).length=p.length:=iA p;rcases hesz with rfl|hp
   . refine⟨p.map fun b=>.int .u8 (b.toNat:Int),by simp[hcs],by simp[Value.oneCell'],fun look o hl=>?_,fun P w' _=>⟨by simp[Builtin.lenOf,hpsz,hcs],fun n hn=>?_⟩⟩
     . exact H5 fun j hj=>hl j _ (by simp[hj])
     . simp only[Builtin.firstCells,Sem.run_pure]
       congr 1
       rw[Hg];apply Array.ext';simp[List.map_take]
   . have hp0:p=[]:=d5 (by rw[<-hcs,hp];rfl);subst hp0;refine⟨[],by simp[bl],by simp,fun _ _ _=>by simp[bl,cq],fun P w' _=>⟨by simp[Builtin.lenOf,bl];rfl,fun n hn=>?_⟩⟩;simp only[bl,List.length_nil] at hn;have hn:n=0:=by omega
     subst hn;simp[Builtin.firstCells]

theorem Vu{pP old bytes:Nat} (h:old<pP) (h1:pP<=4294967296) (h2:bytes<=4096):Builtin.nextslicecap pP old*bytes<=281474976710656:=by
 refine growslice_fits h ?_;have:pP*bytes<=4294967296*4096:=Nat.mul_le_mul h1 h2;omega

theorem Dx{P:Program} {w:World} {t t2 ty e:TypeId} {info:TypeInfo} {z:Value} (ht:P.underlying t=some (.slice e)) (hd:∃d,P.underlying t2=some d/\∀k,d≠.int k) (hi:P.info? e=some info) (hz:info.zero=some z)
   {base:Option Addr} {n cap m:Nat} {x:Value} {olds news:List Value} (hl:∀w':World,w'.heap=w.heap->(Builtin.lenOf x).run P w'=.ok m w'/\(Builtin.firstCells info.size m x).run P w'=.ok news.toArray w')
   (hold:∀w':World,w'.heap=w.heap->(Builtin.firstCells info.size n (.slice base n cap)).run P w'=.ok olds.toArray w') (hlim:n+m<=4294967296) (hb:info.bytes<=4096):
   (n+m<=cap->(base=none->(Builtin.append_ #[t,t2] ty #[.slice base n cap,x]).run P w=.ok (.slice base (n+m) cap) w)/\
    ∀ad,base=some ad->(Builtin.append_ #[t,t2] ty #[.slice base n cap,x]).run P w=((storeCells (ad.add (n*info.size)) news).run P w).andThen fun _ w'=>.ok (.slice base (n+m) cap) w')/\
   (cap<n+m->(Builtin.append_ #[t,t2] ty #[.slice base n cap,x]).run P w=.ok (.slice (some ⟨w.heap.size,0,none⟩) (n+m) (grownCap w (n+m) cap e))
    (w.drew.alloc (.cells (olds++news++(Builtin.zeroCells z.cells (grownCap w (n+m) cap e-(n+m))).toList).toArray e))):=by
 obtain⟨d,hd1,hd2⟩:=hd;have h1:=(hl w rfl).1;have h2:=(hl w rfl).2;have h2':=(hl w.drew rfl).2;have h3:=hold w.drew rfl;have ht':=run_underlying ht w;have hd':=run_underlying hd1 w;constructor
 . intro hroom;constructor
   . intro hbase;subst hbase;unfold Builtin.append_;simp only[List.getElem?_toArray,List.getElem?_cons_zero,List.getElem?_cons_succ,Sem.run_bind,Sem.run_pure,ht',hd',Result.andThen_ok,sizeOf,typeInfo,run_program,hi,h1,Bool.false_eq_true,if_false];rw[if_pos hroom];simp only[Bool.not_false,if_true,Sem.run_bind,h2,Result.andThen_ok];rfl
   . intro ad hbase;subst hbase;unfold Builtin.append_;simp only[List.getElem?_toArray,List.getElem?_cons_zero,List.getElem?_cons_succ,Sem.run_bind,Sem.run_pure,ht',hd',Result.andThen_ok,sizeOf,typeInfo,run_program,hi,h1,Bool.false_eq_true,if_false];rw[if_pos hroom];simp only[Bool.not_false,if_true,Sem.run_bind,h2,Result.andThen_ok];rfl
 . intro hgr;have n1:¬(n+m<=cap):=by omega
   have n2:¬(((n+m:Nat):Int)>IntKind.i64.max/\(False\/info.bytes=0)):=by
    rw[IntKind.max_i64];omega
   have n3:¬(Builtin.nextslicecap (n+m) cap*info.bytes>2^48):=by
    have:=Vu (bytes:=info.bytes) hgr hlim hb;omega
   unfold Builtin.append_;simp only[List.getElem?_toArray,List.getElem?_cons_zero,List.getElem?_cons_succ,Sem.run_bind,Sem.run_pure,ht',hd',Result.andThen_ok,sizeOf,typeInfo,run_program,hi,h1,Bool.false_eq_true,if_false];rw[if_neg n1];simp only[Sem.run_bind,run_program,hi,Sem.run_pure,Result.andThen_ok];rw[if_neg n2];simp only[Sem.run_bind,run_program,hi,Sem.run_pure,Result.andThen_ok];rw[if_neg n3];have hch:(choose (Question.appendCap (n+m) cap e)).run P w=.ok (grownCap w (n+m) cap e) w.drew:=by
    simp[Question.forced,grownCap]
   simp only[Sem.run_bind,run_program,hi,Sem.run_pure,Result.andThen_ok,hch,run_askRoom,h3,Bool.not_false,if_true,h2',zeroValue,typeInfo,hz,newRow,run_newObj_alloc,World.size_drew]
   congr 3
   apply Array.ext';simp

theorem AZ{l r:List V} {sz:Nat} {look:Nat->Option Value} {o:Nat} (h:cq st g l sz look o) (k:cq st g r sz look (o+l.length*sz)):cq st g (l++r) sz look o:=by
 induction l generalizing o with
 |nil=>simpa using k
 |cons x l ih=>
   simp only[cq,List.cons_append] at h⊢;refine⟨h.1,ih h.2 ?_⟩;rw[List.length_cons,Nat.add_mul,Nat.one_mul] at k
   rwa [show o+sz+l.length*sz=o+(l.length*sz+sz) by omega]

theorem VB{t2:TypeId} (G:Good C) (h1:∀k,(C.ti t2).k≠.int k) (h2:(C.ti t2).k≠.other):∃d,C.P.underlying t2=some d/\∀k,d≠.int k:=by
 have h3:=((G.ti t2).of h2).1;cases hk':(C.ti t2).k<;>rw[hk'] at h3<;>simp only[TK.ok] at h3
 case int k=>exact absurd hk' (h1 k)
 case struct fs=>obtain⟨f,h3,_⟩:=h3;exact⟨_,h3,by simp⟩
 case iface=>obtain⟨p,h3⟩:=h3;exact⟨_,h3,by simp⟩
 case func=>obtain⟨p,q,r,h3⟩:=h3;exact⟨_,h3,by simp⟩
 all_goals exact⟨_,h3,by simp⟩

theorem Xg{t t2 e:TypeId} {x y:Operand} {sz:Nat} {ys:List V} {rd:List Nat} {args:Array Operand} (R:Rel E st g s a w) (hg:aV C.gl st) (G:Good C) (hargs:args.toList=[x,y])
   (ho:o.op=.call {callee:=.builtin .append,args:=args,argTypes:=#[t,t2]}) (ht:C.P.underlying t=some (.slice e)) (hd:∃d,C.P.underlying t2=some d/\∀k,d≠.int k)
   (hk2:(C.ti e).k≠.other) (hb:(C.ti e).bytes<=4096) (h0:0<(C.ti e).size) (hy:oX E st g w (a.eval y) sz ys) (hsz:ju sz (C.ti e).size ys=true)
   (hz1:(C.ti e).zero.eX=false) (hz2:(C.ti e).zero.cells.length=(C.ti e).size):cz C E st g s a w o (pj C s e (s.ev C x) ys rd):=by
 have hx:=bn (C:=C) R hg x;obtain⟨_,⟨info,e4,e5,e6,z,e7,e8⟩,_⟩:=(G.ti e).of hk2;obtain⟨cs,c1,c2,c3,c4⟩:=hy.cells hsz h0;have hargs':args=#[x,y]:=by cases args;simp_all
 subst hargs';have hzl:z.cells.size=(C.ti e).size:=by rw[<-hz2,eJ (jU (e8 st g 0) hz1)];simp
 have hex:∀v w',(Builtin.append_ #[t,t2] o.type #[a.eval x,a.eval y]).run C.P w=.ok v w'->(execOp a.eval o).run C.P w=.ok (.value v) w':=fun v w' h=>by
  simp only[execOp,ho,resolve,invoke,builtin];simp[h]
 have hnews:∀w':World,w'.heap=w.heap->(Builtin.lenOf (a.eval y)).run C.P w'=.ok ys.length w'/\(Builtin.firstCells info.size ys.length (a.eval y)).run C.P w'=.ok cs.toArray w':=fun w' hw=>by
  obtain⟨q1,q2⟩:=c4 C.P w' hw;refine⟨q1,?_⟩;have:=q2 ys.length (co _);rw[e5,this,gg (by omega)]
 unfold pj;split
 . rename_i sz0 l he;rw[he] at hx;simp only[VR] at hx;obtain⟨base,cap,hx,h1,h2,h3,h4⟩:=hx;have hcap:=h3 trivial;refine aa.when fun hsz0=>aa.aR fun hlim=>aa.aR fun hor=>?_;rw[dN,dN];refine aa.ret ?_
   --the cells that are there already
   have hold:∃olds:List Value,olds.length=l.length*(C.ti e).size/\(∀look o,(∀k u,olds[k]?=some u->look (o+k) =some u)->cq st g l (C.ti e).size look o)/\
      ∀w':World,w'.heap=w.heap->(Builtin.firstCells info.size l.length (.slice base l.length cap)).run C.P w'=.ok olds.toArray w':=by
    rcases h4 with rfl|⟨b,of,rfl,h5,h6⟩
    . refine⟨[],by simp,fun _ _ _=>by simp[cq],fun w' _=>?_⟩;cases base<;>simp[Builtin.firstCells,loadCells,loadCellsFrom]
    . rcases rN hsz0 with rfl|rfl
      . obtain⟨olds,k1,k2,k3,k4⟩:=uO h6;refine⟨olds,k1,k4,fun w' hw=>?_⟩;rw[e5];refine run_firstCells_some w' _ l.length _ l.length cap olds k1 (fun j u hj=>?_);rw[Addr.add_lit];have:=R.wr.stw _ _ _ (k3 j u hj);simp only[World.cell?,hw] at this⊢;exact this
      . refine⟨[],by simp,fun _ _ _=>by simp[cq],fun w' _=>?_⟩;simp[Builtin.firstCells,loadCells,loadCellsFrom]
   obtain⟨olds,k1,k2,k3⟩:=hold;obtain⟨hroom,hgrow⟩:=Dx (w:=w) (ty:=o.type) ht hd e4 e7 hnews k3 hlim (by omega);rw[<-hx] at hroom hgrow;by_cases hys:ys=[]
   . --nothing was there and nothing comes
     have hl0:l=[]:=by
      rcases hor with h|h
      . exact h
      . exact absurd hys h
     subst hys;subst hl0;simp only[List.length_nil] at hcap;subst hcap;have hlen0:cs=[]:=d5 (by simpa using c1);have hr:(Builtin.append_ #[t,t2] o.type #[a.eval x,a.eval y]).run C.P w=.ok (.slice base 0 0) w:=by
      obtain⟨r1,r2⟩:=hroom (by simp);cases base with
      |none=>exact r1 rfl
      |some ad=>
        rw[r2 ad rfl,hlen0];rfl
     refine aD.val _ w st (br g s.sg.length ⟨none,base,0,0,(C.ti e).size⟩) (hex _ _ hr) ⟨fun _ _ _ h=>h,fun i hi _=>cI (Nat.ne_of_lt hi),by rw[pb];simp⟩ ?_ ?_
     . rw[pb];refine R.wr.step (dm.same (aY.refl w)) (fun i o' hi=>?_) (fun i j b hi hj h1 h2=>?_)
       . rw[an,gt];rcases Nat.lt_trichotomy i s.sg.length with hlt|heq|hgt
         . rw[d6 hlt] at hi;rw[cI (Nat.ne_of_lt hlt)];exact(R.wr.ob i o' hi).aX (fun _ _=>rfl) (fun _ _ _ h=>h) (fun _ _ _ _ h=>h) (fun j _ hj=>⟨by omega,cI (Nat.ne_of_lt hj)⟩)
         . subst heq;rw[d7 (co _)] at hi;simp at hi;subst hi;rw[dP];exact⟨h0,rfl,by simp,by simp,rfl,by simp,.inl ⟨rfl,rfl⟩⟩
         . rw[dl (by simp;omega)] at hi;cases hi
       . rw[an,gt] at hi hj;by_cases e1:i=s.sg.length
         . subst e1;rw[dP] at h1;cases h1
         . by_cases e2:j=s.sg.length
           . subst e2;rw[dP] at h2;cases h2
           . rw[cI e1] at h1;rw[cI e2] at h2;exact R.wr.inj i j b (by omega) (by omega) h1 h2
     . rw[pb];simp only[VR,dP];exact⟨by simp,trivial⟩
   . have hpos:0<ys.length:=by cases ys with
       |nil=>exact absurd rfl hys
       |cons _ _=>simp
     have hr:=hgrow (by omega);have hge:=grownCap_ge w (l.length+ys.length) cap e;have hl1:(l++ys).length=l.length+ys.length:=by simp
     refine aD.CZ R w.drew ⟨rfl,rfl,rfl,rfl⟩ _ e (grownCap w (l.length+ys.length) cap e) h0 (by omega) (by rw[hl1];exact Nat.le_trans hlim w9) (by rw[hl1];exact hex _ _ hr) ?_ ?_
     . simp only[List.size_toArray,an,Array.length_toList,size_zeroCells,hzl,k1,c1,<-Nat.add_mul]
       congr 1;omega
     . refine AZ (k2 _ _ fun k u hk=>?_) (c3 _ _ fun k u hk=>?_)
       . have hlt:k<olds.length:=by
           rcases eg k olds.length with h'|h'
           . exact h'
           . simp[dl h'] at hk
         rw[List.getElem?_toArray,Nat.zero_add,gc,d6 hlt];exact hk
       . have hlt:k<cs.length:=by
           rcases eg k cs.length with h'|h'
           . exact h'
           . simp[dl h'] at hk
         rw[List.getElem?_toArray,Nat.zero_add,<-k1,gc,d7 (by omega),Nat.add_sub_cancel_left,d6 hlt];exact hk
 . rename_i i he;rw[he] at hx;simp only[VR] at hx;obtain⟨hil,hx⟩:=hx;split
   . rename_i sz0 pre l hs;obtain⟨hs1,_⟩:=eU hs (by simp);obtain⟨q1,q2,q3,q4,q5,q6,q7⟩:=R.wr.ob i _ hs1;refine aa.when fun hsz0=>aa.aR fun hlim=>aa.ret ?_;simp only[aA] at hsz0;have hsz0:=cb hsz0.1;subst hsz0;have hl1:(l++ys).length=l.length+ys.length:=by simp
     --the cells that are there already
     have hold:∃olds:List Value,olds.length=l.length*(C.ti e).size/\(∀look o,(∀k u,olds[k]?=some u->look (o+k) =some u)->cq st g l (C.ti e).size look o)/\
        ∀w':World,w'.heap=w.heap->(Builtin.firstCells info.size l.length (.slice (g i).base l.length (g i).cap)).run C.P w'=.ok olds.toArray w':=by
      rcases q7 with ⟨q7,_⟩|⟨b',c,el,fr,k1,k2,k3,k4,k5,k6,k7,k8⟩
      . have hl0:l=[]:=d5 (by omega);subst hl0;refine⟨[],by simp,fun _ _ _=>by simp[cq],fun w' _=>?_⟩;cases(g i).base<;>simp[Builtin.firstCells,loadCells,loadCellsFrom]
      . obtain⟨olds,m1,m2,m3,m4⟩:=uO k6;refine⟨olds,m1,m4,fun w' hw=>?_⟩;rw[e5,k2];refine run_firstCells_some w' _ l.length _ l.length (g i).cap olds m1 (fun j u hj=>?_);rw[Addr.add_lit];have:=m3 j u hj;have h9:w'.heap[b']?=some (.cells c el fr):=by rw[hw];exact k4
        rw[gS h9];exact this
     obtain⟨olds,m1,m2,m3⟩:=hold;obtain⟨hroom,hgrow⟩:=Dx (w:=w) (ty:=o.type) ht hd e4 e7 hnews m3 hlim (by omega);rw[q5] at hx;rw[<-hx] at hroom hgrow;rcases eg (g i).cap (l.length+ys.length) with hgr|hro
     . --a new block
       have hr:=hgrow hgr;have hge:=grownCap_ge w (l.length+ys.length) (g i).cap e;refine aD.iM R hil _ _ ⟨some w.heap.size,some ⟨w.heap.size,0,none⟩,l.length+ys.length,grownCap w (l.length+ys.length) (g i).cap e,(C.ti e).size⟩ (.inl (hex _ _ hr))
        ⟨rfl,rfl,rfl,by simp,fun b hb _=>pJ (w:=w.drew) hb,fun b hb=>(R.wr.cF hil hb).2,fun _ _ _ h=>h,fun _ _ _ h=>.inl h,fun b k v hb hv=>?_⟩
        (.inr (by simp[aQ,Nat.beq_refl])) (fun b hb=>.inr (by simpa using hb.symm)) ?_ ?_
       . rw[qq (pJ (w:=w.drew) (R.wr.cF hil hb).1)];exact R.wr.stw _ _ _ hv
       . refine⟨q1,rfl,by rw[hl1];omega,by rw[hl1];exact Nat.le_trans hlim w9,by rw[hl1],by rw[hl1];exact hge,.inr ⟨w.heap.size,_,e,(0,0),rfl,rfl,R.wr.gnew _ R.wr.size,heap_alloc_new (w:=w.drew),?_,?_,⟨by simp,by intro o _;simp⟩,fun k v hv=>?_⟩⟩
         . simp only[List.size_toArray,an,Array.length_toList,size_zeroCells,hzl,m1,c1,<-Nat.add_mul]
           congr 1;omega
         . refine lq (st:=st) (g:=g) (fun _ _ _ h=>h) (fun _ _ h=>h) (AZ (m2 _ _ fun k u hk=>?_) (c3 _ _ fun k u hk=>?_))
           . have hlt:k<olds.length:=by
               rcases eg k olds.length with h'|h'
               . exact h'
               . simp[dl h'] at hk
             rw[List.getElem?_toArray,Nat.zero_add,gc,d6 hlt];exact hk
           . have hlt:k<cs.length:=by
               rcases eg k cs.length with h'|h'
               . exact h'
               . simp[dl h'] at hk
             rw[List.getElem?_toArray,Nat.zero_add,<-m1,gc,d7 (by omega),Nat.add_sub_cancel_left,d6 hlt];exact hk
         . rw[R.wr.ml k] at hv;cases hv
       . simp only[VR,dP];exact⟨hil,trivial⟩
     . obtain⟨r1,r2⟩:=hroom hro;rcases q7 with ⟨q7,q8⟩|⟨b',c,el,fr,k1,k2,k3,k4,k5,k6,k7,k8⟩
       . --nothing is there and nothing comes
         have hl0:l=[]:=d5 (by omega);have hys:ys=[]:=d5 (by omega);subst hl0;subst hys;have hcs:cs=[]:=d5 (by simpa using c1);have hr:(Builtin.append_ #[t,t2] o.type #[a.eval x,a.eval y]).run C.P w=.ok (.slice (g i).base 0 (g i).cap) w:=by
          cases hbs:(g i).base with
          |none=>have:=r1 hbs;rw[hbs] at this;exact this
          |some ad=>
            have:=r2 ad hbs;rw[this,hcs,hbs];rfl
         refine aD.iM R hil _ w {g i with len:=0} (.inl (hex _ _ hr)) ⟨rfl,rfl,rfl,co _,fun _ _ _=>rfl,fun b hb=>(R.wr.cF hil hb).2,fun _ _ _ h=>h,fun _ _ _ h=>.inl h,fun b o v _ h=>R.wr.stw _ _ _ h⟩
          (.inr (by simp[aQ,Nat.beq_refl])) (fun b hb=>.inl hb) ?_ ?_
         . exact⟨q1,q2,by simpa using q3,by simp,by simp,by simp,.inl ⟨q7,q8⟩⟩
         . simp only[VR,dP];exact⟨hil,trivial⟩
       . --cZ the room that is there
         have hr:=r2 _ k2;have hin:(l.length+ys.length)*(C.ti e).size<=c.size:=by rw[k5];exact gA _ hro
         rw[Nat.add_mul] at hin;have hlen:cs=[]\/l.length*(C.ti e).size+cs.length<=c.toList.length:=by right;rw[c1];simpa using hin
         have hst:=uc (P:=C.P) (b:=b') (o:=0+l.length*(C.ti e).size) cs 0 c w k4 k7 (by simpa using hlen) c2;rw[Nat.add_zero,Nat.zero_add] at hst;have had:(⟨b',0,none⟩:Addr).add (l.length*info.size) =⟨b',l.length*(C.ti e).size,none⟩:=by rw[Addr.add_lit,e5,Nat.zero_add]
         rw[had,hst] at hr;have hcell:=tU (xs:=c.toList) (ys:=cs) (o:=l.length*(C.ti e).size) hlen;refine aD.iM R hil _ _ {g i with len:=l.length+ys.length} (.inl (hex _ _ hr)) (dm.c9 k3 _ (fun b''=>by rw[k1];simp[eq_comm]) (fun k v hv=>?_))
          (.inr (by simp[aQ,Nat.beq_refl])) (fun b hb=>.inl hb) ?_ ?_
         . have h9:=k8 k v hv;have h10:=R.wr.stw _ _ _ hv;rw[gS k4] at h10;have:pre*(C.ti e).size<=l.length*(C.ti e).size:=gA _ q3;rw[gS (l8 k4),List.getElem?_toArray,hcell,if_neg (by omega),<-h10];simp
         . refine⟨q1,q2,by rw[hl1];omega,by rw[hl1];exact Nat.le_trans hlim w9,by rw[hl1],by rw[hl1];exact hro,.inr ⟨b',_,el,fr,k1,k2,k3,l8 k4,?_,?_,?_,k8⟩⟩
           . simp only[List.size_toArray,lI hlen,Array.length_toList];exact k5
           . obtain⟨olds',n1,n2,n3,n4⟩:=uO k6;refine lq (st:=st) (g:=g) (fun _ _ _ h=>h) (fun _ _ h=>h) (AZ (n4 _ _ fun k u hk=>?_) (c3 _ _ fun k u hk=>?_))
             . have hlt:k<olds'.length:=by
                 rcases eg k olds'.length with h'|h'
                 . exact h'
                 . simp[dl h'] at hk
               have:=n3 k u hk;rw[List.getElem?_toArray,hcell,if_neg (by omega)];simpa using this
             . have hlt:k<cs.length:=by
                 rcases eg k cs.length with h'|h'
                 . exact h'
                 . simp[dl h'] at hk
               rw[List.getElem?_toArray,Nat.zero_add,hcell,if_pos (by omega),Nat.add_sub_cancel_left];exact hk
           . refine⟨k7.1,fun k hk=>?_⟩;refine k7.2 k ?_;simp only[List.size_toArray,lI hlen,Array.length_toList] at hk;exact hk
         . simp only[VR,dP];exact⟨hil,trivial⟩
   . exact aa.fail
 . exact aa.fail
theorem Xh{t t2 e:TypeId} {x y:Operand} {sz:Nat} {ys:List V} {rd:List Nat} {args:Array Operand} (R:Rel E st g s a w) (hg:aV C.gl st) (G:Good C) (hargs:args.toList=[x,y])
   (ho:o.op=.call {callee:=.builtin .append,args:=args,argTypes:=#[t,t2]}) (ht:C.P.underlying t=some (.slice e)) (hd:∃d,C.P.underlying t2=some d/\∀k,d≠.int k)
   (hk2:(C.ti e).k≠.other) (hb:(C.ti e).bytes<=4096) (h0:0<(C.ti e).size) (hy:oX E st g w (a.eval y) sz ys) (hsz:ju sz (C.ti e).size ys=true)
   (hz1:(C.ti e).zero.eX=false) (hz2:(C.ti e).zero.cells.length=(C.ti e).size):cz C E st g s a w o (pk C s e sz (s.ev C x) ys rd):=by
 have hy0:=hy;have hx:=bn (C:=C) R hg x;obtain⟨_,⟨info,e4,e5,e6,z,e7,e8⟩,_⟩:=(G.ti e).of hk2;obtain⟨cs,c1,c2,c3,c4⟩:=hy.cells hsz h0;have hargs':args=#[x,y]:=by cases args;simp_all
 subst hargs';have hzl:z.cells.size=(C.ti e).size:=by rw[<-hz2,eJ (jU (e8 st g 0) hz1)];simp
 have hex:∀v w',(Builtin.append_ #[t,t2] o.type #[a.eval x,a.eval y]).run C.P w=.ok v w'->(execOp a.eval o).run C.P w=.ok (.value v) w':=fun v w' h=>by
  simp only[execOp,ho,resolve,invoke,builtin];simp[h]
 have hnews:∀w':World,w'.heap=w.heap->(Builtin.lenOf (a.eval y)).run C.P w'=.ok ys.length w'/\(Builtin.firstCells info.size ys.length (a.eval y)).run C.P w'=.ok cs.toArray w':=fun w' hw=>by
  obtain⟨q1,q2⟩:=c4 C.P w' hw;refine⟨q1,?_⟩;have:=q2 ys.length (co _);rw[e5,this,gg (by omega)]
 unfold pk;split
 . rename_i sz0 v0 l0 he;rw[he] at hx;have hvr:=hx;simp only[VR] at hx;obtain⟨base,cap,hx,h1,h2,h3,h4⟩:=hx;generalize hl:v0::l0=l at*;have hlim0:l.length=l0.length+1:=by rw[<-hl];rfl
   . refine aa.when fun hsz0=>aa.aR fun hlim=>?_;rw[dN];refine aa.ret ?_;have hold:∃olds:List Value,
        ∀w':World,w'.heap=w.heap->(Builtin.firstCells info.size l.length (.slice base l.length cap)).run C.P w'=.ok olds.toArray w':=by
      rcases h4 with rfl|⟨b,of,rfl,h5,h6⟩
      . refine⟨[],fun w' _=>?_⟩;cases base<;>simp[Builtin.firstCells,loadCells,loadCellsFrom]
      . rcases rN hsz0 with rfl|rfl
        . obtain⟨olds,k1,k2,k3,k4⟩:=uO h6;refine⟨olds,fun w' hw=>?_⟩;rw[e5];refine run_firstCells_some w' _ l.length _ l.length cap olds k1 (fun j u hj=>?_);rw[Addr.add_lit];have:=R.wr.stw _ _ _ (k3 j u hj);simp only[World.cell?,hw] at this⊢;exact this
        . refine⟨[],fun w' _=>?_⟩;simp[Builtin.firstCells,loadCells,loadCellsFrom]
     obtain⟨olds,k3⟩:=hold;obtain⟨hroom,_⟩:=Dx (w:=w) (ty:=o.type) ht hd e4 e7 hnews k3 (by simp only[List.length_nil];omega) (by omega);rw[<-hx] at hroom;have hlen0:cs=[]:=d5 (by simpa using c1);have hr:(Builtin.append_ #[t,t2] o.type #[a.eval x,a.eval y]).run C.P w=.ok (.slice base l.length cap) w:=by
      obtain⟨r1,r2⟩:=hroom (by simpa using h1);cases base with
      |none=>exact r1 rfl
      |some ad=>
        rw[r2 ad rfl,hlen0];rfl
     have A:jS E st g s.sg.length st (br g s.sg.length ⟨none,none,0,0,(C.ti e).size⟩) (s.app o.dst ⟨.list true sz0 l,[],[],[.buf (C.ti e).size 0 []],rd⟩).sg.length []:=⟨fun _ _ _ h=>h,fun i hi _=>cI (Nat.ne_of_lt hi),by rw[pb];simp⟩
     refine aD.val _ w st (br g s.sg.length ⟨none,none,0,0,(C.ti e).size⟩) (hex _ _ hr) A ?_ ?_
     . rw[pb];refine R.wr.step (dm.same (aY.refl w)) (fun i o' hi=>?_) (fun i j b hi hj h1 h2=>?_)
       . rw[an,gt];rcases Nat.lt_trichotomy i s.sg.length with hlt|heq|hgt
         . rw[d6 hlt] at hi;rw[cI (Nat.ne_of_lt hlt)];exact(R.wr.ob i o' hi).aX (fun _ _=>rfl) (fun _ _ _ h=>h) (fun _ _ _ _ h=>h) (fun j _ hj=>⟨by omega,cI (Nat.ne_of_lt hj)⟩)
         . subst heq;rw[d7 (co _)] at hi;simp at hi;subst hi;rw[dP];exact⟨h0,rfl,by simp,by simp,rfl,by simp,.inl ⟨rfl,rfl⟩⟩
         . rw[dl (by simp;omega)] at hi;cases hi
       . rw[an,gt] at hi hj;by_cases e1:i=s.sg.length
         . subst e1;rw[dP] at h1;cases h1
         . by_cases e2:j=s.sg.length
           . subst e2;rw[dP] at h2;cases h2
           . rw[cI e1] at h1;rw[cI e2] at h2;exact R.wr.inj i j b (by omega) (by omega) h1 h2
     . have:=uM A hvr;rw[iW,hx] at this;exact this
 . exact Xg R hg G hargs ho ht hd hk2 hb h0 hy0 hsz hz1 hz2
end
end Go.VG
