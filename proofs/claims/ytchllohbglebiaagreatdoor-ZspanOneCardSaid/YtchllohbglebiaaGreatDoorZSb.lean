/-
  A part of the proof.
-/
import Derived.Test.YtchllohbglebiaaGreatDoorJSm
import Derived.Test.YtchllohbglebiaaGreatDoorUTFe
set_option linter.unusedSimpArgs false
set_option linter.unusedVariables false
set_option maxHeartbeats 4000000
set_option maxRecDepth 100000
namespace Go.Proofs.YtchllohbglebiaaGreatDoor
open Go Go.VG
theorem DI:∀i,i<16->di (hexDigits.getD i 0) =i/\eQ (hexDigits.getD i 0) =true/\(hexDigits.getD i 0).toNat<128:=by decide
theorem VQ:∀n,n<256->eQ (.ofNat n) =true->hexDigits.getD (di (.ofNat n)) 0=.ofNat n:=by decide
theorem Lm{b:UInt8} (h:eQ b=true):hexDigits.getD (di b) 0=b:=by
 have:=VQ b.toNat b.toNat_lt;rw[UInt8.ofNat_toNat] at this;exact this h
theorem VS{b:UInt8} (h:eQ b=false):di b=0:=by
 unfold eQ at h;rw[decide_eq_false_iff_not] at h;unfold di;rw[if_neg (by omega),if_neg (by omega)]
theorem Rq(b:UInt8) (hp:True):OK 132 ([bv b]) ([]) (.tuple [.int .i64 (di b),.bool (eQ b)]) (none):=by
 refine aq (C:=cx []) (ar trivial) (fn:=Tryz.f132) fun hw hs=>?_;have hb:b.toNat<256:=b.toNat_lt;all_goals try conv=>whnf
 all_goals try(refine ae.mk ?_;try dsimp only)
 all_goals (try simp only[aV] at*)
 all_goals try refine stay ?_
 refine aZ.mk Nat (fun i=>i<=16/\∀j,j<i->hexDigits.getD j 0≠b) (fun i=>⟨16,[(0,.int .u8 b.toNat),(6,.ptr 0 0)],[.siter hexDigits i],[]⟩) (fun i=>16-i) [] 0 ⟨by omega,by simp⟩ ?_ (fun i ⟨hi,hj⟩ _ _=>?_)
 . apply ay<;>(repeat' first|trivial)
 have hl:hexDigits.length=16:=rfl;have hd:i<16->hexDigits[i]?=some (hexDigits.getD i 0):=fun h=>by
  rw[ac,am (by rw[hl];exact h)];rfl
 have hn:=DI i;repeat'((conv=>whnf);(apply av<;>intro h))
 all_goals try conv=>whnf
 all_goals try(refine ae.mk ?_;try dsimp only)
 all_goals (try simp only[aV] at*)
 all_goals try refine stay ?_
 . rw[hd (by omega)];have hn:=hn (by omega);generalize hx:hexDigits.getD i 0=x at*;have hwb:IntKind.i32.wrap (b.toNat:Int) =b.toNat:=by(simp(discharger:=omega) only[wR];omega)
   repeat'((conv=>whnf);first|apply af|(apply av<;>intro h))
   all_goals try conv=>whnf
   all_goals try(refine ae.mk ?_;try dsimp only)
   all_goals (try rw[hwb] at*)
   all_goals (try simp only[aV] at*)
   all_goals first|refine stay ?_|omega|skip
   . have:x=b:=UInt8.toNat_inj.1 (by omega);subst this;refine ab.mk [] ?_<;>(repeat' first|trivial|apply ah|apply aN|apply mE|apply nX|apply cT)
     . rw[hn.1]
     . rw[hn.2.1]
   . refine⟨[],i+1,⟨by omega,fun j hjj=>?_⟩,?_,by omega⟩
     . by_cases e:j=i
       . subst e;rw[hx];intro e;subst e;omega
       . exact hj j (by omega)
     . apply ay<;>(repeat' first|trivial)
 . have hf:eQ b=false:=by
     cases h:eQ b with
     |false=>rfl
     |true=>
       exfalso;refine hj (di b) ?_ (Lm h);have:=mO b;omega
   refine ab.mk [] ?_<;>(repeat' first|trivial|apply ah|apply aN|apply mE|apply nX|apply cT)
   . rw[VS hf];rfl
   . rw[hf]
def Bc:Sm:=fun args σ=>match args,σ with
 |[.int .u8 n_b],[]=>some ((0<=n_b/\n_b<=255)/\(True),.tuple [.int .i64 (di (byte n_b)),.bool (eQ (byte n_b))],none)
 |_,_=>none
theorem Kc:ax 132 Bc:=by
 intro args sg pre x r he hp;unfold Bc at he;split at he<;>cases he
 . rw[l7 (hp).1];exact Rq (hp:=hp.2) ..
theorem QE(c:Cu) (o:List V) (hp:c.ok):OK 199 ([.ptr 0 0]) ([.cells [.ptr 1 0,.buf 2],.cells (eC c),.buf 1 0 o]) (.int .i32 c.od) (some [.cells [.ptr 1 0,.buf 2],.cells (eC c.j4),.buf 1 0 o]):=by
 refine aq (C:=cx [(85,mU),(132,Bc),(91,nE)]) (ar ⟨og,Kc,p9,trivial⟩) (fn:=Tryz.f199) fun hw hs=>?_;have hb:c.aw.toNat<256:=c.aw.toNat_lt;have e1:65<=c.aw.toNat/\c.aw.toNat<=70->byte (IntKind.u8.wrap (c.aw.toNat+32)) =fj c.aw:=fun h=>by
  unfold fj;rw[if_pos h,sS,show((c.aw.toNat:Int)+32)%256=c.aw.toNat+32 by omega]
 have e2:¬(65<=c.aw.toNat/\c.aw.toNat<=70)->byte c.aw.toNat=fj c.aw:=fun h=>by
  unfold fj;rw[if_neg h,eX]
 have hv:=mO (fj c.aw);repeat'((conv=>whnf);first|apply af|apply aK|(apply av<;>intro h))
 all_goals try conv=>whnf
 all_goals try(refine ae.mk ?_;try dsimp only)
 all_goals (try simp only[aV] at*)
 all_goals first|refine stay ?_|trivial|(simp(discharger:=omega) [-List.getD_eq_getElem?_getD,wR]<;>omega)|skip
 all_goals first
  |exact⟨by omega,trivial⟩
  |(first|rw[e1 (by omega)] at*|rw[e2 (by omega)] at*)
 all_goals
  first
  |have hn:eQ (fj c.aw) =true:=decide_eq_true (by assumption)
  |have hn:eQ (fj c.aw) =false:=decide_eq_false (by assumption)
  unfold Cu.j4 Cu.od;rw[hn];first|rw[if_pos rfl]|rw[if_neg Bool.false_ne_true]
  refine ab.mk [] ?_<;>(repeat' first|trivial|apply ah|apply aN)
 all_goals (simp(discharger:=omega) only[wR];omega)
def Ff:Sm:=fun args σ=>match args,σ with
 |[.ptr 0 0],[.cells [.ptr 1 0,.buf 2],.cells ([.str s_c,.int .i64 (.ofNat a_c),.int .i64 (.ofNat e_c),.int .i64 c_c]),.buf 1 0 o]=>some (True/\((Cu.mk s_c a_c e_c c_c).ok),.int .i32 (Cu.mk s_c a_c e_c c_c).od,some [.cells [.ptr 1 0,.buf 2],.cells (eC (Cu.mk s_c a_c e_c c_c).j4),.buf 1 0 o])
 |_,_=>none
theorem U6:ax 199 Ff:=by
 intro args sg pre x r he hp;unfold Ff at he;split at he<;>cases he
 . rw[dJ (hp).1];exact QE (hp:=hp.2) ..
theorem Wq(a b:Nat) (ha:a<65536) (hb:b<16):lH .i32 (m6 .i32 a 4) b=((16*a+b:Nat):Int):=by
 have e:m6 .i32 (a:Int) 4=((a*2^4:Nat):Int):=by
  show IntKind.i32.wrap ((a:Int)*2^(min 4 32)) =_;rw[sR,show((2:Int)^(min 4 32)) =16 from rfl];omega
 rw[e];show IntKind.i32.wrap ((BitVec.ofInt 32 ((a*2^4:Nat):Int)|||BitVec.ofInt 32 (b:Int)).toNat:Int) =_;rw[BitVec.ofInt_natCast,BitVec.ofInt_natCast,BitVec.toNat_or,BitVec.toNat_ofNat,BitVec.toNat_ofNat,Nat.mod_eq_of_lt (by omega),Nat.mod_eq_of_lt (by omega),DW a b 4 hb];rw[sR];omega
theorem QD(c:Cu) (o:List V) (hp:c.ok):OK 179 ([.ptr 0 0]) ([.cells [.ptr 1 0,.buf 2],.cells (eC c),.buf 1 0 o]) (.int .i32 c.four.2) (some [.cells [.ptr 1 0,.buf 2],.cells (eC c.four.1),.buf 1 0 o]):=by
 refine aq (C:=cx [(199,Ff),(41,mV)]) (ar ⟨U6,oh,trivial⟩) (fn:=Tryz.f179) fun hw hs=>?_;refine aZ.mk (Nat×Cu×Nat) (fun|(k,d,u) =>k<=4/\d.ok/\u<16^k/\fW (4-k) d (u:Int) =fW 4 c 0)
  (fun|(k,d,u) =>⟨19,[(0,.ptr 0 0),(3,.int .i32 u),(4,.int .i64 k)],[.cells [.ptr 1 0,.buf 2],.cells (eC d),.buf 1 0 o],[2]⟩) (fun x=>4-x.1) [] (0,c,0) ⟨by omega,hp,by decide,rfl⟩ ?_ (fun⟨k,d,u⟩ ⟨hk,hd,hu,he⟩ _ _=>?_)
 . apply ay<;>(repeat' first|trivial)
 have hv:=mO (fj d.aw);have h16:k<4->u<4096:=fun h=>by
  have:(16:Nat)^k<=16^3:=Nat.pow_le_pow_right (by decide) (by omega);omega
 repeat'((conv=>whnf);first|apply af|apply aK|(apply av<;>intro h))
 all_goals try conv=>whnf
 all_goals try(refine ae.mk ?_;try dsimp only)
 all_goals (try simp only[aV] at*)
 all_goals first|refine stay ?_|trivial|skip
 . rw[show 4-k=(4-k-1)+1 by omega,fW,if_neg (by omega)] at he;have hu':=h16 (by omega);refine⟨[],(k+1,d.j4,16*u+d.od),⟨by omega,D1 hd,?_,?_⟩,?_,by omega⟩
   . unfold Cu.od;show 16*u+di (fj d.aw)<16^k*16;omega
   . rw[show 4-(k+1) =4-k-1 by omega];exact he
   . apply ay<;>(repeat' first|trivial|apply ah|apply aN)
     . exact Wq _ _ (by omega) hv
     . (simp(discharger:=omega) only[wR];omega)
 . rw[show 4-k=(4-k-1)+1 by omega,fW,if_pos (by omega)] at he;unfold Cu.four;rw[<-he];refine ab.mk [] ?_<;>(repeat' first|trivial)
 . rw[show 4-k=0 by omega,fW] at he;unfold Cu.four;rw[<-he];refine ab.mk [] ?_<;>(repeat' first|trivial)
def Fe:Sm:=fun args σ=>match args,σ with
 |[.ptr 0 0],[.cells [.ptr 1 0,.buf 2],.cells ([.str s_c,.int .i64 (.ofNat a_c),.int .i64 (.ofNat e_c),.int .i64 c_c]),.buf 1 0 o]=>some (True/\((Cu.mk s_c a_c e_c c_c).ok),.int .i32 (Cu.mk s_c a_c e_c c_c).four.2,some [.cells [.ptr 1 0,.buf 2],.cells (eC (Cu.mk s_c a_c e_c c_c).four.1),.buf 1 0 o])
 |_,_=>none
theorem U5:ax 179 Fe:=by
 intro args sg pre x r he hp;unfold Fe at he;split at he<;>cases he
 . rw[dJ (hp).1];exact QD (hp:=hp.2) ..
theorem QF(c:Cu) (o:List V) (b:UInt8) (hp:c.ok):OK 180 ([.ptr 0 0,bv b]) ([.cells [.ptr 1 0,.buf 2],.cells (eC c),.buf 1 0 o]) (.tuple []) (some [.cells [.ptr 1 0,.buf 2],.cells (eC (c.dF b)),.buf 1 0 o]):=by
 refine aq (C:=cx [(85,mU),(91,nE)]) (ar ⟨og,p9,trivial⟩) (fn:=Tryz.f180) fun hw hs=>?_;repeat'((conv=>whnf);first|apply af|apply aK|(apply av<;>intro h))
 all_goals try conv=>whnf
 all_goals try(refine ae.mk ?_;try dsimp only)
 all_goals (try simp only[aV] at*)
 all_goals first|refine stay ?_|trivial|skip
 all_goals
  unfold Cu.dF;first|rw[if_pos (by omega)]|rw[if_neg (by omega)]
  refine ab.mk [] ?_<;>(repeat' first|trivial)
def Fg:Sm:=fun args σ=>match args,σ with
 |[.ptr 0 0,.int .u8 n_b],[.cells [.ptr 1 0,.buf 2],.cells ([.str s_c,.int .i64 (.ofNat a_c),.int .i64 (.ofNat e_c),.int .i64 c_c]),.buf 1 0 o]=>some ((0<=n_b/\n_b<=255)/\(True/\((Cu.mk s_c a_c e_c c_c).ok)),.tuple [],some [.cells [.ptr 1 0,.buf 2],.cells (eC ((Cu.mk s_c a_c e_c c_c).dF (byte n_b))),.buf 1 0 o])
 |_,_=>none
theorem U7:ax 180 Fg:=by
 intro args sg pre x r he hp;unfold Fg at he;split at he<;>cases he
 . rw[l7 (hp).1];rw[dJ (hp.2).1];exact QF (hp:=hp.2.2) ..
theorem QH(b:UInt8) (hp:True):OK 150 ([bv b]) ([]) (.tuple [.int .i32 (oA b),.bool (lL b)]) (none):=by
 refine aq (C:=cx []) (ar trivial) (fn:=Tryz.f150) fun hw hs=>?_;have hb:b.toNat<256:=b.toNat_lt;repeat'((conv=>whnf);(apply av<;>intro h))
 all_goals try conv=>whnf
 all_goals try(refine ae.mk ?_;try dsimp only)
 all_goals try refine stay ?_
 all_goals
  unfold lL oA;first|rw[decide_eq_true (by omega)]|rw[decide_eq_false (by omega)]
  repeat (first|rw[if_pos (by omega)]|rw[if_neg (by omega)])
  refine ab.mk [] ?_<;>(repeat' first|trivial|apply ah|apply aN|apply nX|apply cT)
 all_goals (simp(discharger:=omega) only[wR];omega)
def Fi:Sm:=fun args σ=>match args,σ with
 |[.int .u8 n_b],[]=>some ((0<=n_b/\n_b<=255)/\(True),.tuple [.int .i32 (oA (byte n_b)),.bool (lL (byte n_b))],none)
 |_,_=>none
theorem U9:ax 150 Fi:=by
 intro args sg pre x r he hp;unfold Fi at he;split at he<;>cases he
 . rw[l7 (hp).1];exact QH (hp:=hp.2) ..
theorem QK(b:UInt8) (hp:True):OK 151 ([bv b]) ([]) (.int .i64 (dQ b)) (none):=by
 refine aq (C:=cx []) (ar trivial) (fn:=Tryz.f151) fun hw hs=>?_;repeat'((conv=>whnf);(apply av<;>intro h))
 all_goals try conv=>whnf
 all_goals try(refine ae.mk ?_;try dsimp only)
 all_goals try refine stay ?_
 all_goals
  unfold dQ
  repeat (first|rw[if_pos (by omega)]|rw[if_neg (by omega)])
  refine ab.mk [] ?_<;>(repeat' first|trivial)
def Fm:Sm:=fun args σ=>match args,σ with
 |[.int .u8 n_b],[]=>some ((0<=n_b/\n_b<=255)/\(True),.int .i64 (dQ (byte n_b)),none)
 |_,_=>none
theorem Uc:ax 151 Fm:=by
 intro args sg pre x r he hp;unfold Fm at he;split at he<;>cases he
 . rw[l7 (hp).1];exact QK (hp:=hp.2) ..
theorem shl10(a:Int):m6 .i32 a 10=IntKind.i32.wrap (a*1024):=rfl
theorem QG(c:Cu) (o:List V) (hp:c.ok):OK 148 ([.ptr 0 0]) ([.cells [.ptr 1 0,.buf 2],.cells (eC c),.buf 1 0 o]) (.int .i32 c.number.2) (some [.cells [.ptr 1 0,.buf 2],.cells (eC c.number.1),.buf 1 0 o]):=by
 refine aq (C:=cx [(179,Fe),(180,Fg),(91,nE)]) (ar ⟨U5,U7,p9,trivial⟩) (fn:=Tryz.f148) fun hw hs=>?_;have h1:=yV c;have h2:=yV ((c.four.1.dF 92).dF 117);have k1:=yW hp;have k2:=uv k1 92;have k3:=uv k2 117;repeat'((conv=>whnf);first|apply af|(apply av<;>intro h))
 all_goals try conv=>whnf
 all_goals try(refine ae.mk ?_;try dsimp only)
 all_goals (try simp only[aV] at*)
 all_goals first|refine stay ?_|trivial|skip
 all_goals (try simp only[show byte 92=(92:UInt8) from rfl,show byte 117=(117:UInt8) from rfl,shl10] at*)
 all_goals
  unfold Cu.number
  repeat (first|rw[if_pos (by omega)]|rw[if_neg (by omega)])
  refine ab.mk [] ?_<;>(repeat' first|trivial|apply ah|apply aN)
 simp only[sR];omega
def Fh:Sm:=fun args σ=>match args,σ with
 |[.ptr 0 0],[.cells [.ptr 1 0,.buf 2],.cells ([.str s_c,.int .i64 (.ofNat a_c),.int .i64 (.ofNat e_c),.int .i64 c_c]),.buf 1 0 o]=>some (True/\((Cu.mk s_c a_c e_c c_c).ok),.int .i32 (Cu.mk s_c a_c e_c c_c).number.2,some [.cells [.ptr 1 0,.buf 2],.cells (eC (Cu.mk s_c a_c e_c c_c).number.1),.buf 1 0 o])
 |_,_=>none
theorem U8:ax 148 Fh:=by
 intro args sg pre x r he hp;unfold Fh at he;split at he<;>cases he
 . rw[dJ (hp).1];exact QG (hp:=hp.2) ..
theorem C6:bl []=[]:=rfl
theorem QC(c:Cu) (o:List V) (hp:c.ok/\o.length<=2000000000):OK 127 ([.ptr 0 0]) ([.cells [.ptr 1 0,.buf 2],.cells (eC c),.buf 1 0 o]) (.tuple []) (some [.cells [.ptr 1 0,.buf 2],.cells (eC c.fV),.buf 1 0 (o++bl c.jX)]):=by
 refine aq (C:=cx [(85,mU),(148,Fh),(41,mV),(149,FU),(150,Fi),(91,nE)]) (ar ⟨og,U8,oh,UG,U9,p9,trivial⟩) (fn:=Tryz.f127) fun hw hs=>?_;obtain⟨hp,ho⟩:=hp;have h1:=gY hp;have h2:=Lv h1;have hb:c.aw.toNat<256:=c.aw.toNat_lt;have hbb:byte c.aw.toNat=c.aw:=eX _;repeat'((conv=>whnf);first|apply af|apply aK|(apply av<;>intro h))
 all_goals try conv=>whnf
 all_goals try(refine ae.mk ?_;try dsimp only)
 all_goals (try simp only[aV] at*)
 all_goals first|refine stay ?_|trivial|(simp only[fi];omega)|(simp(discharger:=omega) [-List.getD_eq_getElem?_getD,wR]<;>omega)|skip
 all_goals (try simp only[hbb] at*)
 all_goals first
  |exact⟨W7 (by assumption),by omega⟩
  |skip
 all_goals
  first
  |(have hpl:lL c.aw=true:=decide_eq_true (by assumption))
  |(have hpl:lL c.aw=false:=decide_eq_false (by assumption))
  |(have hpl:lL c.aw=lL c.aw:=rfl)
  unfold Cu.fV Cu.jX;try rw[hpl]
  repeat (first|rw[if_pos (by first|rfl|omega)]|rw[if_neg (by first|exact Bool.false_ne_true|omega)])
  refine ab.mk [] ?_<;>(repeat' first|trivial|apply ah|apply bc)
 all_goals (try rw[C6,List.append_nil])
def Fc:Sm:=fun args σ=>match args,σ with
 |[.ptr 0 0],[.cells [.ptr 1 0,.buf 2],.cells ([.str s_c,.int .i64 (.ofNat a_c),.int .i64 (.ofNat e_c),.int .i64 c_c]),.buf 1 0 o]=>some (True/\((Cu.mk s_c a_c e_c c_c).ok/\o.length<=2000000000),.tuple [],some [.cells [.ptr 1 0,.buf 2],.cells (eC (Cu.mk s_c a_c e_c c_c).fV),.buf 1 0 (o++bl (Cu.mk s_c a_c e_c c_c).jX)])
 |_,_=>none
theorem U4:ax 127 Fc:=by
 intro args sg pre x r he hp;unfold Fc at he;split at he<;>cases he
 . rw[dJ (hp).1];exact QC (hp:=hp.2) ..
theorem M7{n:Nat} {d:Cu} {s:gA} (h:n=0\/¬(d.c=0/\d.p<d.e)\/¬d.aw.toNat/64*64=128):eI n d s=(d,s):=by
 cases n with
 |zero=>rw[eI]
 |succ n=>
   rw[eI,if_neg];rw[kx];omega
theorem M4{n:Nat} {d:Cu} {s:gA} (h0:0<n) (h:d.c=0/\d.p<d.e) (h2:d.aw.toNat/64*64=128):eI n d s=eI (n-1) d.byte (s++[d.aw]):=by
 cases n with
 |zero=>omega
 |succ n=>
   rw[eI,if_pos ⟨h.1,h.2,by rw[kx];have:=d.aw.toNat_lt;omega⟩];rfl
def rawI(b:UInt8) (o:List V) (c:Cu):Unit⊕(Nat×Cu×gA)->AS
 |.inl _=>⟨55,[(0,.ptr 0 0),(1,bv b),(4,.list true 1 [bv b]),(10,.int .i64 (dQ b)),(11,.int .i64 0)],[.cells [.ptr 1 0,.buf 2],.cells (eC c),.buf 1 0 o],[]⟩
 |.inr (k,d,s) =>⟨55,[(0,.ptr 0 0),(1,bv b),(4,.buf 3),(10,.int .i64 (dQ b)),(11,.int .i64 k)],[.cells [.ptr 1 0,.buf 2],.cells (eC d),.buf 1 0 o,.buf 1 0 (bl s)],[3]⟩
def Xn(b:UInt8) (c:Cu):Unit⊕(Nat×Cu×gA)->Prop
 |.inl _=>True
 |.inr (k,d,s) =>1<=k/\k<=dQ b/\d.ok/\s.length<=k+1/\eI (dQ b-k) d s=eI (dQ b) c [b]
def rawM(b:UInt8):Unit⊕(Nat×Cu×gA)->Nat
 |.inl _=>dQ b
 |.inr (k,_,_) =>dQ b-k
theorem QI(c:Cu) (o:List V) (b:UInt8) (hp:c.ok/\o.length<=2000000000):OK 128 ([.ptr 0 0,bv b]) ([.cells [.ptr 1 0,.buf 2],.cells (eC c),.buf 1 0 o]) (.tuple []) (some [.cells [.ptr 1 0,.buf 2],.cells (eC (c.iK b)),.buf 1 0 (o++bl (c.kR b))]):=by
 refine aq (C:=cx [(151,Fm),(83,qT),(85,mU),(152,FQ),(91,nE)]) (ar ⟨Uc,uf,og,UD,p9,trivial⟩) (fn:=Tryz.f128) fun hw hs=>?_;obtain⟨hp,ho⟩:=hp;have hb:b.toNat<256:=b.toNat_lt;have hbb:byte b.toNat=b:=eX _;have ht:=MZ b;repeat'((conv=>whnf);apply af)
 all_goals try conv=>whnf
 all_goals try(refine ae.mk ?_;try dsimp only)
 all_goals first|refine stay ?_|(simp(discharger:=omega) [-List.getD_eq_getElem?_getD,wR]<;>omega)|skip
 rw[hbb];refine aZ.mk _ (Xn b c) (rawI b o c) (rawM b) [] (.inl ()) trivial ?_ (fun x hx _ _=>?_)
 . apply ay<;>(repeat' first|trivial)
 match x,hx with
 |.inl _,_=>
   have hc:=c.aw.toNat_lt;have h192:=C3 _ hc;repeat'((conv=>whnf);first|apply af|apply aK|(apply av<;>intro h)|apply goJ)
   all_goals try conv=>whnf
   all_goals try(refine ae.mk ?_;try dsimp only)
   all_goals (try simp only[h192] at*)
   all_goals (try simp only[aV] at*)
   all_goals first|refine stay ?_|trivial|omega|(simp only[fi];omega)|(simp(discharger:=omega) [-List.getD_eq_getElem?_getD,wR]<;>omega)|skip
   . refine⟨[],.inr (1,c.byte,[b,c.aw]),⟨by omega,by omega,gY hp,by simp,?_⟩,?_,by show dQ b-1<dQ b;omega⟩
     . exact(M4 (n:=dQ b) (d:=c) (s:=[b]) (by omega) (by assumption) (by omega)).symm
     . apply ay<;>(repeat' first|trivial)
   all_goals
    have he:eI (dQ b) c [b]=(c,[b]):=M7 (by omega);unfold Cu.iK Cu.kR;rw[he];first|rw[if_pos (by simp only[hbb] at*;omega),if_pos (by simp only[hbb] at*;omega)]|rw[if_neg (by simp only[hbb] at*;omega),if_neg (by simp only[hbb] at*;omega)]
    refine ab.mk [] ?_<;>(repeat' first|trivial|apply ah|apply bc)
   all_goals (try rw[C6,List.append_nil])
 |.inr (k,d,s),⟨hk,hk2,hd,hs2,he⟩=>
   have hc:=d.aw.toNat_lt;have h192:=C3 _ hc;repeat'((conv=>whnf);first|apply af|apply aK|(apply av<;>intro h)|apply oc)
   all_goals try conv=>whnf
   all_goals try(refine ae.mk ?_;try dsimp only)
   all_goals (try simp only[h192] at*)
   all_goals (try simp only[aV] at*)
   all_goals first|refine stay ?_|trivial|omega|(simp only[fi];omega)|skip
   . refine⟨[],.inr (k+1,d.byte,s++[d.aw]),⟨by omega,by omega,gY hd,by simp;omega,?_⟩,?_,by show dQ b-(k+1)<dQ b-k;omega⟩
     . have e:=M4 (n:=dQ b-k) (d:=d) (s:=s) (by omega) (by assumption) (by omega);rw[<-he,e,show dQ b-k-1=dQ b-(k+1) by omega]
     . apply ay<;>(repeat' first|trivial|apply ah|apply aN|apply bc)
       . (simp(discharger:=omega) only[wR];omega)
       . rw[eE];rfl
   all_goals
    rw[M7 (by omega)] at he;unfold Cu.iK Cu.kR;rw[<-he];first|rw[if_pos (by omega),if_pos (by omega)]|rw[if_neg (by omega),if_neg (by omega)]
    refine ab.mk [] ?_<;>(repeat' first|trivial|apply ah|apply bc)
   all_goals (try rw[C6,List.append_nil])
def Fj:Sm:=fun args σ=>match args,σ with
 |[.ptr 0 0,.int .u8 n_b],[.cells [.ptr 1 0,.buf 2],.cells ([.str s_c,.int .i64 (.ofNat a_c),.int .i64 (.ofNat e_c),.int .i64 c_c]),.buf 1 0 o]=>some ((0<=n_b/\n_b<=255)/\(True/\((Cu.mk s_c a_c e_c c_c).ok/\o.length<=2000000000)),.tuple [],some [.cells [.ptr 1 0,.buf 2],.cells (eC ((Cu.mk s_c a_c e_c c_c).iK (byte n_b))),.buf 1 0 (o++bl ((Cu.mk s_c a_c e_c c_c).kR (byte n_b)))])
 |_,_=>none
theorem Ua:ax 128 Fj:=by
 intro args sg pre x r he hp;unfold Fj at he;split at he<;>cases he
 . rw[l7 (hp).1];rw[dJ (hp.2).1];exact QI (hp:=hp.2.2) ..
def cI(t:gA):Nat->Nat->Int->Int×Int
 |0,_,n=>(n,0)
 |r+1,i,n=>if t.length<=i then(0,1) else if eQ (fj (t.getD i 0)) =true then cI t r (i+1) (16*n+di (fj (t.getD i 0))) else(0,6)
termination_by r => r
def pA(b:UInt8):gA:=if lL b=true then[byte (oA b)] else[]
theorem HM(t:gA):∀(r i:Nat) (n:Int) (m:Nat),0<=n->n<m->0<m->0<=(cI t r i n).1/\(cI t r i n).1<((m*16^r:Nat):Int)
 |0,_,n,m,h0,h,_=>by rw[cI];simpa using⟨h0,h⟩
 |r+1,i,n,m,h0,h,hm=>by
   have hp:0<m*16^(r+1):=Nat.mul_pos hm (Nat.pow_pos (by decide));have hv:=mO (fj (t.getD i 0));rw[cI];repeat' split
   . simp only;omega
   . have:=HM t r (i+1) (16*n+di (fj (t.getD i 0))) (16*m) (by omega) (by omega) (by omega);rw[Nat.pow_succ,<-Nat.mul_assoc,Nat.mul_right_comm,Nat.mul_comm m 16];exact this
   . simp only;omega
def jz(t:gA) (i:Nat) (n:Int):gA×Int×Int:=
 if t.length<=i then([],0,1) else if(t.getD i 0).toNat≠92 then([],0,6)
 else if t.length<=i+1 then([],0,1) else if(t.getD (i+1) 0).toNat≠117 then([],0,6)
 else if(cI t 4 (i+2) 0).2≠0 then([],0,(cI t 4 (i+2) 0).2)
 else if(cI t 4 (i+2) 0).1<56320\/57343<(cI t 4 (i+2) 0).1 then([],0,6)
 else(cN (65536+1024*(n-55296)+(cI t 4 (i+2) 0).1-56320),(i:Int)+6,0)
def i7(t:gA) (i:Nat):gA×Int×Int:=
 if t.length<=i then([],0,1)
 else if(t.getD i 0).toNat≠117 then(if lL (t.getD i 0) =true then(pA (t.getD i 0),(i:Int)+1,0) else([],0,6))
 else if(cI t 4 (i+1) 0).2≠0 then([],0,(cI t 4 (i+1) 0).2)
 else if 55296<=(cI t 4 (i+1) 0).1/\(cI t 4 (i+1) 0).1<=56319 then jz t (i+5) (cI t 4 (i+1) 0).1
 else if 56320<=(cI t 4 (i+1) 0).1/\(cI t 4 (i+1) 0).1<=57343 then([],0,6)
 else(cN (cI t 4 (i+1) 0).1,(i:Int)+5,0)
def da(t:gA) (i:Nat):gA×Int×Int:=
 if(t.getD i 0).toNat=92 then i7 t (i+1)
 else if(t.getD i 0).toNat<32 then([],0,3)
 else if(bW t i).2=0 then([],0,5)
 else((t.take (i+(bW t i).2)).drop i,((i+(bW t i).2:Nat):Int),0)
def dI(t:gA):Nat->Nat->gA->Int×Nat×gA
 |0,_,_=>(1,0,[])
 |n+1,i,o=>
   if t.length<=i then(1,0,[])
   else if(t.getD i 0).toNat=34 then(0,i+1,o)
   else if(da t i).2.2≠0 then((da t i).2.2,0,[])
   else dI t n (da t i).2.1.toNat (o++(da t i).1)
termination_by n => n
theorem Yy(b:UInt8):(pA b).length<=1:=by unfold pA;split<;>simp
theorem WU(t:gA) (i:Nat) (n:Int):(jz t i n).2.2=0->(i:Int)<(jz t i n).2.1/\(jz t i n).2.1<=i+6/\(jz t i n).1.length<=4:=by
 have hb:=fun n=>(xU n).2;unfold jz;repeat' split
 all_goals intro h
 all_goals first
  |(exfalso;simp at h;done)
  |(exfalso;exact absurd h (by assumption))
  |exact⟨by show(i:Int)<(i:Int)+6;omega,by show(i:Int)+6<=i+6;omega,hb _⟩
theorem I7(t:gA) (i:Nat):(i7 t i).2.2=0->(i:Int)<(i7 t i).2.1/\(i7 t i).2.1<=i+11/\(i7 t i).1.length<=4:=by
 have hb:=fun n=>(xU n).2;have hs:=Yy (t.getD i 0);unfold i7;repeat' split
 all_goals intro h
 all_goals first
  |(exfalso;simp at h;done)
  |(exfalso;exact absurd h (by assumption))
  |(have:=WU t (i+5) _ h;omega)
  |exact⟨by show(i:Int)<(i:Int)+5;omega,by show(i:Int)+5<=i+11;omega,hb _⟩
  |exact⟨by show(i:Int)<(i:Int)+1;omega,by show(i:Int)+1<=i+11;omega,by show(pA (t.getD i 0)).length<=4;omega⟩
theorem X0(t:gA) (i:Nat):(da t i).2.2=0->(i:Int)<(da t i).2.1/\(da t i).2.1<=i+12/\(da t i).1.length<=12:=by
 have hr:=BF t i;unfold da;repeat' split
 all_goals intro h
 . have:=I7 t (i+1) h;omega
 . exfalso;simp at h
 . exfalso;simp at h
 . refine⟨by show(i:Int)<((i+(bW t i).2:Nat):Int);omega,by show((i+(bW t i).2:Nat):Int)<=i+12;omega,?_⟩;show((t.take (i+(bW t i).2)).drop i).length<=12;rw[d9,d8];omega
def Cu.jB(c:Cu):Cu×gA:=
 if c.c≠0 then(c,[])
 else if c.p=c.e then(c.fail 1,[])
 else if c.get.toNat≠34 then(c.fail 3,[])
 else if(dI (c.s.take c.e) (c.e-c.p) (c.p+1) []).1=0 then({c with p:=(dI (c.s.take c.e) (c.e-c.p) (c.p+1) []).2.1},(dI (c.s.take c.e) (c.e-c.p) (c.p+1) []).2.2)
 else(c.fail (dI (c.s.take c.e) (c.e-c.p) (c.p+1) []).1,[])
def hxP(a b:UInt8):UInt8:=.ofNat (16*di a+di b)
def cZ:gA->gA
 |a::b::r=>hxP a b::cZ r
 |_=>[]
def dD:gA->Bool
 |[]=>true
 |[_]=>false
 |a::b::r=>eQ a&&(eQ b&&dD r)
def ij(s:gA):Int×gA:=if dD s=true then(0,cZ s) else(3,[])
theorem D2(a b:UInt8):(hxP a b).toNat=16*di a+di b:=by
 have h1:=mO a;have h2:=mO b;unfold hxP;rw[UInt8.toNat_ofNat'];omega
theorem Jj{b:UInt8}:iG (di b) =b↔eQ b=true:=by
 constructor
 . intro h;have h1:=(DI (di b) (mO b)).2.1;unfold iG at h;rw[h] at h1;exact h1
 . exact Lm
theorem Tj:∀s:gA,bP (cZ s) =s↔dD s=true
 |[]=>by simp[cZ,bP,dD]
 |[a]=>by simp[cZ,bP,dD]
 |a::b::r=>by
   have h1:=mO a;have h2:=mO b;have ih:=Tj r;rw[cZ,bP,dD,D2,show(16*di a+di b)/16=di a by omega,show(16*di a+di b)%16=di b by omega];simp only[List.cons.injEq,zza];rw[Jj,Jj,ih]
theorem Jm:∀s:gA,2*(cZ s).length<=s.length
 |[]=>cb _
 |[_]=>bu _
 |a::b::r=>by
   have:=Jm r;rw[cZ,List.length_cons,List.length_cons,List.length_cons];omega
theorem qt:∀{s:gA},dD s=true->s.length=2*(cZ s).length
 |[],_=>rfl
 |[_],h=>by simp[dD] at h
 |a::b::r,h=>by
   rw[dD,zza,zza] at h;have:=qt h.2.2;rw[cZ,List.length_cons,List.length_cons,List.length_cons];omega
theorem Ti{s:gA} (h:s.length%2≠0):dD s=false:=by
 cases q:dD s with
 |false=>rfl
 |true=>exact absurd (qt q) (by omega)
theorem Jn:∀(k:Nat) (s:gA),2*k+1<s.length->cZ (s.take (2*(k+1))) =cZ (s.take (2*k))++[hxP (s.getD (2*k) 0) (s.getD (2*k+1) 0)]
 |k,[],h=>by simp at h
 |k,[_],h=>by simp at h
 |0,a::b::r,_=>by simp[cZ]
 |k+1,a::b::r,h=>by
   have ih:=Jn k r (by simp only[List.length_cons] at h;omega);rw[show 2*(k+1+1) =2*(k+1)+1+1 by omega,show 2*(k+1) =2*k+1+1 by omega];simp only[List.take_succ_cons,cZ,List.getD_cons_succ,List.cons_append];rw[show 2*k+1+1=2*(k+1) by omega,ih]
theorem Jk:∀(k:Nat) (s:gA),2*k+1<s.length->dD (s.drop (2*k)) =(eQ (s.getD (2*k) 0)&&(eQ (s.getD (2*k+1) 0)&&dD (s.drop (2*(k+1)))))
 |k,[],h=>by simp at h
 |k,[_],h=>by simp at h
 |0,a::b::r,_=>by simp[dD]
 |k+1,a::b::r,h=>by
   have ih:=Jk k r (by simp only[List.length_cons] at h;omega);rw[show 2*(k+1+1) =2*(k+1)+1+1 by omega,show 2*(k+1) =2*k+1+1 by omega];simp only[List.drop_succ_cons,List.getD_cons_succ];rw[show 2*k+1+1=2*(k+1) by omega];exact ih
theorem VT:∀a:Nat,a<16->∀b:Nat,b<16->IntKind.u8.wrap (lH .i64 (m6 .i64 (a:Int) 4) (b:Int)) =((16*a+b:Nat):Int):=by decide
theorem Jl:∀(k:Nat) (s:gA),s.length<=2*k+1->cZ (s.take (2*k)) =cZ s
 |_,[],_=>by simp
 |0,[a],_=>by simp[cZ]
 |k+1,[a],_=>by rw[eo (by simp only[gc];omega)]
 |0,a::b::r,h=>by simp at h
 |k+1,a::b::r,h=>by
   have ih:=Jl k r (by simp only[List.length_cons] at h;omega);rw[show 2*(k+1) =2*k+1+1 by omega];simp only[List.take_succ_cons,cZ];rw[ih]
theorem hxB(x:UInt8):byte ((x.toNat:Nat):Int) =x:=(Hl ⟨by omega,by have:=x.toNat_lt;omega⟩).2 rfl
theorem hx_w{n:Nat} (h:n<=1000000):IntKind.i64.wrap (((2*n:Nat):Int)+1) =((2*n+1:Nat):Int)/\IntKind.i64.wrap (((2*n:Nat):Int)+2) =((2*(n+1):Nat):Int):=by
 rw[bX,bX];omega
theorem hx_o(a b:UInt8):IntKind.u8.wrap (lH .i64 (m6 .i64 (di a:Int) 4) (di b:Int)) =(((hxP a b).toNat:Nat):Int):=by
 rw[D2];exact VT _ (mO a) _ (mO b)
theorem Q5(s:gA) (hs:s.length<=1000000):OK 93 [.str s] [] (.tuple [.str (ij s).2,.int .i64 (ij s).1]) none:=by
 refine aq (C:=cx [(132,Bc)]) (ar ⟨Kc,trivial⟩) (fn:=Tryz.f93) fun hw _=>?_;have ht:(s.length:Int).tdiv 2=(s.length/2:Nat):=by rw[Int.tdiv_eq_ediv_of_nonneg (by omega)];rfl
 have hm:(s.length:Int).tmod 2=(s.length%2:Nat):=by rw[Int.tmod_eq_emod_of_nonneg (by omega)];rfl
 repeat'((conv=>whnf);first|apply af|apply aK|(apply av<;>intro h))
 all_goals try conv=>whnf
 all_goals try(refine ae.mk ?_;try dsimp only)
 all_goals (try simp only[ht,hm] at*)
 . decide
 . decide
 . rw[bX];omega
 . refine aZ.mk Nat (fun k=>2*k<=s.length/\dD s=dD (s.drop (2*k))) (fun k=>⟨55,[(0,.str s),(4,.buf 0),(5,.int .i64 (2*k:Nat))],[.buf 1 0 (bl (cZ (s.take (2*k))))],[0]⟩) (fun k=>s.length-2*k) [] 0 ⟨bu _,rfl⟩ ?_ (fun k ⟨hk,ho⟩ _ _=>?_)
   . apply ay<;>(repeat' first|trivial)
   have hww:=hx_w (n:=k) (by omega);have hZl:=Jm (s.take (2*k));have hZk:(s.take (2*k)).length<=s.length:=by rw[d8];exact Nat.min_le_right _ _
   have hst:=fun h=>Jk k s h;repeat'((conv=>whnf);first|apply af|apply aK|(apply av<;>intro h)|with_reducible (first|refine fG ?_ fun hc=>?_|refine lG ?_ fun hc=>?_)|apply oc)
   all_goals try conv=>whnf
   all_goals try(refine ae.mk ?_;try dsimp only)
   all_goals (try simp only[hww.1,hww.2,hxB,hx_o,Int.toNat_natCast,je] at*)
   all_goals first
    |omega
    |exact⟨by omega,trivial⟩
    |(rw[gc];omega)
    |skip
   . have a1:eQ (s.getD (2*k) 0) =true:=decide_eq_true (by assumption);have b1:eQ (s.getD (2*k+1) 0) =true:=decide_eq_true (by assumption);refine⟨[],k+1,⟨by omega,by rw[ho,hst (by omega),a1,b1];rfl⟩,?_,by omega⟩;apply ay<;>(repeat' first|trivial|apply ah|apply bc)
     all_goals first
      |rfl
      |(rw[Jn k s (by omega),eE];rfl)
   . have a1:eQ (s.getD (2*k) 0) =true:=decide_eq_true (by assumption);have b1:eQ (s.getD (2*k+1) 0) =false:=decide_eq_false (by assumption);rw[show ij s=(3,[]) from if_neg (by rw[ho,hst (by omega),a1,b1];exact Bool.false_ne_true)];refine ab.mk [] ?_<;>(repeat' first|trivial)
   . have a1:eQ (s.getD (2*k) 0) =false:=decide_eq_false (by assumption);rw[show ij s=(3,[]) from if_neg (by rw[ho,hst (by omega),a1];exact Bool.false_ne_true)];refine ab.mk [] ?_<;>(repeat' first|trivial)
   . have e:=Jl k s (by omega);rw[e];rw[show ij s=(0,cZ s) from if_pos (by rw[ho,List.drop_eq_nil_of_le (by omega)];rfl)];refine ab.mk [] ?_<;>(repeat' first|trivial)
 . rename_i h;rw[show ij s=(3,[]) from if_neg (by rw[Ti (by omega)];decide)];refine ab.mk [] ?_<;>(repeat' first|trivial)
def smHx:Sm:=fun args σ=>match args,σ with
 |[.str s],[]=>some (s.length<=1000000,.tuple [.str (ij s).2,.int .i64 (ij s).1],none)
 |_,_=>none
-- #name hxRead hexa.Read
-- #name r04Read truchmanref04.Read
def sH:Sm:=smHx
theorem wM:ax 93 sH:=by
 intro args sg pre x r he hp;unfold sH smHx at he;split at he<;>cases he;exact Q5 _ hp
end Go.Proofs.YtchllohbglebiaaGreatDoor
