/-
  A part of the proof.
-/
import Derived.Test.YtknljebcgcmaeaaGreatDoorJSm
set_option linter.unusedSimpArgs false
set_option linter.unusedVariables false
set_option maxHeartbeats 4000000
set_option maxRecDepth 100000
namespace Go.Proofs.YtknljebcgcmaeaaGreatDoor
open Go Go.VG
theorem Ll:∀i,i<16->dv (hexDigits.getD i 0) =i/\ec (hexDigits.getD i 0) =true/\(hexDigits.getD i 0).toNat<128:=by decide
theorem Vv:∀n,n<256->ec (.ofNat n) =true->hexDigits.getD (dv (.ofNat n)) 0=.ofNat n:=by decide
theorem Lm{b:UInt8} (h:ec b=true):hexDigits.getD (dv b) 0=b:=by
 have:=Vv b.toNat b.toNat_lt;rw[UInt8.ofNat_toNat] at this;exact this h
theorem Vw{b:UInt8} (h:ec b=false):dv b=0:=by
 unfold ec at h;rw[decide_eq_false_iff_not] at h;unfold dv;rw[if_neg (by omega),if_neg (by omega)]
theorem Qk(b:UInt8) (hp:True):OK 160 ([bv b]) ([]) (.tuple [.int .i64 (dv b),.bool (ec b)]) (none):=by
 refine ai (C:=cx []) (ak trivial) (fn:=Tryz.f160) fun hw hs=>?_;have hb:b.toNat<256:=b.toNat_lt;all_goals try conv=>whnf
 all_goals try(refine ae.mk ?_;try dsimp only)
 all_goals (try simp only[aT] at*)
 all_goals try refine stay ?_
 refine aM.mk Nat (fun i=>i<=16/\∀j,j<i->hexDigits.getD j 0≠b) (fun i=>⟨16,[(0,.int .u8 b.toNat),(6,.ptr 0 0)],[.siter hexDigits i],[]⟩) (fun i=>16-i) [] 0 ⟨by omega,by simp⟩ ?_ (fun i ⟨hi,hj⟩ _ _=>?_)
 . apply ao<;>(repeat' first|trivial)
 have hl:hexDigits.length=16:=rfl;have hd:i<16->hexDigits[i]?=some (hexDigits.getD i 0):=fun h=>by
  rw[ac,am (by rw[hl];exact h)];rfl
 have hn:=Ll i;repeat'((conv=>whnf);(apply aj<;>intro h))
 all_goals try conv=>whnf
 all_goals try(refine ae.mk ?_;try dsimp only)
 all_goals (try simp only[aT] at*)
 all_goals try refine stay ?_
 . rw[hd (by omega)];have hn:=hn (by omega);generalize hx:hexDigits.getD i 0=x at*;have hwb:IntKind.i32.wrap (b.toNat:Int) =b.toNat:=by(simp(discharger:=omega) only[wR];omega)
   repeat'((conv=>whnf);first|apply af|(apply aj<;>intro h))
   all_goals try conv=>whnf
   all_goals try(refine ae.mk ?_;try dsimp only)
   all_goals (try rw[hwb] at*)
   all_goals (try simp only[aT] at*)
   all_goals first|refine stay ?_|omega|skip
   . have:x=b:=UInt8.toNat_inj.1 (by omega);subst this;refine ab.mk [] ?_<;>(repeat' first|trivial|apply ah|apply aC|apply jG|apply gC|apply bV)
     . rw[hn.1]
     . rw[hn.2.1]
   . refine⟨[],i+1,⟨by omega,fun j hjj=>?_⟩,?_,by omega⟩
     . by_cases e:j=i
       . subst e;rw[hx];intro e;subst e;omega
       . exact hj j (by omega)
     . apply ao<;>(repeat' first|trivial)
 . have hf:ec b=false:=by
     cases h:ec b with
     |false=>rfl
     |true=>
       exfalso;refine hj (dv b) ?_ (Lm h);have:=ki b;omega
   refine ab.mk [] ?_<;>(repeat' first|trivial|apply ah|apply aC|apply jG|apply gC|apply bV)
   . rw[Vw hf];rfl
   . rw[hf]
def A6:Sm:=fun args σ=>match args,σ with
 |[.int .u8 n_b],[]=>some ((0<=n_b/\n_b<=255)/\(True),.tuple [.int .i64 (dv (byte n_b)),.bool (ec (byte n_b))],none)
 |_,_=>none
theorem K7:aq 160 A6:=by
 intro args sg pre x r he hp;unfold A6 at he;split at he<;>cases he
 . rw[gd (hp).1];exact Qk (hp:=hp.2) ..
theorem PU(c:Cu) (o:List V) (hp:c.ok):OK 253 ([.ptr 0 0]) ([.cells [.ptr 1 0,.buf 2],.cells (eC c),.buf 1 0 o]) (.int .i32 c.nu) (some [.cells [.ptr 1 0,.buf 2],.cells (eC c.iH),.buf 1 0 o]):=by
 refine ai (C:=cx [(133,mh),(160,A6),(139,mY)]) (ak ⟨ny,K7,oy,trivial⟩) (fn:=Tryz.f253) fun hw hs=>?_;have hb:c.ay.toNat<256:=c.ay.toNat_lt;have e1:65<=c.ay.toNat/\c.ay.toNat<=70->byte (IntKind.u8.wrap (c.ay.toNat+32)) =ff c.ay:=fun h=>by
  unfold ff;rw[if_pos h,n6,show((c.ay.toNat:Int)+32)%256=c.ay.toNat+32 by omega]
 have e2:¬(65<=c.ay.toNat/\c.ay.toNat<=70)->byte c.ay.toNat=ff c.ay:=fun h=>by
  unfold ff;rw[if_neg h,dd]
 have hv:=ki (ff c.ay);repeat'((conv=>whnf);first|apply af|apply aI|(apply aj<;>intro h))
 all_goals try conv=>whnf
 all_goals try(refine ae.mk ?_;try dsimp only)
 all_goals (try simp only[aT] at*)
 all_goals first|refine stay ?_|trivial|(simp(discharger:=omega) [-List.getD_eq_getElem?_getD,wR]<;>omega)|skip
 all_goals first
  |exact⟨by omega,trivial⟩
  |(first|rw[e1 (by omega)] at*|rw[e2 (by omega)] at*)
 all_goals
  first
  |have hn:ec (ff c.ay) =true:=decide_eq_true (by assumption)
  |have hn:ec (ff c.ay) =false:=decide_eq_false (by assumption)
  unfold Cu.iH Cu.nu;rw[hn];first|rw[if_pos rfl]|rw[if_neg Bool.false_ne_true]
  refine ab.mk [] ?_<;>(repeat' first|trivial|apply ah|apply aC)
 all_goals (simp(discharger:=omega) only[wR];omega)
def EB:Sm:=fun args σ=>match args,σ with
 |[.ptr 0 0],[.cells [.ptr 1 0,.buf 2],.cells ([.str s_c,.int .i64 (.ofNat a_c),.int .i64 (.ofNat e_c),.int .i64 c_c]),.buf 1 0 o]=>some (True/\((Cu.mk s_c a_c e_c c_c).ok),.int .i32 (Cu.mk s_c a_c e_c c_c).nu,some [.cells [.ptr 1 0,.buf 2],.cells (eC (Cu.mk s_c a_c e_c c_c).iH),.buf 1 0 o])
 |_,_=>none
theorem T9:aq 253 EB:=by
 intro args sg pre x r he hp;unfold EB at he;split at he<;>cases he
 . rw[cX (hp).1];exact PU (hp:=hp.2) ..
theorem VW(a b:Nat) (ha:a<65536) (hb:b<16):kY .i32 (lD .i32 a 4) b=((16*a+b:Nat):Int):=by
 have e:lD .i32 (a:Int) 4=((a*2^4:Nat):Int):=by
  show IntKind.i32.wrap ((a:Int)*2^(min 4 32)) =_;rw[nU,show((2:Int)^(min 4 32)) =16 from rfl];omega
 rw[e];show IntKind.i32.wrap ((BitVec.ofInt 32 ((a*2^4:Nat):Int)|||BitVec.ofInt 32 (b:Int)).toNat:Int) =_;rw[BitVec.ofInt_natCast,BitVec.ofInt_natCast,BitVec.toNat_or,BitVec.toNat_ofNat,BitVec.toNat_ofNat,Nat.mod_eq_of_lt (by omega),Nat.mod_eq_of_lt (by omega),D8 a b 4 hb];rw[nU];omega
theorem PT(c:Cu) (o:List V) (hp:c.ok):OK 244 ([.ptr 0 0]) ([.cells [.ptr 1 0,.buf 2],.cells (eC c),.buf 1 0 o]) (.int .i32 c.four.2) (some [.cells [.ptr 1 0,.buf 2],.cells (eC c.four.1),.buf 1 0 o]):=by
 refine ai (C:=cx [(253,EB),(86,mi)]) (ak ⟨T9,nz,trivial⟩) (fn:=Tryz.f244) fun hw hs=>?_;refine aM.mk (Nat×Cu×Nat) (fun|(k,d,u) =>k<=4/\d.ok/\u<16^k/\fS (4-k) d (u:Int) =fS 4 c 0)
  (fun|(k,d,u) =>⟨19,[(0,.ptr 0 0),(3,.int .i32 u),(4,.int .i64 k)],[.cells [.ptr 1 0,.buf 2],.cells (eC d),.buf 1 0 o],[2]⟩) (fun x=>4-x.1) [] (0,c,0) ⟨by omega,hp,by decide,rfl⟩ ?_ (fun⟨k,d,u⟩ ⟨hk,hd,hu,he⟩ _ _=>?_)
 . apply ao<;>(repeat' first|trivial)
 have hv:=ki (ff d.ay);have h16:k<4->u<4096:=fun h=>by
  have:(16:Nat)^k<=16^3:=Nat.pow_le_pow_right (by decide) (by omega);omega
 repeat'((conv=>whnf);first|apply af|apply aI|(apply aj<;>intro h))
 all_goals try conv=>whnf
 all_goals try(refine ae.mk ?_;try dsimp only)
 all_goals (try simp only[aT] at*)
 all_goals first|refine stay ?_|trivial|skip
 . rw[show 4-k=(4-k-1)+1 by omega,fS,if_neg (by omega)] at he;have hu':=h16 (by omega);refine⟨[],(k+1,d.iH,16*u+d.nu),⟨by omega,Cg hd,?_,?_⟩,?_,by omega⟩
   . unfold Cu.nu;show 16*u+dv (ff d.ay)<16^k*16;omega
   . rw[show 4-(k+1) =4-k-1 by omega];exact he
   . apply ao<;>(repeat' first|trivial|apply ah|apply aC)
     . exact VW _ _ (by omega) hv
     . (simp(discharger:=omega) only[wR];omega)
 . rw[show 4-k=(4-k-1)+1 by omega,fS,if_pos (by omega)] at he;unfold Cu.four;rw[<-he];refine ab.mk [] ?_<;>(repeat' first|trivial)
 . rw[show 4-k=0 by omega,fS] at he;unfold Cu.four;rw[<-he];refine ab.mk [] ?_<;>(repeat' first|trivial)
def EA:Sm:=fun args σ=>match args,σ with
 |[.ptr 0 0],[.cells [.ptr 1 0,.buf 2],.cells ([.str s_c,.int .i64 (.ofNat a_c),.int .i64 (.ofNat e_c),.int .i64 c_c]),.buf 1 0 o]=>some (True/\((Cu.mk s_c a_c e_c c_c).ok),.int .i32 (Cu.mk s_c a_c e_c c_c).four.2,some [.cells [.ptr 1 0,.buf 2],.cells (eC (Cu.mk s_c a_c e_c c_c).four.1),.buf 1 0 o])
 |_,_=>none
theorem T8:aq 244 EA:=by
 intro args sg pre x r he hp;unfold EA at he;split at he<;>cases he
 . rw[cX (hp).1];exact PT (hp:=hp.2) ..
theorem PV(c:Cu) (o:List V) (b:UInt8) (hp:c.ok):OK 245 ([.ptr 0 0,bv b]) ([.cells [.ptr 1 0,.buf 2],.cells (eC c),.buf 1 0 o]) (.tuple []) (some [.cells [.ptr 1 0,.buf 2],.cells (eC (c.dI b)),.buf 1 0 o]):=by
 refine ai (C:=cx [(133,mh),(139,mY)]) (ak ⟨ny,oy,trivial⟩) (fn:=Tryz.f245) fun hw hs=>?_;repeat'((conv=>whnf);first|apply af|apply aI|(apply aj<;>intro h))
 all_goals try conv=>whnf
 all_goals try(refine ae.mk ?_;try dsimp only)
 all_goals (try simp only[aT] at*)
 all_goals first|refine stay ?_|trivial|skip
 all_goals
  unfold Cu.dI;first|rw[if_pos (by omega)]|rw[if_neg (by omega)]
  refine ab.mk [] ?_<;>(repeat' first|trivial)
def EC:Sm:=fun args σ=>match args,σ with
 |[.ptr 0 0,.int .u8 n_b],[.cells [.ptr 1 0,.buf 2],.cells ([.str s_c,.int .i64 (.ofNat a_c),.int .i64 (.ofNat e_c),.int .i64 c_c]),.buf 1 0 o]=>some ((0<=n_b/\n_b<=255)/\(True/\((Cu.mk s_c a_c e_c c_c).ok)),.tuple [],some [.cells [.ptr 1 0,.buf 2],.cells (eC ((Cu.mk s_c a_c e_c c_c).dI (byte n_b))),.buf 1 0 o])
 |_,_=>none
theorem Ta:aq 245 EC:=by
 intro args sg pre x r he hp;unfold EC at he;split at he<;>cases he
 . rw[gd (hp).1];rw[cX (hp.2).1];exact PV (hp:=hp.2.2) ..
theorem PX(b:UInt8) (hp:True):OK 217 ([bv b]) ([]) (.tuple [.int .i32 (pS b),.bool (iq b)]) (none):=by
 refine ai (C:=cx []) (ak trivial) (fn:=Tryz.f217) fun hw hs=>?_;have hb:b.toNat<256:=b.toNat_lt;repeat'((conv=>whnf);(apply aj<;>intro h))
 all_goals try conv=>whnf
 all_goals try(refine ae.mk ?_;try dsimp only)
 all_goals try refine stay ?_
 all_goals
  unfold iq pS;first|rw[decide_eq_true (by omega)]|rw[decide_eq_false (by omega)]
  repeat (first|rw[if_pos (by omega)]|rw[if_neg (by omega)])
  refine ab.mk [] ?_<;>(repeat' first|trivial|apply ah|apply aC|apply gC|apply bV)
 all_goals (simp(discharger:=omega) only[wR];omega)
def EE:Sm:=fun args σ=>match args,σ with
 |[.int .u8 n_b],[]=>some ((0<=n_b/\n_b<=255)/\(True),.tuple [.int .i32 (pS (byte n_b)),.bool (iq (byte n_b))],none)
 |_,_=>none
theorem Tc:aq 217 EE:=by
 intro args sg pre x r he hp;unfold EE at he;split at he<;>cases he
 . rw[gd (hp).1];exact PX (hp:=hp.2) ..
theorem Q0(b:UInt8) (hp:True):OK 218 ([bv b]) ([]) (.int .i64 (dO b)) (none):=by
 refine ai (C:=cx []) (ak trivial) (fn:=Tryz.f218) fun hw hs=>?_;repeat'((conv=>whnf);(apply aj<;>intro h))
 all_goals try conv=>whnf
 all_goals try(refine ae.mk ?_;try dsimp only)
 all_goals try refine stay ?_
 all_goals
  unfold dO
  repeat (first|rw[if_pos (by omega)]|rw[if_neg (by omega)])
  refine ab.mk [] ?_<;>(repeat' first|trivial)
def EH:Sm:=fun args σ=>match args,σ with
 |[.int .u8 n_b],[]=>some ((0<=n_b/\n_b<=255)/\(True),.int .i64 (dO (byte n_b)),none)
 |_,_=>none
theorem Tf:aq 218 EH:=by
 intro args sg pre x r he hp;unfold EH at he;split at he<;>cases he
 . rw[gd (hp).1];exact Q0 (hp:=hp.2) ..
theorem shl10(a:Int):lD .i32 a 10=IntKind.i32.wrap (a*1024):=rfl
theorem PW(c:Cu) (o:List V) (hp:c.ok):OK 215 ([.ptr 0 0]) ([.cells [.ptr 1 0,.buf 2],.cells (eC c),.buf 1 0 o]) (.int .i32 c.number.2) (some [.cells [.ptr 1 0,.buf 2],.cells (eC c.number.1),.buf 1 0 o]):=by
 refine ai (C:=cx [(244,EA),(245,EC),(139,mY)]) (ak ⟨T8,Ta,oy,trivial⟩) (fn:=Tryz.f215) fun hw hs=>?_;have h1:=xZ c;have h2:=xZ ((c.four.1.dI 92).dI 117);have k1:=y0 hp;have k2:=tM k1 92;have k3:=tM k2 117;repeat'((conv=>whnf);first|apply af|(apply aj<;>intro h))
 all_goals try conv=>whnf
 all_goals try(refine ae.mk ?_;try dsimp only)
 all_goals (try simp only[aT] at*)
 all_goals first|refine stay ?_|trivial|skip
 all_goals (try simp only[show byte 92=(92:UInt8) from rfl,show byte 117=(117:UInt8) from rfl,shl10] at*)
 all_goals
  unfold Cu.number
  repeat (first|rw[if_pos (by omega)]|rw[if_neg (by omega)])
  refine ab.mk [] ?_<;>(repeat' first|trivial|apply ah|apply aC)
 simp only[nU];omega
def ED:Sm:=fun args σ=>match args,σ with
 |[.ptr 0 0],[.cells [.ptr 1 0,.buf 2],.cells ([.str s_c,.int .i64 (.ofNat a_c),.int .i64 (.ofNat e_c),.int .i64 c_c]),.buf 1 0 o]=>some (True/\((Cu.mk s_c a_c e_c c_c).ok),.int .i32 (Cu.mk s_c a_c e_c c_c).number.2,some [.cells [.ptr 1 0,.buf 2],.cells (eC (Cu.mk s_c a_c e_c c_c).number.1),.buf 1 0 o])
 |_,_=>none
theorem Tb:aq 215 ED:=by
 intro args sg pre x r he hp;unfold ED at he;split at he<;>cases he
 . rw[cX (hp).1];exact PW (hp:=hp.2) ..
theorem Bc:bl []=[]:=rfl
theorem PS(c:Cu) (o:List V) (hp:c.ok/\o.length<=2000000000):OK 176 ([.ptr 0 0]) ([.cells [.ptr 1 0,.buf 2],.cells (eC c),.buf 1 0 o]) (.tuple []) (some [.cells [.ptr 1 0,.buf 2],.cells (eC c.fR),.buf 1 0 (o++bl c.jH)]):=by
 refine ai (C:=cx [(133,mh),(215,ED),(86,mi),(216,FP),(217,EE),(139,mY)]) (ak ⟨ny,Tb,nz,Ut,Tc,oy,trivial⟩) (fn:=Tryz.f176) fun hw hs=>?_;obtain⟨hp,ho⟩:=hp;have h1:=gR hp;have h2:=Lt h1;have hb:c.ay.toNat<256:=c.ay.toNat_lt;have hbb:byte c.ay.toNat=c.ay:=dd _;repeat'((conv=>whnf);first|apply af|apply aI|(apply aj<;>intro h))
 all_goals try conv=>whnf
 all_goals try(refine ae.mk ?_;try dsimp only)
 all_goals (try simp only[aT] at*)
 all_goals first|refine stay ?_|trivial|(simp only[du];omega)|(simp(discharger:=omega) [-List.getD_eq_getElem?_getD,wR]<;>omega)|skip
 all_goals (try simp only[hbb] at*)
 all_goals first
  |exact⟨VI (by assumption),by omega⟩
  |skip
 all_goals
  first
  |(have hpl:iq c.ay=true:=decide_eq_true (by assumption))
  |(have hpl:iq c.ay=false:=decide_eq_false (by assumption))
  |(have hpl:iq c.ay=iq c.ay:=rfl)
  unfold Cu.fR Cu.jH;try rw[hpl]
  repeat (first|rw[if_pos (by first|rfl|omega)]|rw[if_neg (by first|exact Bool.false_ne_true|omega)])
  refine ab.mk [] ?_<;>(repeat' first|trivial|apply ah|apply bg)
 all_goals (try rw[Bc,List.append_nil])
def Ez:Sm:=fun args σ=>match args,σ with
 |[.ptr 0 0],[.cells [.ptr 1 0,.buf 2],.cells ([.str s_c,.int .i64 (.ofNat a_c),.int .i64 (.ofNat e_c),.int .i64 c_c]),.buf 1 0 o]=>some (True/\((Cu.mk s_c a_c e_c c_c).ok/\o.length<=2000000000),.tuple [],some [.cells [.ptr 1 0,.buf 2],.cells (eC (Cu.mk s_c a_c e_c c_c).fR),.buf 1 0 (o++bl (Cu.mk s_c a_c e_c c_c).jH)])
 |_,_=>none
theorem T7:aq 176 Ez:=by
 intro args sg pre x r he hp;unfold Ez at he;split at he<;>cases he
 . rw[cX (hp).1];exact PS (hp:=hp.2) ..
theorem M1{n:Nat} {d:Cu} {s:g8} (h:n=0\/¬(d.c=0/\d.p<d.e)\/¬d.ay.toNat/64*64=128):ez n d s=(d,s):=by
 cases n with
 |zero=>rw[ez]
 |succ n=>
   rw[ez,if_neg];rw[kL];omega
theorem LY{n:Nat} {d:Cu} {s:g8} (h0:0<n) (h:d.c=0/\d.p<d.e) (h2:d.ay.toNat/64*64=128):ez n d s=ez (n-1) d.byte (s++[d.ay]):=by
 cases n with
 |zero=>omega
 |succ n=>
   rw[ez,if_pos ⟨h.1,h.2,by rw[kL];have:=d.ay.toNat_lt;omega⟩];rfl
def rawI(b:UInt8) (o:List V) (c:Cu):Unit⊕(Nat×Cu×g8)->AS
 |.inl _=>⟨55,[(0,.ptr 0 0),(1,bv b),(4,.list true 1 [bv b]),(10,.int .i64 (dO b)),(11,.int .i64 0)],[.cells [.ptr 1 0,.buf 2],.cells (eC c),.buf 1 0 o],[]⟩
 |.inr (k,d,s) =>⟨55,[(0,.ptr 0 0),(1,bv b),(4,.buf 3),(10,.int .i64 (dO b)),(11,.int .i64 k)],[.cells [.ptr 1 0,.buf 2],.cells (eC d),.buf 1 0 o,.buf 1 0 (bl s)],[3]⟩
def WU(b:UInt8) (c:Cu):Unit⊕(Nat×Cu×g8)->Prop
 |.inl _=>True
 |.inr (k,d,s) =>1<=k/\k<=dO b/\d.ok/\s.length<=k+1/\ez (dO b-k) d s=ez (dO b) c [b]
def rawM(b:UInt8):Unit⊕(Nat×Cu×g8)->Nat
 |.inl _=>dO b
 |.inr (k,_,_) =>dO b-k
theorem PY(c:Cu) (o:List V) (b:UInt8) (hp:c.ok/\o.length<=2000000000):OK 177 ([.ptr 0 0,bv b]) ([.cells [.ptr 1 0,.buf 2],.cells (eC c),.buf 1 0 o]) (.tuple []) (some [.cells [.ptr 1 0,.buf 2],.cells (eC (c.ir b)),.buf 1 0 (o++bl (c.kq b))]):=by
 refine ai (C:=cx [(218,EH),(131,q9),(133,mh),(219,FK),(139,mY)]) (ak ⟨Tf,tC,ny,Up,oy,trivial⟩) (fn:=Tryz.f177) fun hw hs=>?_;obtain⟨hp,ho⟩:=hp;have hb:b.toNat<256:=b.toNat_lt;have hbb:byte b.toNat=b:=dd _;have ht:=MV b;repeat'((conv=>whnf);apply af)
 all_goals try conv=>whnf
 all_goals try(refine ae.mk ?_;try dsimp only)
 all_goals first|refine stay ?_|(simp(discharger:=omega) [-List.getD_eq_getElem?_getD,wR]<;>omega)|skip
 rw[hbb];refine aM.mk _ (WU b c) (rawI b o c) (rawM b) [] (.inl ()) trivial ?_ (fun x hx _ _=>?_)
 . apply ao<;>(repeat' first|trivial)
 match x,hx with
 |.inl _,_=>
   have hc:=c.ay.toNat_lt;have h192:=B9 _ hc;repeat'((conv=>whnf);first|apply af|apply aI|(apply aj<;>intro h)|apply goJ)
   all_goals try conv=>whnf
   all_goals try(refine ae.mk ?_;try dsimp only)
   all_goals (try simp only[h192] at*)
   all_goals (try simp only[aT] at*)
   all_goals first|refine stay ?_|trivial|omega|(simp only[du];omega)|(simp(discharger:=omega) [-List.getD_eq_getElem?_getD,wR]<;>omega)|skip
   . refine⟨[],.inr (1,c.byte,[b,c.ay]),⟨by omega,by omega,gR hp,by simp,?_⟩,?_,by show dO b-1<dO b;omega⟩
     . exact(LY (n:=dO b) (d:=c) (s:=[b]) (by omega) (by assumption) (by omega)).symm
     . apply ao<;>(repeat' first|trivial)
   all_goals
    have he:ez (dO b) c [b]=(c,[b]):=M1 (by omega);unfold Cu.ir Cu.kq;rw[he];first|rw[if_pos (by simp only[hbb] at*;omega),if_pos (by simp only[hbb] at*;omega)]|rw[if_neg (by simp only[hbb] at*;omega),if_neg (by simp only[hbb] at*;omega)]
    refine ab.mk [] ?_<;>(repeat' first|trivial|apply ah|apply bg)
   all_goals (try rw[Bc,List.append_nil])
 |.inr (k,d,s),⟨hk,hk2,hd,hs2,he⟩=>
   have hc:=d.ay.toNat_lt;have h192:=B9 _ hc;repeat'((conv=>whnf);first|apply af|apply aI|(apply aj<;>intro h)|apply mJ)
   all_goals try conv=>whnf
   all_goals try(refine ae.mk ?_;try dsimp only)
   all_goals (try simp only[h192] at*)
   all_goals (try simp only[aT] at*)
   all_goals first|refine stay ?_|trivial|omega|(simp only[du];omega)|skip
   . refine⟨[],.inr (k+1,d.byte,s++[d.ay]),⟨by omega,by omega,gR hd,by simp;omega,?_⟩,?_,by show dO b-(k+1)<dO b-k;omega⟩
     . have e:=LY (n:=dO b-k) (d:=d) (s:=s) (by omega) (by assumption) (by omega);rw[<-he,e,show dO b-k-1=dO b-(k+1) by omega]
     . apply ao<;>(repeat' first|trivial|apply ah|apply aC|apply bg)
       . (simp(discharger:=omega) only[wR];omega)
       . rw[dZ];rfl
   all_goals
    rw[M1 (by omega)] at he;unfold Cu.ir Cu.kq;rw[<-he];first|rw[if_pos (by omega),if_pos (by omega)]|rw[if_neg (by omega),if_neg (by omega)]
    refine ab.mk [] ?_<;>(repeat' first|trivial|apply ah|apply bg)
   all_goals (try rw[Bc,List.append_nil])
def EF:Sm:=fun args σ=>match args,σ with
 |[.ptr 0 0,.int .u8 n_b],[.cells [.ptr 1 0,.buf 2],.cells ([.str s_c,.int .i64 (.ofNat a_c),.int .i64 (.ofNat e_c),.int .i64 c_c]),.buf 1 0 o]=>some ((0<=n_b/\n_b<=255)/\(True/\((Cu.mk s_c a_c e_c c_c).ok/\o.length<=2000000000)),.tuple [],some [.cells [.ptr 1 0,.buf 2],.cells (eC ((Cu.mk s_c a_c e_c c_c).ir (byte n_b))),.buf 1 0 (o++bl ((Cu.mk s_c a_c e_c c_c).kq (byte n_b)))])
 |_,_=>none
theorem Td:aq 177 EF:=by
 intro args sg pre x r he hp;unfold EF at he;split at he<;>cases he
 . rw[gd (hp).1];rw[cX (hp.2).1];exact PY (hp:=hp.2.2) ..
def Cu.le(c d:Cu):Prop:=d.s=c.s/\d.e=c.e/\c.p<=d.p
theorem le_trans{c d f:Cu} (h:c.le d) (k:d.le f):c.le f:=⟨k.1.trans h.1,k.2.1.trans h.2.1,Nat.le_trans h.2.2 k.2.2⟩
theorem le_refl(c:Cu):c.le c:=⟨rfl,rfl,co _⟩
theorem oz(c:Cu) (k:Int):c.le (c.fail k):=by unfold Cu.fail;split<;>exact⟨rfl,rfl,co _⟩
theorem V3(c:Cu) (n:Int):c.le (c.pass n):=by
 unfold Cu.pass;repeat' split
 all_goals (refine⟨rfl,rfl,?_⟩;(try dsimp only);omega)
theorem ik(c:Cu):c.le c.byte:=V3 c 1
theorem KJ(c:Cu):c.le c.iH:=by
 unfold Cu.iH;split
 . exact ik c
 . exact le_trans (ik c) (oz _ _)
theorem KH:∀(k:Nat) (c:Cu) (u:Int),c.le (fS k c u).1
 |0,c,_=>by rw[fS];exact le_refl c
 |k+1,c,u=>by
   rw[fS];split
   . exact KJ c
   . exact le_trans (KJ c) (KH k _ _)
theorem KG(c:Cu):c.le c.four.1:=KH 4 c 0
theorem KK(c:Cu) (b:UInt8):c.le (c.dI b):=by
 unfold Cu.dI;split
 . exact ik c
 . exact le_trans (ik c) (oz _ _)
theorem V1(c:Cu):c.le c.number.1:=by
 have h1:=KG c;have h2:=le_trans (le_trans (le_trans h1 (KK _ 92)) (KK _ 117)) (KG _);unfold Cu.number;repeat' split
 . exact h1
 . exact le_trans h1 (oz _ _)
 . exact le_trans h2 (oz _ _)
 . exact h2
theorem CI(c:Cu):c.le c.fR:=by
 unfold Cu.fR;repeat' split
 . exact le_trans (ik c) (V1 _)
 . exact ik c
 . exact le_trans (ik c) (oz _ _)
theorem CK:∀(k:Nat) (c:Cu) (s:g8),c.le (ez k c s).1
 |0,c,_=>by rw[ez];exact le_refl c
 |k+1,c,s=>by
   rw[ez];split
   . exact le_trans (ik c) (CK k _ _)
   . exact le_refl c
theorem CJ(c:Cu) (b:UInt8):c.le (c.ir b):=by
 unfold Cu.ir;split
 . exact le_trans (CK _ _ _) (oz _ _)
 . exact CK _ _ _
theorem BI(c:Cu):c.jH.length<=4:=by
 unfold Cu.jH;repeat' split
 . exact(uB _).2
 all_goals simp
theorem Dr(c:Cu) (b:UInt8):(c.kq b).length<=4:=by
 have:=LZ (dO b) c [b];have:=MV b;unfold Cu.kq;split
 . simp
 . simp at this⊢;simp_all;omega
def jf:Nat->Cu->g8->Cu×g8
 |0,c,_=>(c,[])
 |n+1,c,o=>
   if c.c≠0 then(c,[])
   else if c.byte.c≠0 then jf n c.byte o
   else if c.ay.toNat=34 then(c.byte,o)
   else if c.ay.toNat<32 then jf n (c.byte.fail 3) o
   else if c.ay.toNat=92 then jf n c.byte.fR (o++c.byte.jH)
   else jf n (c.byte.ir c.ay) (o++c.byte.kq c.ay)
termination_by n => n
def Cu.mu(c:Cu):Nat:=if c.c≠0 then 0 else c.e-c.p+1
def Cu.start(c:Cu):Cu:=if(c.c=0/\c.p<c.e)/\c.ay.toNat≠34 then c.fail 3 else c
def Cu.read(c:Cu):Cu×g8:=jf (c.start.byte.mu+1) c.start.byte []
theorem Yh{c:Cu} (h:c.ok):c.start.ok:=by unfold Cu.start;split;exact(iE h 3).1;exact h
theorem xI{c:Cu} (h:c.ok) (h0:c.c=0) (h1:c.byte.c=0):c.byte.p=c.p+1:=by
 unfold Cu.byte Cu.pass at h1⊢;obtain⟨a,b⟩:=h;rw[if_neg (by omega),if_neg (by omega)] at h1⊢;split at h1
 . cases h1
 . rename_i q;rw[if_neg q];rfl
theorem oC{c d:Cu} (h:c.ok) (h0:c.c=0) (h1:c.byte.c=0) (hd:c.byte.le d) (k:d.ok):d.mu<c.mu:=by
 have:=xI h h0 h1;have e1:=(ik c).2.1;obtain⟨d1,d2,d3⟩:=hd;obtain⟨k1,k2⟩:=k;unfold Cu.mu;rw[if_neg (show¬c.c≠0 by omega)];split<;>omega
theorem CV{c d:Cu} (h0:c.c=0) (h1:d.c≠0):d.mu<c.mu:=by
 unfold Cu.mu;rw[if_pos h1,if_neg (by omega)];omega
theorem PZ(c:Cu) (hp:c.ok/\c.s.length<=100000000):OK 134 ([.ptr 0 0]) ([.cells (eC c)]) (.str c.read.2) (some [.cells (eC c.read.1)]):=by
 refine ai (C:=cx [(131,q9),(139,mY),(133,mh),(86,mi),(176,Ez),(177,EF)]) (ak ⟨tC,oy,ny,nz,T7,Td,trivial⟩) (fn:=Tryz.f134) fun hw hs=>?_;obtain⟨hp,hl⟩:=hp;have hb:c.ay.toNat<256:=c.ay.toNat_lt;have k1:=Yh hp;have k2:=gR k1;have k3:=gR (iE hp 3).1;repeat'((conv=>whnf);first|apply af|apply aI|(apply aj<;>intro h))
 all_goals try conv=>whnf
 all_goals try(refine ae.mk ?_;try dsimp only)
 all_goals (try simp only[aT] at*)
 all_goals first|refine stay ?_|trivial|skip
 . have hst:c.start=c:=by unfold Cu.start;rw[if_neg (by omega)]
   refine aM.mk (Nat×Cu×g8) (fun|(n,d,o)=>d.ok/\d.s=c.s/\d.mu<n/\o.length<=4*d.p/\jf n d o=c.read) (fun|(n,d,o)=>⟨54,[(0,.ptr 0 0),(5,.ptr 1 0)],[.cells (eC d),.cells [.ptr 0 0,.buf 2],.buf 1 0 (bl o)],[2]⟩) (fun x=>x.1) [.cell 1 1 1] (c.start.byte.mu+1,c.start.byte,[])
    ⟨k2,by first|(rw[(ik _).1,hst];done)|(rw[(ik _).1,hst];exact(iE hp 3).2.1),by omega,by simp,rfl⟩ ?_ (fun⟨n,d,o⟩ ⟨hd,hds,hm,ho,he⟩ _ _=>?_)
   . rw[hst];apply ao<;>(repeat' first|trivial)
   have hdb:=gR hd;have hd1:=hd.1;have hd2:=hd.2;have hb:=d.ay.toNat_lt;obtain⟨n,rfl⟩:∃m,n=m+1:=⟨n-1,by omega⟩
   rw[jf] at he;have hsl:d.s.length<=100000000:=by rw[hds];exact hl
   have hbl:=iA o;have n1:=fun h0 h1=>xI hd h0 h1;have m0:=fun h0 h1=>CV (c:=d) (d:=d.byte) h0 h1;have lf:=oz d.byte 3;have m1:=fun h0 h1=>oC hd h0 h1 lf (iE hdb 3).1;have le:=CI d.byte;have m2:=fun h0 h1=>oC hd h0 h1 le (qC hdb);have lr:=CJ d.byte d.ay;have m3:=fun h0 h1=>oC hd h0 h1 lr (rB hdb _);have q1:=BI d.byte;have q2:=Dr d.byte d.ay;have hds2:d.byte.s=c.s:=(ik d).1.trans hds;have hp2:=(ik d).2.2;have hvb:byte d.ay.toNat=d.ay:=dd _;repeat'((conv=>whnf);first|apply af|apply aI|(apply aj<;>intro h)|apply mJ)
   all_goals try conv=>whnf
   all_goals try(refine ae.mk ?_;try dsimp only)
   all_goals (try simp only[aT] at*)
   all_goals first|refine stay ?_|trivial|skip
   all_goals (try simp only[hvb] at*)
   all_goals (repeat (first|rw[if_pos (by omega)] at he|rw[if_neg (by omega)] at he))
   all_goals first
    | (show ab _ _ _ _ _ _
       rw[<-he];refine ab.mk [] ?_<;>(repeat' first|trivial)
       done)
    |(refine⟨trivial,hdb,?_⟩;omega)
    |(refine⟨by omega,trivial,hdb,?_⟩;omega)
    |skip
   . refine⟨[],(n,d.byte.fail 3,o),⟨(iE hdb 3).1,lf.1.trans hds2,?_,?_,he⟩,?_,by show n<n+1;omega⟩
     . have:=m1 (by omega) (by omega);show(d.byte.fail 3).mu<n;omega
     . have:=lf.2.2;show o.length<=4*(d.byte.fail 3).p;omega
     . apply ao<;>(repeat' first|trivial)
   . refine⟨[],(n,d.byte.fR,o++d.byte.jH),⟨qC hdb,le.1.trans hds2,?_,?_,he⟩,?_,by show n<n+1;omega⟩
     . have:=m2 (by omega) (by omega);show d.byte.fR.mu<n;omega
     . have:=le.2.2;have:=n1 (by omega) (by omega);show(o++d.byte.jH).length<=4*d.byte.fR.p;rw[an];omega
     . apply ao<;>(repeat' first|trivial|apply ah|apply bg)
       rw[dZ]
   . refine⟨[],(n,d.byte.ir d.ay,o++d.byte.kq d.ay),⟨rB hdb _,lr.1.trans hds2,?_,?_,he⟩,?_,by show n<n+1;omega⟩
     . have:=m3 (by omega) (by omega);show(d.byte.ir d.ay).mu<n;omega
     . have:=lr.2.2;have:=n1 (by omega) (by omega);show(o++d.byte.kq d.ay).length<=4*(d.byte.ir d.ay).p;rw[an];omega
     . apply ao<;>(repeat' first|trivial|apply ah|apply bg)
       rw[dZ]
   . refine⟨[],(n,d.byte,o),⟨hdb,hds2,?_,by show o.length<=4*d.byte.p;omega,he⟩,?_,by show n<n+1;omega⟩
     . have:=m0 (by omega) (by omega);show d.byte.mu<n;omega
     . apply ao<;>(repeat' first|trivial)
 . exact⟨trivial,(iE hp 3).1⟩
 . have hst:c.start=c.fail 3:=by unfold Cu.start;rw[if_pos ⟨by assumption,by omega⟩]
   refine aM.mk (Nat×Cu×g8) (fun|(n,d,o)=>d.ok/\d.s=c.s/\d.mu<n/\o.length<=4*d.p/\jf n d o=c.read) (fun|(n,d,o)=>⟨54,[(0,.ptr 0 0),(5,.ptr 1 0)],[.cells (eC d),.cells [.ptr 0 0,.buf 2],.buf 1 0 (bl o)],[2]⟩) (fun x=>x.1) [.cell 1 1 1] (c.start.byte.mu+1,c.start.byte,[])
    ⟨k2,by first|(rw[(ik _).1,hst];done)|(rw[(ik _).1,hst];exact(iE hp 3).2.1),by omega,by simp,rfl⟩ ?_ (fun⟨n,d,o⟩ ⟨hd,hds,hm,ho,he⟩ _ _=>?_)
   . rw[hst];apply ao<;>(repeat' first|trivial)
   have hdb:=gR hd;have hd1:=hd.1;have hd2:=hd.2;have hb:=d.ay.toNat_lt;obtain⟨n,rfl⟩:∃m,n=m+1:=⟨n-1,by omega⟩
   rw[jf] at he;have hsl:d.s.length<=100000000:=by rw[hds];exact hl
   have hbl:=iA o;have n1:=fun h0 h1=>xI hd h0 h1;have m0:=fun h0 h1=>CV (c:=d) (d:=d.byte) h0 h1;have lf:=oz d.byte 3;have m1:=fun h0 h1=>oC hd h0 h1 lf (iE hdb 3).1;have le:=CI d.byte;have m2:=fun h0 h1=>oC hd h0 h1 le (qC hdb);have lr:=CJ d.byte d.ay;have m3:=fun h0 h1=>oC hd h0 h1 lr (rB hdb _);have q1:=BI d.byte;have q2:=Dr d.byte d.ay;have hds2:d.byte.s=c.s:=(ik d).1.trans hds;have hp2:=(ik d).2.2;have hvb:byte d.ay.toNat=d.ay:=dd _;repeat'((conv=>whnf);first|apply af|apply aI|(apply aj<;>intro h)|apply mJ)
   all_goals try conv=>whnf
   all_goals try(refine ae.mk ?_;try dsimp only)
   all_goals (try simp only[aT] at*)
   all_goals first|refine stay ?_|trivial|skip
   all_goals (try simp only[hvb] at*)
   all_goals (repeat (first|rw[if_pos (by omega)] at he|rw[if_neg (by omega)] at he))
   all_goals first
    | (show ab _ _ _ _ _ _
       rw[<-he];refine ab.mk [] ?_<;>(repeat' first|trivial)
       done)
    |(refine⟨trivial,hdb,?_⟩;omega)
    |(refine⟨by omega,trivial,hdb,?_⟩;omega)
    |skip
   . refine⟨[],(n,d.byte.fail 3,o),⟨(iE hdb 3).1,lf.1.trans hds2,?_,?_,he⟩,?_,by show n<n+1;omega⟩
     . have:=m1 (by omega) (by omega);show(d.byte.fail 3).mu<n;omega
     . have:=lf.2.2;show o.length<=4*(d.byte.fail 3).p;omega
     . apply ao<;>(repeat' first|trivial)
   . refine⟨[],(n,d.byte.fR,o++d.byte.jH),⟨qC hdb,le.1.trans hds2,?_,?_,he⟩,?_,by show n<n+1;omega⟩
     . have:=m2 (by omega) (by omega);show d.byte.fR.mu<n;omega
     . have:=le.2.2;have:=n1 (by omega) (by omega);show(o++d.byte.jH).length<=4*d.byte.fR.p;rw[an];omega
     . apply ao<;>(repeat' first|trivial|apply ah|apply bg)
       rw[dZ]
   . refine⟨[],(n,d.byte.ir d.ay,o++d.byte.kq d.ay),⟨rB hdb _,lr.1.trans hds2,?_,?_,he⟩,?_,by show n<n+1;omega⟩
     . have:=m3 (by omega) (by omega);show(d.byte.ir d.ay).mu<n;omega
     . have:=lr.2.2;have:=n1 (by omega) (by omega);show(o++d.byte.kq d.ay).length<=4*(d.byte.ir d.ay).p;rw[an];omega
     . apply ao<;>(repeat' first|trivial|apply ah|apply bg)
       rw[dZ]
   . refine⟨[],(n,d.byte,o),⟨hdb,hds2,?_,by show o.length<=4*d.byte.p;omega,he⟩,?_,by show n<n+1;omega⟩
     . have:=m0 (by omega) (by omega);show d.byte.mu<n;omega
     . apply ao<;>(repeat' first|trivial)
 . have hst:c.start=c:=by unfold Cu.start;rw[if_neg (fun h=>by have:=h.1;omega)]
   refine aM.mk (Nat×Cu×g8) (fun|(n,d,o)=>d.ok/\d.s=c.s/\d.mu<n/\o.length<=4*d.p/\jf n d o=c.read) (fun|(n,d,o)=>⟨54,[(0,.ptr 0 0),(5,.ptr 1 0)],[.cells (eC d),.cells [.ptr 0 0,.buf 2],.buf 1 0 (bl o)],[2]⟩) (fun x=>x.1) [.cell 1 1 1] (c.start.byte.mu+1,c.start.byte,[])
    ⟨k2,by first|(rw[(ik _).1,hst];done)|(rw[(ik _).1,hst];exact(iE hp 3).2.1),by omega,by simp,rfl⟩ ?_ (fun⟨n,d,o⟩ ⟨hd,hds,hm,ho,he⟩ _ _=>?_)
   . rw[hst];apply ao<;>(repeat' first|trivial)
   have hdb:=gR hd;have hd1:=hd.1;have hd2:=hd.2;have hb:=d.ay.toNat_lt;obtain⟨n,rfl⟩:∃m,n=m+1:=⟨n-1,by omega⟩
   rw[jf] at he;have hsl:d.s.length<=100000000:=by rw[hds];exact hl
   have hbl:=iA o;have n1:=fun h0 h1=>xI hd h0 h1;have m0:=fun h0 h1=>CV (c:=d) (d:=d.byte) h0 h1;have lf:=oz d.byte 3;have m1:=fun h0 h1=>oC hd h0 h1 lf (iE hdb 3).1;have le:=CI d.byte;have m2:=fun h0 h1=>oC hd h0 h1 le (qC hdb);have lr:=CJ d.byte d.ay;have m3:=fun h0 h1=>oC hd h0 h1 lr (rB hdb _);have q1:=BI d.byte;have q2:=Dr d.byte d.ay;have hds2:d.byte.s=c.s:=(ik d).1.trans hds;have hp2:=(ik d).2.2;have hvb:byte d.ay.toNat=d.ay:=dd _;repeat'((conv=>whnf);first|apply af|apply aI|(apply aj<;>intro h)|apply mJ)
   all_goals try conv=>whnf
   all_goals try(refine ae.mk ?_;try dsimp only)
   all_goals (try simp only[aT] at*)
   all_goals first|refine stay ?_|trivial|skip
   all_goals (try simp only[hvb] at*)
   all_goals (repeat (first|rw[if_pos (by omega)] at he|rw[if_neg (by omega)] at he))
   all_goals first
    | (show ab _ _ _ _ _ _
       rw[<-he];refine ab.mk [] ?_<;>(repeat' first|trivial)
       done)
    |(refine⟨trivial,hdb,?_⟩;omega)
    |(refine⟨by omega,trivial,hdb,?_⟩;omega)
    |skip
   . refine⟨[],(n,d.byte.fail 3,o),⟨(iE hdb 3).1,lf.1.trans hds2,?_,?_,he⟩,?_,by show n<n+1;omega⟩
     . have:=m1 (by omega) (by omega);show(d.byte.fail 3).mu<n;omega
     . have:=lf.2.2;show o.length<=4*(d.byte.fail 3).p;omega
     . apply ao<;>(repeat' first|trivial)
   . refine⟨[],(n,d.byte.fR,o++d.byte.jH),⟨qC hdb,le.1.trans hds2,?_,?_,he⟩,?_,by show n<n+1;omega⟩
     . have:=m2 (by omega) (by omega);show d.byte.fR.mu<n;omega
     . have:=le.2.2;have:=n1 (by omega) (by omega);show(o++d.byte.jH).length<=4*d.byte.fR.p;rw[an];omega
     . apply ao<;>(repeat' first|trivial|apply ah|apply bg)
       rw[dZ]
   . refine⟨[],(n,d.byte.ir d.ay,o++d.byte.kq d.ay),⟨rB hdb _,lr.1.trans hds2,?_,?_,he⟩,?_,by show n<n+1;omega⟩
     . have:=m3 (by omega) (by omega);show(d.byte.ir d.ay).mu<n;omega
     . have:=lr.2.2;have:=n1 (by omega) (by omega);show(o++d.byte.kq d.ay).length<=4*(d.byte.ir d.ay).p;rw[an];omega
     . apply ao<;>(repeat' first|trivial|apply ah|apply bg)
       rw[dZ]
   . refine⟨[],(n,d.byte,o),⟨hdb,hds2,?_,by show o.length<=4*d.byte.p;omega,he⟩,?_,by show n<n+1;omega⟩
     . have:=m0 (by omega) (by omega);show d.byte.mu<n;omega
     . apply ao<;>(repeat' first|trivial)
def EG:Sm:=fun args σ=>match args,σ with
 |[.ptr 0 0],[.cells ([.str s_c,.int .i64 (.ofNat a_c),.int .i64 (.ofNat e_c),.int .i64 c_c])]=>some (True/\((Cu.mk s_c a_c e_c c_c).ok/\(Cu.mk s_c a_c e_c c_c).s.length<=100000000),.str (Cu.mk s_c a_c e_c c_c).read.2,some [.cells (eC (Cu.mk s_c a_c e_c c_c).read.1)])
 |_,_=>none
theorem Te:aq 134 EG:=by
 intro args sg pre x r he hp;unfold EG at he;split at he<;>cases he
 . rw[cX (hp).1];exact PZ (hp:=hp.2) ..
theorem Qj(b:UInt8) (hp:True):OK 206 ([bv b]) ([]) (.tuple [.int .i64 (dv b),.bool (ec b)]) (none):=by
 refine ai (C:=cx []) (ak trivial) (fn:=Tryz.f206) fun hw hs=>?_;have hb:b.toNat<256:=b.toNat_lt;repeat'((conv=>whnf);(apply aj<;>intro h))
 all_goals try conv=>whnf
 all_goals try(refine ae.mk ?_;try dsimp only)
 all_goals try refine stay ?_
 all_goals
  unfold dv ec;first|rw[decide_eq_true (by omega)]|rw[decide_eq_false (by omega)]
  repeat (first|rw[if_pos (by omega)]|rw[if_neg (by omega)])
  refine ab.mk [] ?_<;>(repeat' first|trivial|apply ah|apply aC|apply jG|apply gC|apply bV)
 all_goals (first|omega|(simp(discharger:=omega) only[wR];omega))
def A5:Sm:=fun args σ=>match args,σ with
 |[.int .u8 n_b],[]=>some ((0<=n_b/\n_b<=255)/\(True),.tuple [.int .i64 (dv (byte n_b)),.bool (ec (byte n_b))],none)
 |_,_=>none
theorem K6:aq 206 A5:=by
 intro args sg pre x r he hp;unfold A5 at he;split at he<;>cases he
 . rw[gd (hp).1];exact Qj (hp:=hp.2) ..
def ct(t:g8):Nat->Nat->Int->Int×Int
 |0,_,n=>(n,0)
 |r+1,i,n=>if t.length<=i then(0,1) else if ec (ff (t.getD i 0)) =true then ct t r (i+1) (16*n+dv (ff (t.getD i 0))) else(0,6)
termination_by r => r
def jP(b:UInt8):g8:=if iq b=true then[byte (pS b)] else[]
theorem xP(t:g8):∀(r i:Nat) (n:Int) (m:Nat),0<=n->n<m->0<m->0<=(ct t r i n).1/\(ct t r i n).1<((m*16^r:Nat):Int)
 |0,_,n,m,h0,h,_=>by rw[ct];simpa using⟨h0,h⟩
 |r+1,i,n,m,h0,h,hm=>by
   have hp:0<m*16^(r+1):=Nat.mul_pos hm (Nat.pow_pos (by decide));have hv:=ki (ff (t.getD i 0));rw[ct];repeat' split
   . simp only;omega
   . have:=xP t r (i+1) (16*n+dv (ff (t.getD i 0))) (16*m) (by omega) (by omega) (by omega);rw[Nat.pow_succ,<-Nat.mul_assoc,Nat.mul_right_comm,Nat.mul_comm m 16];exact this
   . simp only;omega
theorem Qw(t:g8) (i:Nat) (hp:t.length<=100000000/\i<=200000000):OK 226 ([.str t,.int .i64 i]) ([]) (.tuple [.int .i64 (ct t 4 i 0).1,.int .i64 (ct t 4 i 0).2]) (none):=by
  refine ai (C:=cx [(206,A5)]) (ak ⟨K6,trivial⟩) (fn:=Tryz.f226) fun hw hs=>?_;obtain⟨hl,hi⟩:=hp;refine aM.mk (Nat×Int) (fun|(k,n)=>k<=4/\0<=n/\n<((16^k:Nat):Int)/\ct t (4-k) (i+k) n=ct t 4 i 0)
   (fun|(k,n)=>⟨45,[(0,.str t),(1,.int .i64 i),(6,.int .i64 n),(7,.int .i64 ((i+k:Nat):Int))],[],[]⟩) (fun x=>4-x.1) [] (0,0) ⟨by omega,by omega,by decide,rfl⟩ ?_ (fun⟨k,n⟩ ⟨hk,hn,hn2,he⟩ _ _=>?_)
  . apply ao<;>(repeat' first|trivial)
  have hw4:IntKind.i64.wrap ((i:Int)+4)=i+4:=by(simp(discharger:=omega) only[wR];omega)
  have h16:k<4->n<4096:=fun h=>by
   have:(16:Nat)^k<=16^3:=Nat.pow_le_pow_right (by decide) (by omega);omega
  have hb:(t.getD (i+k) 0).toNat<256:=UInt8.toNat_lt _;have hv:=ki (ff (t.getD (i+k) 0));have e1:65<=(t.getD (i+k) 0).toNat/\(t.getD (i+k) 0).toNat<=70->byte (IntKind.u8.wrap ((t.getD (i+k) 0).toNat+32))=ff (t.getD (i+k) 0):=fun h=>by
   unfold ff;rw[if_pos h,n6,show(((t.getD (i+k) 0).toNat:Int)+32)%256=(t.getD (i+k) 0).toNat+32 by omega]
  have e2:¬(65<=(t.getD (i+k) 0).toNat/\(t.getD (i+k) 0).toNat<=70)->byte (t.getD (i+k) 0).toNat=ff (t.getD (i+k) 0):=fun h=>by
   unfold ff;rw[if_neg h,dd]
  repeat'((conv=>whnf);first|apply af|apply aI|(apply aj<;>intro h)|with_reducible refine cg ?_ fun hc=>?_)
  all_goals try conv=>whnf
  all_goals try(refine ae.mk ?_;try dsimp only)
  all_goals (try simp only[aT] at*)
  all_goals first|refine stay ?_|omega|(simp(discharger:=omega) [-List.getD_eq_getElem?_getD,wR]<;>omega)|skip
  all_goals (try rw[hw4] at*)
  all_goals (first|rw[e1 (by omega)] at*|rw[e2 (by omega)] at*|skip)
  all_goals first
   | (have hlt:k < 4:=by omega
      rw[show 4-k=(4-k-1)+1 by omega,ct] at he;first
      | (rw [if_pos (by omega)] at he
         rw[<-he];refine ab.mk [] ?_<;>(repeat' first|trivial)
         done)
      | (have hn':ec (ff (t.getD (i + k) 0))=true:=decide_eq_true (by assumption)
         rw[if_neg (by omega),if_pos hn'] at he;have h3:=h16 hlt;refine⟨[],(k+1,16*n+dv (ff (t.getD (i+k) 0))),⟨by omega,by show 0<=16*n+_;omega,?_,?_⟩,?_,by show 4-(k+1)<4-k;omega⟩
         . show 16*n+_<((16^(k+1):Nat):Int);rw[Nat.pow_succ];omega
         . rw[show 4-(k+1)=4-k-1 by omega,show i+(k+1)=i+k+1 by omega];exact he
         . apply ao<;>(repeat' first|trivial|apply ah|apply aC)
           all_goals (simp(discharger:=omega) only[wR];omega)
         done)
      | (have hn':ec (ff (t.getD (i + k) 0))=false:=decide_eq_false (by assumption)
         rw[if_neg (by omega),if_neg (by rw[hn'];exact Bool.false_ne_true)] at he;rw[<-he];refine ab.mk [] ?_<;>(repeat' first|trivial)
         done))
   |skip
  . rw[show 4-k=0 by omega,ct] at he;rw[<-he];refine ab.mk [] ?_<;>(repeat' first|trivial)
def Zs:Sm:=fun args σ=>match args,σ with
 |[.str t,.int .i64 (.ofNat i)],[]=>some (t.length<=100000000/\i<=200000000,.tuple [.int .i64 (ct t 4 i 0).1,.int .i64 (ct t 4 i 0).2],none)
 |_,_=>none
def pE:g8:=[34,92,47,98,102,110,114,116]
def toL:g8:=[34,92,47,8,12,10,13,9]
theorem Y5:∀i,i<8->jP (pE.getD i 0) =[toL.getD i 0]:=by decide
theorem Y9{b:UInt8} (h:∀j,j<8->pE.getD j 0≠b):jP b=[]:=by
 unfold jP;rw[if_neg];intro hp;unfold iq at hp;rw[decide_eq_true_eq] at hp;have key:∀n:Nat,n=b.toNat->∀j,j<8->pE.getD j 0=UInt8.ofNat n->False:=fun n hn j hj e=>h j hj (by rw[e,hn,UInt8.ofNat_toNat]);rcases hp with q|q|q|q|q|q|q|q
 . exact key _ q.symm 0 (by decide) rfl
 . exact key _ q.symm 1 (by decide) rfl
 . exact key _ q.symm 2 (by decide) rfl
 . exact key _ q.symm 3 (by decide) rfl
 . exact key _ q.symm 4 (by decide) rfl
 . exact key _ q.symm 5 (by decide) rfl
 . exact key _ q.symm 6 (by decide) rfl
 . exact key _ q.symm 7 (by decide) rfl
theorem QA(b:UInt8) (hp:True):OK 225 ([bv b]) ([]) (.str (jP b)) (none):=by
 refine ai (C:=cx []) (ak trivial) (fn:=Tryz.f225) fun hw hs=>?_;have hb:b.toNat<256:=b.toNat_lt;all_goals try conv=>whnf
 all_goals try(refine ae.mk ?_;try dsimp only)
 all_goals (try simp only[aT] at*)
 all_goals try refine stay ?_
 refine aM.mk Nat (fun i=>i<=8/\∀j,j<i->pE.getD j 0≠b) (fun i=>⟨22,[(0,.int .u8 b.toNat),(3,.str pE),(4,.str toL),(5,.int .i64 i)],[],[]⟩) (fun i=>8-i) [] 0 ⟨by omega,by simp⟩ ?_ (fun i ⟨hi,hj⟩ _ _=>?_)
 . apply ao<;>(repeat' first|trivial)
 have hl:pE.length=8:=rfl;have hl2:toL.length=8:=rfl;have ha:=Y5 i;have hx:(pE.getD i 0).toNat<256:=UInt8.toNat_lt _;repeat'((conv=>whnf);first|apply af|(apply aj<;>intro h)|with_reducible refine cg ?_ fun hc=>?_)
 all_goals try conv=>whnf
 all_goals try(refine ae.mk ?_;try dsimp only)
 all_goals (try simp only[aT] at*)
 all_goals first|refine stay ?_|omega|(simp(discharger:=omega) only[wR];omega)|skip
 . have e:pE.getD i 0=b:=UInt8.toNat_inj.1 (by omega);have ha:=ha (by omega);rw[e] at ha;refine ab.mk [] ?_<;>(repeat' first|trivial|apply ah|apply cV)
   rw[ha,show(IntKind.i64.wrap ((i:Int)+1)).toNat=i+1 by(simp(discharger:=omega) only[wR];omega)];exact sx 0 (by rw[hl2];omega)
 . refine⟨[],i+1,⟨by omega,fun j hjj=>?_⟩,?_,by omega⟩
   . by_cases e:j=i
     . subst e;intro e;have:=congrArg UInt8.toNat e;omega
     . exact hj j (by omega)
   . apply ao<;>(repeat' first|trivial|apply ah|apply aC)
     (simp(discharger:=omega) only[wR];omega)
 . refine ab.mk [] ?_<;>(repeat' first|trivial|apply ah|apply cV)
   rw[Y9 fun j h=>hj j (by omega)]
def Fc:Sm:=fun args σ=>match args,σ with
 |[.int .u8 n_b],[]=>some ((0<=n_b/\n_b<=255)/\(True),.str (jP (byte n_b)),none)
 |_,_=>none
theorem TO:aq 225 Fc:=by
 intro args sg pre x r he hp;unfold Fc at he;split at he<;>cases he
 . rw[gd (hp).1];exact QA (hp:=hp.2) ..
def Ab:Sm:=fun args σ=>match args,σ with
 |[.str t,.int .i64 q],[]=>some (t.length<=100000000/\0<=q/\q<=200000000,.tuple [.int .i64 (ct t 4 q.toNat 0).1,.int .i64 (ct t 4 q.toNat 0).2],none)
 |_,_=>none
theorem Kd:aq 226 Ab:=by
 intro args sg pre x r he hp;unfold Ab at he;split at he<;>cases he
 . rename_i t q;obtain⟨i,rfl⟩:=Int.eq_ofNat_of_zero_le hp.2.1;exact Qw t i ⟨hp.1,by omega⟩
def fg(t:g8) (i:Nat) (n:Int):g8×Int×Int:=
 if t.length<=i then([],0,1) else if(t.getD i 0).toNat≠92 then([],0,6)
 else if t.length<=i+1 then([],0,1) else if(t.getD (i+1) 0).toNat≠117 then([],0,6)
 else if(ct t 4 (i+2) 0).2≠0 then([],0,(ct t 4 (i+2) 0).2)
 else if(ct t 4 (i+2) 0).1<56320\/57343<(ct t 4 (i+2) 0).1 then([],0,6)
 else(bT (65536+1024*(n-55296)+(ct t 4 (i+2) 0).1-56320),(i:Int)+6,0)
theorem bu(j:Nat):([92,117]:g8).getD j 0=if j=0 then 92 else if j=1 then 117 else 0:=by
 match j with
 |0=>rfl
 |1=>rfl
 |j+2=>simp
theorem Qy(t:g8) (i:Nat) (n:Int) (hp:(t.length<=100000000/\i<=100000000)/\55296<=n/\n<=56319):OK 227 ([.str t,.int .i64 i,.int .i64 n]) ([]) (.tuple [.str (fg t i n).1,.int .i64 (fg t i n).2.1,.int .i64 (fg t i n).2.2]) (none):=by
  refine ai (C:=cx [(226,Ab),(228,wZ)]) (ak ⟨Kd,Cy,trivial⟩) (fn:=Tryz.f227) fun hw hs=>?_;obtain⟨⟨hl,hi⟩,hn⟩:=hp;have hd:=xP t 4 (i+2) 0 1 (by decide) (by decide) (by decide);refine aM.mk Nat (fun j=>j<=2/\(0<j->i<t.length/\(t.getD i 0).toNat=92)/\(1<j->i+1<t.length/\(t.getD (i+1) 0).toNat=117)) (fun j=>⟨57,[(0,.str t),(1,.int .i64 i),(2,.int .i64 n),(9,.int .i64 j)],[],[]⟩) (fun j=>2-j) [] 0 ⟨by omega,by omega,by omega⟩ ?_ (fun j ⟨hj,hj1,hj2⟩ _ _=>?_)
  . apply ao<;>(repeat' first|trivial)
  have hij:(IntKind.i64.wrap ((i:Int)+j)).toNat=i+j:=by(simp(discharger:=omega) only[wR];omega)
  have hij2:IntKind.i64.wrap ((i:Int)+j)=((i+j:Nat):Int):=by(simp(discharger:=omega) only[wR];omega)
  have hi2:IntKind.i64.wrap ((i:Int)+2)=((i+2:Nat):Int):=by(simp(discharger:=omega) only[wR];omega)
  have hi3:(IntKind.i64.wrap ((i:Int)+2)).toNat=i+2:=by omega
  repeat'((conv=>whnf);first|apply af|apply aI|(apply aj<;>intro h)|with_reducible (first|refine cg ?_ fun hc=>?_|refine fH ?_ fun hc=>?_))
  all_goals try conv=>whnf
  all_goals try(refine ae.mk ?_;try dsimp only)
  all_goals (try simp only[bu,hi3] at*)
  all_goals first|refine stay ?_|omega|(simp(discharger:=omega) only[wR];omega)|(simp only[du];omega)|skip
  all_goals (try rw[hij] at*)
  all_goals (try rw[hij2] at*)
  all_goals first
   | (have hjl:j < 2:=by omega
      rcases(show j=0\/j=1 by omega) with rfl|rfl
      all_goals (try simp only[if_true,show¬(1:Nat)=0 by decide,if_false,Nat.add_zero,show(92:UInt8).toNat=92 from rfl,show(117:UInt8).toNat=117 from rfl] at*)
      all_goals first
       | (show ab _ _ _ _ _ _
          unfold fg
          repeat (first|rw[if_pos (by omega)]|rw[if_neg (by omega)])
          refine ab.mk [] ?_<;>(repeat' first|trivial)
          done)
       | (refine ⟨[],1,⟨by omega,fun _=>⟨by omega,by omega⟩,by omega⟩,?_,by show 2 - 1 < 2 - 0; omega⟩
          apply ao<;>(repeat' first|trivial)
          done)
       | (refine ⟨[],2,⟨by omega,fun _=>⟨by omega,by omega⟩,fun _=>⟨by omega,by omega⟩⟩,?_,by show 2 - 2 < 2 - 1; omega⟩
          apply ao<;>(repeat' first|trivial)
          done))
   | (have h1:=hj1 (by omega)
      have h2:=hj2 (by omega);unfold fg
      repeat (first|rw[if_pos (by omega)]|rw[if_neg (by omega)])
      refine ab.mk [] ?_<;>(repeat' first|trivial|apply ah|apply cV|apply aC|apply gC|apply bV)
      done)
   |skip
  . have h1:=hj1 (by omega);have h2:=hj2 (by omega);unfold fg
    repeat (first|rw[if_pos (by omega)]|rw[if_neg (by omega)])
    refine ab.mk [] ?_<;>(repeat' first|trivial|apply ah|apply cV|apply aC|apply gC|apply bV)
    . refine congrArg bT ?_;simp only[bz,nU];omega
    . (simp(discharger:=omega) only[wR];omega)
def eR(t:g8) (i:Nat):g8×Int×Int:=
 if t.length<=i then([],0,1)
 else if(t.getD i 0).toNat≠117 then(if iq (t.getD i 0) =true then(jP (t.getD i 0),(i:Int)+1,0) else([],0,6))
 else if(ct t 4 (i+1) 0).2≠0 then([],0,(ct t 4 (i+1) 0).2)
 else if 55296<=(ct t 4 (i+1) 0).1/\(ct t 4 (i+1) 0).1<=56319 then fg t (i+5) (ct t 4 (i+1) 0).1
 else if 56320<=(ct t 4 (i+1) 0).1/\(ct t 4 (i+1) 0).1<=57343 then([],0,6)
 else(bT (ct t 4 (i+1) 0).1,(i:Int)+5,0)
def Fa:Sm:=fun args σ=>match args,σ with
 |[.str t,.int .i64 q,.int .i64 n],[]=>some ((t.length<=100000000/\0<=q/\q<=100000000)/\55296<=n/\n<=56319,.tuple [.str (fg t q.toNat n).1,.int .i64 (fg t q.toNat n).2.1,.int .i64 (fg t q.toNat n).2.2],none)
 |_,_=>none
theorem TM:aq 227 Fa:=by
 intro args sg pre x r he hp;unfold Fa at he;split at he<;>cases he
 . rename_i t q n;obtain⟨i,rfl⟩:=Int.eq_ofNat_of_zero_le hp.1.2.1;exact Qy t i n ⟨⟨hp.1.1,by omega⟩,hp.2⟩
theorem Y8{b:UInt8} (h:jP b=[]):iq b=false:=by
 unfold jP at h;cases hp:iq b with
 |false=>rfl
 |true=>rw[hp,if_pos rfl] at h;cases h
theorem Y7{b:UInt8} (h:jP b≠[]):iq b=true:=by
 unfold jP at h;cases hp:iq b with
 |true=>rfl
 |false=>rw[hp,if_neg Bool.false_ne_true] at h;exact absurd rfl h
theorem Qx(t:g8) (i:Nat) (hp:t.length<=90000000/\i<=90000000):OK 186 ([.str t,.int .i64 i]) ([]) (.tuple [.str (eR t i).1,.int .i64 (eR t i).2.1,.int .i64 (eR t i).2.2]) (none):=by
 refine ai (C:=cx [(225,Fc),(226,Ab),(227,Fa),(228,wZ)]) (ak ⟨TO,Kd,TM,Cy,trivial⟩) (fn:=Tryz.f186) fun hw hs=>?_;obtain⟨hl,hi⟩:=hp;have hd:=xP t 4 (i+1) 0 1 (by decide) (by decide) (by decide);have hi1:(IntKind.i64.wrap ((i:Int)+1)).toNat=i+1:=by(simp(discharger:=omega) only[wR];omega)
 have hi5:(IntKind.i64.wrap ((i:Int)+5)).toNat=i+5:=by(simp(discharger:=omega) only[wR];omega)
 have hbb:byte ((t.getD i 0).toNat:Int)=t.getD i 0:=dd _;repeat'((conv=>whnf);first|apply af|apply aI|((first|apply aj|apply dr)<;>intro h)|with_reducible refine cg ?_ fun hc=>?_)
 all_goals try conv=>whnf
 all_goals try(refine ae.mk ?_;try dsimp only)
 all_goals (try simp only[hi1,hi5,hbb] at*)
 all_goals first|refine stay ?_|omega|(simp(discharger:=omega) only[wR];omega)|(simp(discharger:=omega) [-List.getD_eq_getElem?_getD,wR]<;>omega)|skip
 all_goals
  first
  |(have hpl:iq (t.getD i 0)=false:=Y8 (by assumption))
  |(have hpl:iq (t.getD i 0)=true:=Y7 (by assumption))
  |(have hpl:iq (t.getD i 0)=iq (t.getD i 0):=rfl)
  unfold eR
  repeat (first|rw[if_pos (by first|omega|exact hpl)]|rw[if_neg (by first|omega|(rw[hpl];exact Bool.false_ne_true))])
  refine ab.mk [] ?_<;>(repeat' first|trivial|apply ah|apply cV|apply aC|apply gC|apply bV)
 all_goals first
  | (refine congrArg bT ?_
     simp only[nU];omega)
  |(first|omega|(simp(discharger:=omega) only[wR];omega))
def F9:Sm:=fun args σ=>match args,σ with
 |[.str t,.int .i64 q],[]=>some (t.length<=90000000/\0<=q/\q<=90000000,.tuple [.str (eR t q.toNat).1,.int .i64 (eR t q.toNat).2.1,.int .i64 (eR t q.toNat).2.2],none)
 |_,_=>none
theorem TL:aq 186 F9:=by
 intro args sg pre x r he hp;unfold F9 at he;split at he<;>cases he
 . rename_i t q;obtain⟨i,rfl⟩:=Int.eq_ofNat_of_zero_le hp.2.1;exact Qx t i ⟨hp.1,by omega⟩
def cA(t:g8) (i:Nat):g8×Int×Int:=
 if(t.getD i 0).toNat=92 then eR t (i+1)
 else if(t.getD i 0).toNat<32 then([],0,3)
 else if(bU t i).2=0 then([],0,5)
 else((t.take (i+(bU t i).2)).drop i,((i+(bU t i).2:Nat):Int),0)
theorem Qz(t:g8) (i:Nat) (hp:t.length<=10000000/\i<t.length):OK 155 ([.str t,.int .i64 i]) ([]) (.tuple [.str (cA t i).1,.int .i64 (cA t i).2.1,.int .i64 (cA t i).2.2]) (none):=by
 refine ai (C:=cx [(186,F9),(187,FQ)]) (ak ⟨TL,Uu,trivial⟩) (fn:=Tryz.f155) fun hw hs=>?_;obtain⟨hl,hi⟩:=hp;have hr:=xg t i;have hi1:(IntKind.i64.wrap ((i:Int)+1)).toNat=i+1:=by(simp(discharger:=omega) only[wR];omega)
 have hi2:IntKind.i64.wrap ((i:Int)+(bU t i).2) =((i+(bU t i).2:Nat):Int):=by(simp(discharger:=omega) only[wR];omega)
 repeat'((conv=>whnf);first|apply af|(apply aj<;>intro h)|with_reducible refine cg ?_ fun hc=>?_)
 all_goals try conv=>whnf
 all_goals try(refine ae.mk ?_;try dsimp only)
 all_goals (try simp only[hi1,hi2] at*)
 all_goals first|refine stay ?_|trivial|omega|(simp(discharger:=omega) only[wR];omega)|skip
 all_goals
  unfold cA
  repeat (first|rw[if_pos (by omega)]|rw[if_neg (by omega)])
  refine ab.mk [] ?_<;>(repeat' first|trivial)
def Fb:Sm:=fun args σ=>match args,σ with
 |[.str t,.int .i64 (.ofNat i)],[]=>some (t.length<=10000000/\i<t.length,.tuple [.str (cA t i).1,.int .i64 (cA t i).2.1,.int .i64 (cA t i).2.2],none)
 |_,_=>none
theorem TN:aq 155 Fb:=by
 intro args sg pre x r he hp;unfold Fb at he;split at he<;>cases he
 . exact Qz (hp:=hp) ..
def dw(t:g8):Nat->Nat->g8->Int×Nat×g8
 |0,_,_=>(1,0,[])
 |n+1,i,o=>
   if t.length<=i then(1,0,[])
   else if(t.getD i 0).toNat=34 then(0,i+1,o)
   else if(cA t i).2.2≠0 then((cA t i).2.2,0,[])
   else dw t n (cA t i).2.1.toNat (o++(cA t i).1)
termination_by n => n
theorem Y6(b:UInt8):(jP b).length<=1:=by unfold jP;split<;>simp
theorem Wp(t:g8) (i:Nat) (n:Int):(fg t i n).2.2=0->(i:Int)<(fg t i n).2.1/\(fg t i n).2.1<=i+6/\(fg t i n).1.length<=4:=by
 have hb:=fun n=>(uB n).2;unfold fg;repeat' split
 all_goals intro h
 all_goals first
  |(exfalso;simp at h;done)
  |(exfalso;exact absurd h (by assumption))
  |exact⟨by show(i:Int)<(i:Int)+6;omega,by show(i:Int)+6<=i+6;omega,hb _⟩
theorem Ih(t:g8) (i:Nat):(eR t i).2.2=0->(i:Int)<(eR t i).2.1/\(eR t i).2.1<=i+11/\(eR t i).1.length<=4:=by
 have hb:=fun n=>(uB n).2;have hs:=Y6 (t.getD i 0);unfold eR;repeat' split
 all_goals intro h
 all_goals first
  |(exfalso;simp at h;done)
  |(exfalso;exact absurd h (by assumption))
  |(have:=Wp t (i+5) _ h;omega)
  |exact⟨by show(i:Int)<(i:Int)+5;omega,by show(i:Int)+5<=i+11;omega,hb _⟩
  |exact⟨by show(i:Int)<(i:Int)+1;omega,by show(i:Int)+1<=i+11;omega,by show(jP (t.getD i 0)).length<=4;omega⟩
theorem LH(t:g8) (i:Nat):(cA t i).2.2=0->(i:Int)<(cA t i).2.1/\(cA t i).2.1<=i+12/\(cA t i).1.length<=12:=by
 have hr:=xg t i;unfold cA;repeat' split
 all_goals intro h
 . have:=Ih t (i+1) h;omega
 . exfalso;simp at h
 . exfalso;simp at h
 . refine⟨by show(i:Int)<((i+(bU t i).2:Nat):Int);omega,by show((i+(bU t i).2:Nat):Int)<=i+12;omega,?_⟩;show((t.take (i+(bU t i).2)).drop i).length<=12;rw[fo,eo];omega
def Cu.gJ(c:Cu):Cu×g8:=
 if c.c≠0 then(c,[])
 else if c.p=c.e then(c.fail 1,[])
 else if c.get.toNat≠34 then(c.fail 3,[])
 else if(dw (c.s.take c.e) (c.e-c.p) (c.p+1) []).1=0 then({c with p:=(dw (c.s.take c.e) (c.e-c.p) (c.p+1) []).2.1},(dw (c.s.take c.e) (c.e-c.p) (c.p+1) []).2.2)
 else(c.fail (dw (c.s.take c.e) (c.e-c.p) (c.p+1) []).1,[])
def EX:Sm:=fun args σ=>match args,σ with
 |[.str s],[]=>some (True,.agg (eC (.new s)),none)
 |_,_=>none
theorem Tx:aq 46 EX:=by
 intro args sg pre x r he hp;unfold EX at he;split at he<;>cases he
 . rename_i s;refine ai (C:=cx []) (ak trivial) (fn:=Tryz.f46) fun hw hs=>?_;all_goals try conv=>whnf
   all_goals try(refine ae.mk ?_;try dsimp only)
   all_goals try refine stay ?_
   refine ab.mk [] ?_<;>(repeat' first|trivial)
theorem Qo(c:Cu) (k:Int) (hp:True):OK 106 ([.agg (eC c),.int .i64 k]) ([]) (.agg (eC (c.fail k))) (none):=by
 refine ai (C:=cx []) (ak trivial) (fn:=Tryz.f106) fun hw hs=>?_;repeat'((conv=>whnf);(apply aj<;>intro h))
 all_goals try conv=>whnf
 all_goals try(refine ae.mk ?_;try dsimp only)
 all_goals try refine stay ?_
 all_goals
  unfold Cu.fail;first|rw[if_pos (by assumption)]|rw[if_neg (by assumption)]
  refine ab.mk [] ?_<;>(repeat' first|trivial)
def uo:Sm:=fun args σ=>match args,σ with
 |[.agg ([.str s_c,.int .i64 (.ofNat a_c),.int .i64 (.ofNat e_c),.int .i64 c_c]),.int .i64 k],[]=>some (True/\(True),.agg (eC ((Cu.mk s_c a_c e_c c_c).fail k)),none)
 |_,_=>none
theorem yq:aq 106 uo:=by
 intro args sg pre x r he hp;unfold uo at he;split at he<;>cases he
 . rw[cX (hp).1];exact Qo (hp:=hp.2) ..
theorem Qv(c:Cu) (hp:c.ok/\c.s.length<=10000000):OK 102 ([.agg (eC c)]) ([]) (.tuple [.agg (eC c.gJ.1),.str c.gJ.2]) (none):=by
 refine ai (C:=cx [(155,Fb),(106,uo)]) (ak ⟨TN,yq,trivial⟩) (fn:=Tryz.f102) fun hw hs=>?_;obtain⟨hp,hl⟩:=hp;have h1:=hp.1;have h2:=hp.2;have hget:c.p<c.e->(c.s.take c.e).getD c.p 0=c.get:=fun h=>getD_take h;have hte:(c.s.take c.e).length=c.e:=by rw[eo];omega
 repeat'((conv=>whnf);first|apply af|apply aI|(apply aj<;>intro h)|with_reducible refine cg ?_ fun hc=>?_)
 all_goals try conv=>whnf
 all_goals try(refine ae.mk ?_;try dsimp only)
 all_goals (try simp only[show((c.e:Int)).toNat=c.e from rfl] at*)
 all_goals (try simp only[aT] at*)
 all_goals first|refine stay ?_|trivial|omega|skip
 all_goals (try rw[hget (by omega)] at*)
 all_goals first
  | (show ab _ _ _ _ _ _
     unfold Cu.gJ
     repeat (first|rw[if_pos (by omega)]|rw[if_neg (by omega)])
     refine ab.mk [] ?_<;>(repeat' first|trivial)
     done)
  |skip
 have hrd:c.gJ=if(dw (c.s.take c.e) (c.e-c.p) (c.p+1) []).1=0 then({c with p:=(dw (c.s.take c.e) (c.e-c.p) (c.p+1) []).2.1},(dw (c.s.take c.e) (c.e-c.p) (c.p+1) []).2.2)
    else(c.fail (dw (c.s.take c.e) (c.e-c.p) (c.p+1) []).1,[]):=by
  unfold Cu.gJ;rw[if_neg (by omega),if_neg (by omega),if_neg (by omega)]
 rw[hrd];generalize hR:dw (c.s.take c.e) (c.e-c.p) (c.p+1) []=R;generalize ht:c.s.take c.e=t at*;refine aM.mk (Nat×Nat×g8) (fun|(n,i,o)=>t.length-i+1<=n/\i<=t.length+12/\o.length<=12*i/\dw t n i o=R)
  (fun|(n,i,o)=>⟨67,[(1,.ptr 0 0),(2,.ptr 1 0),(4,.str t),(5,.str o),(6,.int .i64 i)],[.cells (eC c),.cells [.str [],.int .i64 0,.int .i64 0,.int .i64 0]],[]⟩) (fun x=>x.1) [] (c.e-c.p,c.p+1,[]) ⟨by omega,by omega,by simp,hR⟩ ?_ (fun⟨n,i,o⟩ ⟨hn,hi,ho,he⟩ _ _=>?_)
 . apply ao<;>(repeat' first|trivial|apply ah|apply aC)
   (simp(discharger:=omega) only[wR];omega)
 have hpn:=LH t i;obtain⟨n,rfl⟩:∃m,n=m+1:=⟨n-1,by omega⟩
 rw[dw] at he;repeat'((conv=>whnf);first|apply af|apply aI|(apply aj<;>intro h)|with_reducible refine cg ?_ fun hc=>?_)
 all_goals try conv=>whnf
 all_goals try(refine ae.mk ?_;try dsimp only)
 all_goals (try simp only[aT] at*)
 all_goals first|refine stay ?_|trivial|omega|skip
 all_goals (repeat (first|rw[if_pos (by omega)] at he|rw[if_neg (by omega)] at he))
 . rw[<-he];rw[if_pos rfl];refine ab.mk [] ?_<;>(repeat' first|trivial|apply ah|apply aC|apply fQ|apply gC|apply bV)
   (simp(discharger:=omega) only[wR];omega)
 . have hq:=hpn (by omega);refine⟨[],(n,(cA t i).2.1.toNat,o++(cA t i).1),⟨?_,?_,?_,he⟩,?_,by show n<n+1;omega⟩
   . show t.length-(cA t i).2.1.toNat+1<=n;omega
   . show(cA t i).2.1.toNat<=t.length+12;omega
   . show(o++(cA t i).1).length<=12*(cA t i).2.1.toNat;rw[an];omega
   . apply ao<;>(repeat' first|trivial|apply ah|apply aC)
     show(cA t i).2.1=(((cA t i).2.1.toNat:Nat):Int);omega
 . rw[<-he,if_neg (by assumption)];refine ab.mk [] ?_<;>(repeat' first|trivial)
 . rw[<-he,if_neg (by decide)];refine ab.mk [] ?_<;>(repeat' first|trivial)
def F8:Sm:=fun args σ=>match args,σ with
 |[.agg ([.str s_c,.int .i64 (.ofNat a_c),.int .i64 (.ofNat e_c),.int .i64 c_c])],[]=>some (True/\((Cu.mk s_c a_c e_c c_c).ok/\(Cu.mk s_c a_c e_c c_c).s.length<=10000000),.tuple [.agg (eC (Cu.mk s_c a_c e_c c_c).gJ.1),.str (Cu.mk s_c a_c e_c c_c).gJ.2],none)
 |_,_=>none
theorem TJ:aq 102 F8:=by
 intro args sg pre x r he hp;unfold F8 at he;split at he<;>cases he
 . rw[cX (hp).1];exact Qv (hp:=hp.2) ..
def qY(a b:UInt8):UInt8:=.ofNat (16*dv a+dv b)
def bO:g8->g8
 |a::b::r=>qY a b::bO r
 |_=>[]
def cL:g8->Bool
 |[]=>true
 |[_]=>false
 |a::b::r=>ec a&&(ec b&&cL r)
def dW(s:g8):Int×g8:=if cL s=true then(0,bO s) else(3,[])
theorem Ch(a b:UInt8):(qY a b).toNat=16*dv a+dv b:=by
 have h1:=ki a;have h2:=ki b;unfold qY;rw[UInt8.toNat_ofNat'];omega
theorem Jk{b:UInt8}:tx (dv b) =b↔ec b=true:=by
 constructor
 . intro h;have h1:=(Ll (dv b) (ki b)).2.1;unfold tx at h;rw[h] at h1;exact h1
 . exact Lm
theorem Ci:∀s:g8,eM (bO s) =s↔cL s=true
 |[]=>by simp[bO,eM,cL]
 |[a]=>by simp[bO,eM,cL]
 |a::b::r=>by
   have h1:=ki a;have h2:=ki b;have ih:=Ci r;rw[bO,eM,cL,Ch,show(16*dv a+dv b)/16=dv a by omega,show(16*dv a+dv b)%16=dv b by omega];simp only[List.cons.injEq,aA];rw[Jk,Jk,ih]
theorem yf:∀s:g8,2*(bO s).length<=s.length
 |[]=>co _
 |[_]=>ci _
 |a::b::r=>by
   have:=yf r;rw[bO,List.length_cons,List.length_cons,List.length_cons];omega
theorem nv:∀{s:g8},cL s=true->s.length=2*(bO s).length
 |[],_=>rfl
 |[_],h=>by simp[cL] at h
 |a::b::r,h=>by
   rw[cL,aA,aA] at h;have:=nv h.2.2;rw[bO,List.length_cons,List.length_cons,List.length_cons];omega
theorem Si{s:g8} (h:s.length%2≠0):cL s=false:=by
 cases q:cL s with
 |false=>rfl
 |true=>exact absurd (nv q) (by omega)
theorem Cj:∀(k:Nat) (s:g8),2*k+1<s.length->bO (s.take (2*(k+1))) =bO (s.take (2*k))++[qY (s.getD (2*k) 0) (s.getD (2*k+1) 0)]
 |k,[],h=>by simp at h
 |k,[_],h=>by simp at h
 |0,a::b::r,_=>by simp[bO]
 |k+1,a::b::r,h=>by
   have ih:=Cj k r (by simp only[List.length_cons] at h;omega);rw[show 2*(k+1+1) =2*(k+1)+1+1 by omega,show 2*(k+1) =2*k+1+1 by omega];simp only[List.take_succ_cons,bO,List.getD_cons_succ,List.cons_append];rw[show 2*k+1+1=2*(k+1) by omega,ih]
theorem Jl:∀(k:Nat) (s:g8),2*k+1<s.length->cL (s.drop (2*k)) =(ec (s.getD (2*k) 0)&&(ec (s.getD (2*k+1) 0)&&cL (s.drop (2*(k+1)))))
 |k,[],h=>by simp at h
 |k,[_],h=>by simp at h
 |0,a::b::r,_=>by simp[cL]
 |k+1,a::b::r,h=>by
   have ih:=Jl k r (by simp only[List.length_cons] at h;omega);rw[show 2*(k+1+1) =2*(k+1)+1+1 by omega,show 2*(k+1) =2*k+1+1 by omega];simp only[List.drop_succ_cons,List.getD_cons_succ];rw[show 2*k+1+1=2*(k+1) by omega];exact ih
theorem Vx:∀a:Nat,a<16->∀b:Nat,b<16->IntKind.u8.wrap (kY .i64 (lD .i64 (a:Int) 4) (b:Int)) =((16*a+b:Nat):Int):=by decide
theorem ye:∀(k:Nat) (s:g8),s.length<=2*k+1->bO (s.take (2*k)) =bO s
 |_,[],_=>by simp
 |0,[a],_=>by simp[bO]
 |k+1,[a],_=>by rw[gg (by simp only[gt];omega)]
 |0,a::b::r,h=>by simp at h
 |k+1,a::b::r,h=>by
   have ih:=ye k r (by simp only[List.length_cons] at h;omega);rw[show 2*(k+1) =2*k+1+1 by omega];simp only[List.take_succ_cons,bO];rw[ih]
theorem hxB(x:UInt8):byte ((x.toNat:Nat):Int) =x:=(Hp ⟨by omega,by have:=x.toNat_lt;omega⟩).2 rfl
theorem hx_w{n:Nat} (h:n<=1000000):IntKind.i64.wrap (((2*n:Nat):Int)+1) =((2*n+1:Nat):Int)/\IntKind.i64.wrap (((2*n:Nat):Int)+2) =((2*(n+1):Nat):Int):=by
 rw[bz,bz];omega
theorem hx_v(a b:UInt8):IntKind.u8.wrap (IntKind.i64.wrap (IntKind.i64.wrap (16*(dv a:Int))+(dv b:Int))) =(((qY a b).toNat:Nat):Int):=by
 have h1:=ki a;have h2:=ki b;rw[Ch,bz,bz,n6];omega
theorem hx_o(a b:UInt8):IntKind.u8.wrap (kY .i64 (lD .i64 (dv a:Int) 4) (dv b:Int)) =(((qY a b).toNat:Nat):Int):=by
 rw[Ch];exact Vx _ (ki a) _ (ki b)
theorem Qp(s:g8) (hs:s.length<=1000000):OK 167 [.str s] [] (.tuple [.str (dW s).2,.int .i64 (dW s).1]) none:=by
 refine ai (C:=cx [(206,A5),(207,A8)]) (ak ⟨K6,Ka,trivial⟩) (fn:=Tryz.f167) fun hw _=>?_;refine aM.mk Nat (fun k=>2*k<=s.length) (fun k=>⟨47,[(0,.str s),(4,.buf 0),(5,.int .i64 (2*k:Nat))],[.buf 1 0 (bl (bO (s.take (2*k))))],[0]⟩) (fun k=>s.length-2*k) [.tm 4 1] 0 (ci _) ?_ (fun k hk _ _=>?_)
 . apply ao<;>(repeat' first|trivial)
 have hww:=hx_w (n:=k) (by omega);have hZl:=yf (s.take (2*k));have hZk:(s.take (2*k)).length<=s.length:=by rw[eo];exact Nat.min_le_right _ _
 repeat'((conv=>whnf);first|apply af|apply aI|((first|apply aj|apply dr)<;>intro h)|with_reducible (first|refine cg ?_ fun hc=>?_|refine fH ?_ fun hc=>?_)|apply mJ)
 all_goals try conv=>whnf
 all_goals try(refine ae.mk ?_;try dsimp only)
 all_goals (try simp only[hww.1,hww.2,hxB,hx_v,Int.toNat_natCast,iA] at*)
 all_goals first
  |omega
  | (refine ⟨[],k + 1,by omega,?_,by omega⟩
     apply ao<;>(repeat' first|trivial|apply ah|apply bg)
     all_goals first
      |rfl
      |(rw[Cj k s (by omega),dZ];rfl)
     done)
  |exact⟨by omega,trivial⟩
  |(rw[gt];omega)
  |skip
 . have h:eM (bO (List.take (2*k) s))=s:=by assumption
   have e:=ye k s (by omega);rw[e] at h⊢;rw[show dW s=(0,bO s) from if_pos ((Ci s).1 h)];refine ab.mk [] ?_<;>(repeat' first|trivial)
 . have h:eM (bO (List.take (2*k) s))≠s:=by assumption
   have e:=ye k s (by omega);rw[e] at h;rw[show dW s=(3,[]) from if_neg (fun q=>h ((Ci s).2 q))];refine ab.mk [] ?_<;>(repeat' first|trivial)
theorem PE(s:g8) (hs:s.length<=1000000):OK 109 [.str s] [] (.tuple [.str (dW s).2,.int .i64 (dW s).1]) none:=by
 refine ai (C:=cx [(160,A6)]) (ak ⟨K7,trivial⟩) (fn:=Tryz.f109) fun hw _=>?_;have ht:(s.length:Int).tdiv 2=(s.length/2:Nat):=by rw[Int.tdiv_eq_ediv_of_nonneg (by omega)];rfl
 have hm:(s.length:Int).tmod 2=(s.length%2:Nat):=by rw[Int.tmod_eq_emod_of_nonneg (by omega)];rfl
 repeat'((conv=>whnf);first|apply af|apply aI|(apply aj<;>intro h))
 all_goals try conv=>whnf
 all_goals try(refine ae.mk ?_;try dsimp only)
 all_goals (try simp only[ht,hm] at*)
 . decide
 . decide
 . rw[bz];omega
 . refine aM.mk Nat (fun k=>2*k<=s.length/\cL s=cL (s.drop (2*k))) (fun k=>⟨55,[(0,.str s),(4,.buf 0),(5,.int .i64 (2*k:Nat))],[.buf 1 0 (bl (bO (s.take (2*k))))],[0]⟩) (fun k=>s.length-2*k) [] 0 ⟨ci _,rfl⟩ ?_ (fun k ⟨hk,ho⟩ _ _=>?_)
   . apply ao<;>(repeat' first|trivial)
   have hww:=hx_w (n:=k) (by omega);have hZl:=yf (s.take (2*k));have hZk:(s.take (2*k)).length<=s.length:=by rw[eo];exact Nat.min_le_right _ _
   have hst:=fun h=>Jl k s h;repeat'((conv=>whnf);first|apply af|apply aI|(apply aj<;>intro h)|with_reducible (first|refine cg ?_ fun hc=>?_|refine fH ?_ fun hc=>?_)|apply mJ)
   all_goals try conv=>whnf
   all_goals try(refine ae.mk ?_;try dsimp only)
   all_goals (try simp only[hww.1,hww.2,hxB,hx_o,Int.toNat_natCast,iA] at*)
   all_goals first
    |omega
    |exact⟨by omega,trivial⟩
    |(rw[gt];omega)
    |skip
   . have a1:ec (s.getD (2*k) 0) =true:=decide_eq_true (by assumption);have b1:ec (s.getD (2*k+1) 0) =true:=decide_eq_true (by assumption);refine⟨[],k+1,⟨by omega,by rw[ho,hst (by omega),a1,b1];rfl⟩,?_,by omega⟩;apply ao<;>(repeat' first|trivial|apply ah|apply bg)
     all_goals first
      |rfl
      |(rw[Cj k s (by omega),dZ];rfl)
   . have a1:ec (s.getD (2*k) 0) =true:=decide_eq_true (by assumption);have b1:ec (s.getD (2*k+1) 0) =false:=decide_eq_false (by assumption);rw[show dW s=(3,[]) from if_neg (by rw[ho,hst (by omega),a1,b1];exact Bool.false_ne_true)];refine ab.mk [] ?_<;>(repeat' first|trivial)
   . have a1:ec (s.getD (2*k) 0) =false:=decide_eq_false (by assumption);rw[show dW s=(3,[]) from if_neg (by rw[ho,hst (by omega),a1];exact Bool.false_ne_true)];refine ab.mk [] ?_<;>(repeat' first|trivial)
   . have e:=ye k s (by omega);rw[e];rw[show dW s=(0,bO s) from if_pos (by rw[ho,List.drop_eq_nil_of_le (by omega)];rfl)];refine ab.mk [] ?_<;>(repeat' first|trivial)
 . rename_i h;rw[show dW s=(3,[]) from if_neg (by rw[Si (by omega)];decide)];refine ab.mk [] ?_<;>(repeat' first|trivial)
def zA:Sm:=fun args σ=>match args,σ with
 |[.str s],[]=>some (s.length<=1000000,.tuple [.str (dW s).2,.int .i64 (dW s).1],none)
 |_,_=>none
-- #name hxRead hexa.Read
-- #name r04Read truchmanref04.Read
def rH:Sm:=zA
def EY:Sm:=zA
theorem vK:aq 109 rH:=by
 intro args sg pre x r he hp;unfold rH zA at he;split at he<;>cases he;exact PE _ hp
theorem Ty:aq 167 EY:=by
 intro args sg pre x r he hp;unfold EY zA at he;split at he<;>cases he;exact Qp _ hp
theorem NI{s:g8} (h:s.length=8):∃b0 b1 b2 b3 b4 b5 b6 b7,s=[b0,b1,b2,b3,b4,b5,b6,b7]:=by
 match s,h with
 |[b0,b1,b2,b3,b4,b5,b6,b7],_=>exact⟨b0,b1,b2,b3,b4,b5,b6,b7,rfl⟩
def nb:g8->Bool
 |[]=>true
 |[a]=>((a.toNat:Nat):Int) ==0
 |a::b::r=>(((a.toNat:Nat):Int) ==0)&&nb (b::r)
def iI(b:g8):Int×g8:=if nb b=true then(10,b) else(0,b)
abbrev lJ(b:g8):List V:=[.int .u8 (b.getD 0 0).toNat,.int .u8 (b.getD 1 0).toNat,.int .u8 (b.getD 2 0).toNat,.int .u8 (b.getD 3 0).toNat,.int .u8 (b.getD 4 0).toNat,.int .u8 (b.getD 5 0).toNat,.int .u8 (b.getD 6 0).toNat,.int .u8 (b.getD 7 0).toNat]
theorem PG(s:g8) (hs:s.length<=1000000) (h0:cL s=true) (h8:s.length=16):OK 110 [.str s] [] (.tuple [.agg (lJ (iI (bO s)).2),.int .i64 (iI (bO s)).1]) none:=by
 refine ai (C:=pg [(109,rH)] [] [(20,0)]) (qW ⟨vK,trivial⟩) (fn:=Tryz.f110) fun hw _=>?_;have hl:=nv h0;have hR:dW s=(0,bO s):=if_pos h0;obtain⟨b0,b1,b2,b3,b4,b5,b6,b7,hZ⟩:=NI (s:=bO s) (by omega);rw[hZ] at hR⊢;repeat'((conv=>whnf);first|apply af|apply fD|apply aI|(apply aj<;>intro h))
 all_goals try conv=>whnf
 all_goals try(refine ae.mk ?_;try dsimp only)
 . omega
 all_goals (try rw[hR])
 . rfl
 . repeat'((conv=>whnf);(apply e9<;>intro h))
   all_goals try conv=>whnf
   all_goals try(refine ae.mk ?_;try dsimp only)
   . rw[show iI [b0,b1,b2,b3,b4,b5,b6,b7]=(10,[b0,b1,b2,b3,b4,b5,b6,b7]) from if_pos (by assumption)];refine ab.mk [] ?_<;>(repeat' first|trivial)
   . rw[show iI [b0,b1,b2,b3,b4,b5,b6,b7]=(0,[b0,b1,b2,b3,b4,b5,b6,b7]) from if_neg (fun q=>Bool.noConfusion (q.symm.trans (show _=false by assumption)))];refine ab.mk [] ?_<;>(repeat' first|trivial)
 . exfalso;omega
 . rename_i h;rw[hR] at h;exact absurd rfl h
theorem PF(s:g8) (hs:s.length<=1000000) (h:cL s=false\/s.length≠16):OK 110 [.str s] [] (.tuple [.agg (lJ []),.int .i64 3]) none:=by
 refine ai (C:=pg [(109,rH)] [] [(20,0)]) (qW ⟨vK,trivial⟩) (fn:=Tryz.f110) fun hw _=>?_;have hR:(dW s).1=0->cL s=true:=fun q=>by
  unfold dW at q;split at q
  . assumption
  . cases q
 have hC:(dW s).1=0->(s.length:Int) =16->False:=fun a b=>by
  rcases h with q|q
  . rw[hR a] at q;cases q
  . exact q (by omega)
 repeat'((conv=>whnf);first|apply af|apply fD|apply aI|(apply aj<;>intro h))
 all_goals try conv=>whnf
 all_goals try(refine ae.mk ?_;try dsimp only)
 all_goals first
  |omega
  |exact(hC (by assumption) (by assumption)).elim
  |skip
 all_goals
  refine ab.mk [] ?_<;>(repeat' first|trivial)
def cW(s:g8):Int×g8:=if cL s=true/\s.length=16 then iI (bO s) else(3,[])
def zK:Sm:=fun args σ=>match args,σ with
 |[.str s],[]=>some (s.length<=1000000,.tuple [.agg (lJ (cW s).2),.int .i64 (cW s).1],none)
 |_,_=>none
-- #name idSpan ident.ReadSpan
theorem JO:aq 110 zK:=by
 intro args sg pre x r he hp;unfold zK at he;split at he<;>cases he;rename_i s;unfold cW;by_cases h:cL s=true/\s.length=16
 . rw[if_pos h];exact PG s hp h.1 h.2
 . rw[if_neg h];refine PF s hp ?_;by_cases q:cL s=true
   . exact .inr fun z=>h ⟨q,z⟩
   . exact .inl (by simpa using q)
theorem Z8{s:g8} (h:s.length=16):∃b0 b1 b2 b3 b4 b5 b6 b7 b8 b9 b10 b11 b12 b13 b14 b15,s=[b0,b1,b2,b3,b4,b5,b6,b7,b8,b9,b10,b11,b12,b13,b14,b15]:=by
 match s,h with
 |[b0,b1,b2,b3,b4,b5,b6,b7,b8,b9,b10,b11,b12,b13,b14,b15],_=>exact⟨b0,b1,b2,b3,b4,b5,b6,b7,b8,b9,b10,b11,b12,b13,b14,b15,rfl⟩
abbrev mm(b:g8):List V:=[.int .u8 (b.getD 0 0).toNat,.int .u8 (b.getD 1 0).toNat,.int .u8 (b.getD 2 0).toNat,.int .u8 (b.getD 3 0).toNat,.int .u8 (b.getD 4 0).toNat,.int .u8 (b.getD 5 0).toNat,.int .u8 (b.getD 6 0).toNat,.int .u8 (b.getD 7 0).toNat,.int .u8 (b.getD 8 0).toNat,.int .u8 (b.getD 9 0).toNat,.int .u8 (b.getD 10 0).toNat,.int .u8 (b.getD 11 0).toNat,.int .u8 (b.getD 12 0).toNat,.int .u8 (b.getD 13 0).toNat,.int .u8 (b.getD 14 0).toNat,.int .u8 (b.getD 15 0).toNat]
def nH(b:g8):g8:=[0,0,0,0,0,0,0,0]++b
theorem PI(s:g8) (hs:s.length<=1000000) (h0:cL s=true) (h8:s.length=32):OK 54 [.str s] [] (.tuple [.agg (mm (iI (bO s)).2),.int .i64 (iI (bO s)).1]) none:=by
 refine ai (C:=pg [(109,rH)] [] [(27,0)]) (qW ⟨vK,trivial⟩) (fn:=Tryz.f54) fun hw _=>?_;have hl:=nv h0;have hR:dW s=(0,bO s):=if_pos h0;obtain⟨b0,b1,b2,b3,b4,b5,b6,b7,b8,b9,b10,b11,b12,b13,b14,b15,hZ⟩:=Z8 (s:=bO s) (by omega);rw[hZ] at hR⊢;have hWi:IntKind.i64.wrap (16-((dW s).2.length:Int))=0:=by rw[hR];rfl
 repeat'((conv=>whnf);first|apply af|apply aI|(apply aj<;>intro h))
 all_goals try conv=>whnf
 all_goals try(refine ae.mk ?_;try dsimp only)
 all_goals first
  |omega
  |(exfalso;omega)
  |(rw[hWi];decide)
  | (exfalso
     have h:¬(dW s).1=0:=by assumption
     rw[hR] at h;exact h rfl)
  |skip
 rw[hWi];repeat'((conv=>whnf);apply fD)
 all_goals try conv=>whnf
 all_goals try(refine ae.mk ?_;try dsimp only)
 all_goals (try rw[hR])
 . rfl
 . repeat'((conv=>whnf);(apply e9<;>intro h))
   all_goals try conv=>whnf
   all_goals try(refine ae.mk ?_;try dsimp only)
   . rw[show iI [b0,b1,b2,b3,b4,b5,b6,b7,b8,b9,b10,b11,b12,b13,b14,b15]=(10,[b0,b1,b2,b3,b4,b5,b6,b7,b8,b9,b10,b11,b12,b13,b14,b15]) from if_pos (by assumption)];refine ab.mk [] ?_<;>(repeat' first|trivial)
   . rw[show iI [b0,b1,b2,b3,b4,b5,b6,b7,b8,b9,b10,b11,b12,b13,b14,b15]=(0,[b0,b1,b2,b3,b4,b5,b6,b7,b8,b9,b10,b11,b12,b13,b14,b15]) from if_neg (fun q=>Bool.noConfusion (q.symm.trans (show _=false by assumption)))];refine ab.mk [] ?_<;>(repeat' first|trivial)
theorem PH(s:g8) (hs:s.length<=1000000) (h0:cL s=true) (h8:s.length=16):OK 54 [.str s] [] (.tuple [.agg (mm (iI (nH (bO s))).2),.int .i64 (iI (nH (bO s))).1]) none:=by
 refine ai (C:=pg [(109,rH)] [] [(27,0)]) (qW ⟨vK,trivial⟩) (fn:=Tryz.f54) fun hw _=>?_;have hl:=nv h0;have hR:dW s=(0,bO s):=if_pos h0;obtain⟨b0,b1,b2,b3,b4,b5,b6,b7,hZ⟩:=NI (s:=bO s) (by omega);rw[hZ] at hR⊢;have hWi:IntKind.i64.wrap (16-((dW s).2.length:Int))=8:=by rw[hR];rfl
 repeat'((conv=>whnf);first|apply af|apply aI|(apply aj<;>intro h))
 all_goals try conv=>whnf
 all_goals try(refine ae.mk ?_;try dsimp only)
 all_goals first
  |omega
  |(exfalso;omega)
  |(rw[hWi];decide)
  | (exfalso
     have h:¬(dW s).1=0:=by assumption
     rw[hR] at h;exact h rfl)
  |skip
 rw[hWi];repeat'((conv=>whnf);apply fD)
 all_goals try conv=>whnf
 all_goals try(refine ae.mk ?_;try dsimp only)
 all_goals (try rw[hR])
 . rfl
 . repeat'((conv=>whnf);(apply e9<;>intro h))
   all_goals try conv=>whnf
   all_goals try(refine ae.mk ?_;try dsimp only)
   . rw[show iI (nH [b0,b1,b2,b3,b4,b5,b6,b7])=(10,(nH [b0,b1,b2,b3,b4,b5,b6,b7])) from if_pos (by assumption)];refine ab.mk [] ?_<;>(repeat' first|trivial)
   . rw[show iI (nH [b0,b1,b2,b3,b4,b5,b6,b7])=(0,(nH [b0,b1,b2,b3,b4,b5,b6,b7])) from if_neg (fun q=>Bool.noConfusion (q.symm.trans (show _=false by assumption)))];refine ab.mk [] ?_<;>(repeat' first|trivial)
theorem PJ(s:g8) (hs:s.length<=1000000) (h:cL s=false\/(s.length≠16/\s.length≠32)):OK 54 [.str s] [] (.tuple [.agg (mm []),.int .i64 3]) none:=by
 refine ai (C:=pg [(109,rH)] [] [(27,0)]) (qW ⟨vK,trivial⟩) (fn:=Tryz.f54) fun hw _=>?_;have hR:(dW s).1=0->cL s=true:=fun q=>by
  unfold dW at q;split at q
  . assumption
  . cases q
 have hC:(dW s).1=0->(s.length:Int) =16->False:=fun a b=>by
  rcases h with q|q
  . rw[hR a] at q;cases q
  . exact q.1 (by omega)
 have hD:(dW s).1=0->(s.length:Int) =32->False:=fun a b=>by
  rcases h with q|q
  . rw[hR a] at q;cases q
  . exact q.2 (by omega)
 repeat'((conv=>whnf);first|apply af|apply aI|(apply aj<;>intro h))
 all_goals try conv=>whnf
 all_goals try(refine ae.mk ?_;try dsimp only)
 all_goals first
  |omega
  |exact(hC (by assumption) (by assumption)).elim
  |exact(hD (by assumption) (by assumption)).elim
  |skip
 all_goals
  refine ab.mk [] ?_<;>(repeat' first|trivial)
def cO(s:g8):Int×g8:=if cL s=true/\s.length=32 then iI (bO s) else if cL s=true/\s.length=16 then iI (nH (bO s)) else(3,[])
def zL:Sm:=fun args σ=>match args,σ with
 |[.str s],[]=>some (s.length<=1000000,.tuple [.agg (mm (cO s).2),.int .i64 (cO s).1],none)
 |_,_=>none
-- #name idTr ident.ReadTrace
theorem JP:aq 54 zL:=by
 intro args sg pre x r he hp;unfold zL at he;split at he<;>cases he;rename_i s;unfold cO;by_cases h:cL s=true/\s.length=32
 . rw[if_pos h];exact PI s hp h.1 h.2
 . rw[if_neg h];by_cases h2:cL s=true/\s.length=16
   . rw[if_pos h2];exact PH s hp h2.1 h2.2
   . rw[if_neg h2];refine PJ s hp ?_;by_cases q:cL s=true
     . exact .inr ⟨fun z=>h2 ⟨q,z⟩,fun z=>h ⟨q,z⟩⟩
     . exact .inl (by simpa using q)
def cH(u:Int):Int×Int:=if u<0\/u>9223372036854775 then(11,0) else(0,u*1000)
def jd(a b:Int):Int×(Int×Int):=if(cH a).1≠0\/(cH b).1≠0\/(cH b).2>9223372036854775807-(cH a).2 then(11,0,0) else(0,(cH a).2,(cH a).2+(cH b).2)
theorem yT(u:Int):0<=(cH u).2/\(cH u).2<=9223372036854775000:=by
 unfold cH;split
 . exact⟨Int.le_refl _,by decide⟩
 . show 0<=u*1000/\u*1000<=_;omega
def wT:Sm:=fun args σ=>match args,σ with
 |[.int .i64 u],[]=>some (True,.tuple [.int .u64 (cH u).2,.int .i64 (cH u).1],none)
 |_,_=>none
theorem Cv:aq 62 wT:=by
 intro args sg pre x r he hp;unfold wT at he;split at he<;>cases he
 . rename_i u;refine ai (C:=cx []) (ak trivial) (fn:=Tryz.f62) fun hw hs=>?_;repeat'((conv=>whnf);(apply aj<;>intro h))
   all_goals try conv=>whnf
   all_goals try(refine ae.mk ?_;try dsimp only)
   all_goals try refine stay ?_
   all_goals first
    | (rw [show cH u=(11,0) from if_pos (by omega)]
       refine ab.mk [] ?_<;>(repeat' first|trivial)
       done)
    | (rw [show cH u=(0,u * 1000) from if_neg (by omega)]
       refine ab.mk [] ?_<;>(repeat' first|trivial|apply ah|apply aC|apply gC|apply bV)
       all_goals (simp only[ld];omega))
def Aa:Sm:=fun args σ=>match args,σ with
 |[.int .i64 u],[]=>some (True,.tuple [.int .u64 (cH u).2,.int .i64 (cH u).1],none)
 |_,_=>none
theorem Kc:aq 77 Aa:=by
 intro args sg pre x r he hp;unfold Aa at he;split at he<;>cases he
 . rename_i u;refine ai (C:=cx []) (ak trivial) (fn:=Tryz.f77) fun hw hs=>?_;repeat'((conv=>whnf);(apply aj<;>intro h))
   all_goals try conv=>whnf
   all_goals try(refine ae.mk ?_;try dsimp only)
   all_goals try refine stay ?_
   all_goals first
    | (rw [show cH u=(11,0) from if_pos (by omega)]
       refine ab.mk [] ?_<;>(repeat' first|trivial)
       done)
    | (rw [show cH u=(0,u * 1000) from if_neg (by omega)]
       refine ab.mk [] ?_<;>(repeat' first|trivial|apply ah|apply aC|apply gC|apply bV)
       all_goals (simp only[ld];omega))
def A4:Sm:=fun args σ=>match args,σ with
 |[.int .i64 a,.int .i64 b],[]=>some (True,.tuple [.agg [.int .u64 (jd a b).2.1,.int .u64 (jd a b).2.2],.int .i64 (jd a b).1],none)
 |_,_=>none
theorem K5:aq 59 A4:=by
 intro args sg pre x r he hp;unfold A4 at he;split at he<;>cases he
 . rename_i a b;refine ai (C:=cx [(62,wT)]) (ak ⟨Cv,trivial⟩) (fn:=Tryz.f59) fun hw hs=>?_;have ha:=yT a;have hb:=yT b;have w1:IntKind.u64.wrap (9223372036854775807-(cH a).2)=9223372036854775807-(cH a).2:=by rw[ld];omega
   have w2:IntKind.u64.wrap ((cH a).2+(cH b).2)=(cH a).2+(cH b).2:=by rw[ld];omega
   repeat'((conv=>whnf);first|apply af|apply aI|(apply aj<;>intro h))
   all_goals try conv=>whnf
   all_goals try(refine ae.mk ?_;try dsimp only)
   all_goals (try simp only[w1,w2] at*)
   all_goals first
    | (rw [show jd a b=(11,0,0) from if_pos (by omega)]
       refine ab.mk [] ?_<;>(repeat' first|trivial)
       done)
    | (rw [show jd a b=(0,(cH a).2,(cH a).2 + (cH b).2) from if_neg (by omega)]
       refine ab.mk [] ?_<;>(repeat' first|trivial)
       done)
def F7:Sm:=fun args σ=>match args,σ with
 |[.int .i64 a,.int .i64 b],[]=>some (True,.tuple [.int .u64 (jd a b).2.1,.int .u64 (jd a b).2.2,.int .i64 (jd a b).1],none)
 |_,_=>none
theorem TH:aq 74 F7:=by
 intro args sg pre x r he hp;unfold F7 at he;split at he<;>cases he
 . rename_i a b;refine ai (C:=cx [(77,Aa)]) (ak ⟨Kc,trivial⟩) (fn:=Tryz.f74) fun hw hs=>?_;have ha:=yT a;have hb:=yT b;have w1:IntKind.u64.wrap (9223372036854775807-(cH b).2)=9223372036854775807-(cH b).2:=by rw[ld];omega
   have w2:IntKind.u64.wrap ((cH a).2+(cH b).2)=(cH a).2+(cH b).2:=by rw[ld];omega
   repeat'((conv=>whnf);first|apply af|apply aI|(apply aj<;>intro h))
   all_goals try conv=>whnf
   all_goals try(refine ae.mk ?_;try dsimp only)
   all_goals (try simp only[w1,w2] at*)
   all_goals first
    | (rw [show jd a b=(11,0,0) from if_pos (by omega)]
       refine ab.mk [] ?_<;>(repeat' first|trivial)
       done)
    | (rw [show jd a b=(0,(cH a).2,(cH a).2 + (cH b).2) from if_neg (by omega)]
       refine ab.mk [] ?_<;>(repeat' first|trivial)
       done)
def cpI(s:g8) (i j:Nat):Int:=if j<i then(s.getD j 0).toNat else 0
abbrev fz(s:g8) (i j:Nat):V:=.int .u8 (cpI s i j)
theorem fN(s:g8) (n j:Nat) (h:j<n):cpI s (min s.length n) j=(s.getD j 0).toNat:=by
 unfold cpI;split
 . rfl
 . rw[show s.getD j 0=0 from by rw[ac,dl (by omega)];rfl];rfl
abbrev cp8(s:g8) (i:Nat):List V:=[fz s i 0,fz s i 1,fz s i 2,fz s i 3,fz s i 4,fz s i 5,fz s i 6,fz s i 7]
theorem Qs(s:g8) (hl:s.length<=1000000):OK 125 [.str s] [] (.agg (lJ s)) none:=by
 refine ai (C:=cx []) (ak trivial) (fn:=Tryz.f125) fun hw _=>?_;refine aM.mk Nat (fun i=>i<=8/\i<=s.length) (fun i=>⟨21,[(0,.str s),(2,.ptr 0 0),(3,.ptr 1 0),(4,.int .i64 i)],[.cells [.int .u8 0,.int .u8 0,.int .u8 0,.int .u8 0,.int .u8 0,.int .u8 0,.int .u8 0,.int .u8 0],.cells (cp8 s i)],[]⟩) (fun i=>8-i) [] 0 ⟨ci _,ci _⟩ ?_ (fun i ⟨hi,hi2⟩ _ _=>?_)
 . apply ao<;>(repeat' first|trivial)
 obtain⟨m,hm⟩:∃m,m=i+1:=⟨_,rfl⟩
 have h8:i=0\/i=1\/i=2\/i=3\/i=4\/i=5\/i=6\/i=7\/i=8:=by omega
 rcases h8 with rfl|rfl|rfl|rfl|rfl|rfl|rfl|rfl|rfl
 all_goals
  repeat'((conv=>whnf);first|apply af|(apply aj<;>intro h)|with_reducible refine cg ?_ fun hc=>?_)
  all_goals try conv=>whnf
  all_goals try(refine ae.mk ?_;try dsimp only)
  all_goals try first
   |omega
   |(exact⟨by omega,by omega⟩)
  all_goals try
   (refine⟨[],m,⟨by omega,by omega⟩,?_,by omega⟩
    subst hm;apply ao<;>(repeat' first|trivial)
    done)
 all_goals
  have hE:cp8 s (min s.length 8) =lJ s:=by
   simp only[cp8,lJ,fz,fN s 8 0 (by decide),fN s 8 1 (by decide),fN s 8 2 (by decide),fN s 8 3 (by decide),fN s 8 4 (by decide),fN s 8 5 (by decide),fN s 8 6 (by decide),fN s 8 7 (by decide)]
  rw[<-hE];first
   |rw[show min s.length 8=0 by omega]
   |rw[show min s.length 8=1 by omega]
   |rw[show min s.length 8=2 by omega]
   |rw[show min s.length 8=3 by omega]
   |rw[show min s.length 8=4 by omega]
   |rw[show min s.length 8=5 by omega]
   |rw[show min s.length 8=6 by omega]
   |rw[show min s.length 8=7 by omega]
   |rw[show min s.length 8=8 by omega]
  refine ab.mk [] ?_<;>(repeat' first|trivial)
def F5:Sm:=fun args σ=>match args,σ with
 |[.str s],[]=>some (s.length<=1000000,.agg (lJ s),none)
 |_,_=>none
-- #name r07span truchmanref07.span
theorem TF:aq 125 F5:=by
 intro args sg pre x r he hp;unfold F5 at he;split at he<;>cases he;exact Qs _ hp
abbrev Bq(s:g8) (i:Nat):List V:=[fz s i 0,fz s i 1,fz s i 2,fz s i 3,fz s i 4,fz s i 5,fz s i 6,fz s i 7,fz s i 8,fz s i 9,fz s i 10,fz s i 11,fz s i 12,fz s i 13,fz s i 14,fz s i 15]
theorem Qu(s:g8) (hl:s.length<=1000000):OK 124 [.str s] [] (.agg (mm s)) none:=by
 refine ai (C:=cx []) (ak trivial) (fn:=Tryz.f124) fun hw _=>?_;refine aM.mk Nat (fun i=>i<=16/\i<=s.length) (fun i=>⟨21,[(0,.str s),(2,.ptr 0 0),(3,.ptr 1 0),(4,.int .i64 i)],[.cells [.int .u8 0,.int .u8 0,.int .u8 0,.int .u8 0,.int .u8 0,.int .u8 0,.int .u8 0,.int .u8 0,.int .u8 0,.int .u8 0,.int .u8 0,.int .u8 0,.int .u8 0,.int .u8 0,.int .u8 0,.int .u8 0],.cells (Bq s i)],[]⟩) (fun i=>16-i) [] 0 ⟨ci _,ci _⟩ ?_ (fun i ⟨hi,hi2⟩ _ _=>?_)
 . apply ao<;>(repeat' first|trivial)
 obtain⟨m,hm⟩:∃m,m=i+1:=⟨_,rfl⟩
 have h8:i=0\/i=1\/i=2\/i=3\/i=4\/i=5\/i=6\/i=7\/i=8\/i=9\/i=10\/i=11\/i=12\/i=13\/i=14\/i=15\/i=16:=by omega
 rcases h8 with rfl|rfl|rfl|rfl|rfl|rfl|rfl|rfl|rfl|rfl|rfl|rfl|rfl|rfl|rfl|rfl|rfl
 all_goals
  repeat'((conv=>whnf);first|apply af|(apply aj<;>intro h)|with_reducible refine cg ?_ fun hc=>?_)
  all_goals try conv=>whnf
  all_goals try(refine ae.mk ?_;try dsimp only)
  all_goals try first
   |omega
   |(exact⟨by omega,by omega⟩)
  all_goals try
   (refine⟨[],m,⟨by omega,by omega⟩,?_,by omega⟩
    subst hm;apply ao<;>(repeat' first|trivial)
    done)
 all_goals
  have hE:Bq s (min s.length 16) =mm s:=by
   simp only[Bq,mm,fz,fN s 16 0 (by decide),fN s 16 1 (by decide),fN s 16 2 (by decide),fN s 16 3 (by decide),fN s 16 4 (by decide),fN s 16 5 (by decide),fN s 16 6 (by decide),fN s 16 7 (by decide),fN s 16 8 (by decide),fN s 16 9 (by decide),fN s 16 10 (by decide),fN s 16 11 (by decide),fN s 16 12 (by decide),fN s 16 13 (by decide),fN s 16 14 (by decide),fN s 16 15 (by decide)]
  rw[<-hE];first
   |rw[show min s.length 16=0 by omega]
   |rw[show min s.length 16=1 by omega]
   |rw[show min s.length 16=2 by omega]
   |rw[show min s.length 16=3 by omega]
   |rw[show min s.length 16=4 by omega]
   |rw[show min s.length 16=5 by omega]
   |rw[show min s.length 16=6 by omega]
   |rw[show min s.length 16=7 by omega]
   |rw[show min s.length 16=8 by omega]
   |rw[show min s.length 16=9 by omega]
   |rw[show min s.length 16=10 by omega]
   |rw[show min s.length 16=11 by omega]
   |rw[show min s.length 16=12 by omega]
   |rw[show min s.length 16=13 by omega]
   |rw[show min s.length 16=14 by omega]
   |rw[show min s.length 16=15 by omega]
   |rw[show min s.length 16=16 by omega]
  refine ab.mk [] ?_<;>(repeat' first|trivial)
def F6:Sm:=fun args σ=>match args,σ with
 |[.str s],[]=>some (s.length<=1000000,.agg (mm s),none)
 |_,_=>none
-- #name r07trace truchmanref07.trace
theorem TG:aq 124 F6:=by
 intro args sg pre x r he hp;unfold F6 at he;split at he<;>cases he;exact Qu _ hp
theorem B4:∀b:g8,nb b=true↔∀j,j<b.length->b.getD j 0=0
 |[]=>by simp[nb]
 |[a]=>by
   rw[nb,beq_iff_eq];constructor
   . intro h j hj;obtain rfl:j=0:=by simpa using hj
     exact UInt8.toNat_inj.1 (by show a.toNat=0;omega)
   . intro h;have:=h 0 (by simp);rw[show a=0 from this];rfl
 |a::b::r=>by
   have ih:=B4 (b::r);rw[nb,aA,ih,beq_iff_eq];constructor
   . rintro⟨h1,h2⟩ j hj;cases j with
     |zero=>exact UInt8.toNat_inj.1 (by show a.toNat=0;omega)
     |succ j=>exact h2 j (by simpa using hj)
   . intro h;refine⟨?_,fun j hj=>h (j+1) (by simpa using hj)⟩;have:=h 0 (by simp);rw[show a=0 from this];rfl
def ic(n:Nat) (s:g8):Int×g8:=if cL s=true/\(bO s).length=n then(if nb (bO s) =true then(10,[]) else(0,bO s)) else(3,[])
theorem Qr(s:g8) (n:Nat) (hs:s.length<=1000000) (hn:n<=1000):OK 123 [.str s,.int .i64 n] [] (.tuple [.str (ic n s).2,.int .i64 (ic n s).1]) none:=by
 refine ai (C:=cx [(167,EY)]) (ak ⟨Ty,trivial⟩) (fn:=Tryz.f123) fun hw _=>?_;have hR:(dW s).1=0->cL s=true/\(dW s).2=bO s:=fun q=>by
  unfold dW at q⊢;split at q
  . rename_i h;rw[if_pos h];exact⟨h,rfl⟩
  . cases q
 repeat'((conv=>whnf);first|apply af|apply aI|(apply aj<;>intro h))
 all_goals try conv=>whnf
 all_goals try(refine ae.mk ?_;try dsimp only)
 . exact hs
 . obtain⟨h1,h2⟩:=hR (by assumption);have hln:(bO s).length=n:=by rw[<-h2];omega
   have hb:ic n s=if nb (bO s) =true then(10,[]) else(0,bO s):=if_pos ⟨h1,hln⟩
   have hz:=B4 (bO s);rw[h2,hb];generalize bO s=b at*;subst hln;refine aM.mk Nat (fun i=>i<=b.length/\∀j,j<i->b.getD j 0=0) (fun i=>⟨32,[(1,.int .i64 b.length),(6,.str b),(8,.int .i64 i)],[],[]⟩) (fun i=>b.length-i) [] 0 ⟨ci _,fun _ h=>by omega⟩ ?_ (fun i ⟨hi,hj⟩ _ _=>?_)
   . apply ao<;>(repeat' first|trivial)
   repeat'((conv=>whnf);first|apply af|apply aI|(apply aj<;>intro h)|with_reducible refine cg ?_ fun hc=>?_)
   all_goals try conv=>whnf
   all_goals try(refine ae.mk ?_;try dsimp only)
   all_goals (try simp only[aT] at*)
   all_goals first|refine stay ?_|omega|skip
   . have he:b.getD i 0=0:=UInt8.toNat_inj.1 (by show(b.getD i 0).toNat=0;omega);refine⟨[],i+1,⟨by omega,fun j q=>?_⟩,?_,by omega⟩
     . by_cases z:j=i
       . subst z;exact he
       . exact hj j (by omega)
     . apply ao<;>(repeat' first|trivial|apply ah|apply aC)
       (simp(discharger:=omega) only[wR];omega)
   . have hne:¬((b.getD i 0).toNat:Int) =0:=by assumption
     rw[if_neg (fun q=>hne (by rw[hz.1 q i (by omega)];rfl))];refine ab.mk [] ?_<;>(repeat' first|trivial)
   . rw[if_pos (hz.2 fun j q=>hj j (by omega))];refine ab.mk [] ?_<;>(repeat' first|trivial)
 . obtain⟨h1,h2⟩:=hR (by assumption);rw[show ic n s=(3,[]) from if_neg (fun q=>by have h3:=congrArg List.length h2;have h4:=q.2;omega)];refine ab.mk [] ?_<;>(repeat' first|trivial)
 . have h1:cL s=false:=by
     cases z:cL s with
     |false=>rfl
     |true=>exact absurd (show(dW s).1=0 by unfold dW;rw[if_pos z]) (by assumption)
   rw[show ic n s=(3,[]) from if_neg (fun q=>by rw[h1] at q;cases q.1)];refine ab.mk [] ?_<;>(repeat' first|trivial)
def A9:Sm:=fun args σ=>match args,σ with
 |[.str s,.int .i64 (.ofNat n)],[]=>some (s.length<=1000000/\n<=1000,.tuple [.str (ic n s).2,.int .i64 (ic n s).1],none)
 |_,_=>none
-- #name r07bytes truchmanref07.bytes
theorem Kb:aq 123 A9:=by
 intro args sg pre x r he hp;unfold A9 at he;split at he<;>cases he;exact Qr _ _ hp.1 hp.2
theorem Bg(n:Nat) (s:g8):(ic n s).2.length<=s.length:=by
 have:=yf s;unfold ic;repeat' split
 all_goals first
  |exact ci _
  | (show (bO s).length <= _
     omega)
theorem S3{b:g8} (h:nb b=true) (j:Nat):b.getD j 0=0:=by
 rcases eg j b.length with q|q
 . exact(B4 b).1 h j q
 . rw[ac,dl q];rfl
theorem Bh{n:Nat} {s:g8} (h:cL s=true) (h2:(bO s).length=n):(ic n s).1=(iI (bO s)).1/\∀j,(ic n s).2.getD j 0=(iI (bO s)).2.getD j 0:=by
 unfold ic iI;rw[if_pos ⟨h,h2⟩];by_cases z:nb (bO s) =true
 . rw[if_pos z,if_pos z];refine⟨rfl,fun j=>?_⟩;show _=(bO s).getD j 0;rw[S3 z];rfl
 . rw[if_neg z,if_neg z];exact⟨rfl,fun _=>rfl⟩
theorem Og(s:g8):(ic 8 s).1=(cW s).1/\∀j,(ic 8 s).2.getD j 0=(cW s).2.getD j 0:=by
 unfold cW;by_cases h:cL s=true/\s.length=16
 . rw[if_pos h];exact Bh h.1 (by have:=nv h.1;omega)
 . rw[if_neg h,show ic 8 s=(3,[]) from if_neg (fun q=>h ⟨q.1,by have:=nv q.1;omega⟩)];exact⟨rfl,fun _=>rfl⟩
def nV:g8:=[48,48,48,48,48,48,48,48,48,48,48,48,48,48,48,48]
theorem Z6(s:g8):cL (nV++s) =cL s/\bO (nV++s) =nH (bO s):=by
 refine⟨?_,?_⟩
 . simp only[nV,List.cons_append,List.nil_append,cL];simp[show ec 48=true from by decide]
 . simp only[nV,List.cons_append,List.nil_append,bO,nH,show qY 48 48=0 from by decide]
def tV(s:g8):g8:=if s.length=16 then nV++s else s
theorem Oh(s:g8):(ic 16 (tV s)).1=(cO s).1/\∀j,(ic 16 (tV s)).2.getD j 0=(cO s).2.getD j 0:=by
 unfold cO tV;by_cases h:s.length=16
 . rw[if_pos h,if_neg (fun q=>by omega)];obtain⟨h1,h2⟩:=Z6 s;by_cases h3:cL s=true
   . rw[if_pos ⟨h3,h⟩,<-h2];refine Bh (by rw[h1];exact h3) ?_;rw[h2,nH,an];have:=nv h3;show 8+_=16;omega
   . rw[if_neg (fun q=>h3 q.1),show ic 16 (nV++s) =(3,[]) from if_neg (fun q=>h3 (by rw[<-h1];exact q.1))];exact⟨rfl,fun _=>rfl⟩
 . rw[if_neg h];by_cases h2:cL s=true/\s.length=32
   . rw[if_pos h2];exact Bh h2.1 (by have:=nv h2.1;omega)
   . rw[if_neg h2,if_neg (fun q=>h q.2),show ic 16 s=(3,[]) from if_neg (fun q=>h2 ⟨q.1,by have:=nv q.1;omega⟩)];exact⟨rfl,fun _=>rfl⟩
def F3:Sm:=fun args σ=>match args,σ with
 |[.str s],[]=>some (s.length<=1000000,.tuple [.agg (lJ (cW s).2),.int .i64 (cW s).1],none)
 |_,_=>none
theorem TD:aq 71 F3:=by
 intro args sg pre x r he hp;unfold F3 at he;split at he<;>cases he
 . rename_i s;refine ai (C:=cx [(123,A9),(125,F5)]) (ak ⟨Kb,TF,trivial⟩) (fn:=Tryz.f71) fun hw hs=>?_;obtain⟨h1,h2⟩:=Og s;rw[show lJ (cW s).2=lJ (ic 8 s).2 from by simp only[lJ,h2],<-h1];have h3:=Bg 8 s;repeat'((conv=>whnf);apply af)
   all_goals try conv=>whnf
   all_goals try(refine ae.mk ?_;try dsimp only)
   . exact⟨hp,by decide⟩
   . omega
   . refine ab.mk [] ?_<;>(repeat' first|trivial)
def F4:Sm:=fun args σ=>match args,σ with
 |[.str s],[]=>some (s.length<=1000000,.tuple [.agg (mm (cO s).2),.int .i64 (cO s).1],none)
 |_,_=>none
theorem TE:aq 69 F4:=by
 intro args sg pre x r he hp;unfold F4 at he;split at he<;>cases he
 . rename_i s;refine ai (C:=cx [(123,A9),(124,F6)]) (ak ⟨Kb,TG,trivial⟩) (fn:=Tryz.f69) fun hw hs=>?_;obtain⟨h1,h2⟩:=Oh s;rw[show mm (cO s).2=mm (ic 16 (tV s)).2 from by simp only[mm,h2],<-h1];by_cases hl:s.length=16
   . rw[show tV s=nV++s from if_pos hl];have h3:=Bg 16 (nV++s);have h4:(nV++s).length=32:=by rw[an];show 16+_=_;omega
     repeat'((conv=>whnf);first|apply af|(apply aj<;>intro h))
     all_goals try conv=>whnf
     all_goals try(refine ae.mk ?_;try dsimp only)
     all_goals try(exfalso;omega)
     . show 16+_<=_;omega
     . exact⟨by show(nV++s).length<=_;omega,by decide⟩
     . exact Nat.le_trans h3 (by omega)
     . refine ab.mk [] ?_<;>(repeat' first|trivial)
   . rw[show tV s=s from if_neg hl];have h3:=Bg 16 s;repeat'((conv=>whnf);first|apply af|(apply aj<;>intro h))
     all_goals try conv=>whnf
     all_goals try(refine ae.mk ?_;try dsimp only)
     all_goals try(exfalso;omega)
     . exact⟨hp,by decide⟩
     . omega
     . refine ab.mk [] ?_<;>(repeat' first|trivial)
end Go.Proofs.YtknljebcgcmaeaaGreatDoor
