/-
  A part of the proof.
-/
import Derived.Test.YtchllohbglebiaaGreatDoorJNw
import Derived.Test.YtchllohbglebiaaGreatDoorJNd
import Derived.Test.YtchllohbglebiaaGreatDoorUTFe
set_option linter.unusedSimpArgs false
set_option linter.unusedVariables false
set_option maxHeartbeats 4000000
set_option maxRecDepth 100000
namespace Go.Proofs.YtchllohbglebiaaGreatDoor
open Go Go.VG
theorem Qx(c:Cu) (hp:c.ok/\c.s.length<=100000000):OK 88 ([.ptr 0 0]) ([.cells (eC c)]) (.str c.num.2) (some [.cells (eC c.num.1)]):=by
 refine aq (C:=rz [(129,AX),(41,mV)] [(2,[.cell 1 1 1])]) (ar ⟨JY,oh,trivial⟩) (fn:=Tryz.f88) fun hw hs=>?_;obtain⟨hp,hl⟩:=hp;repeat'((conv=>whnf);first|apply af|apply aK|(apply av<;>intro h)|apply oc)
 all_goals try conv=>whnf
 all_goals try(refine ae.mk ?_;try dsimp only)
 all_goals (try simp only[aV] at*)
 all_goals first|refine stay ?_|trivial|skip
 . unfold Cu.num;rw[if_pos (by assumption)];refine ab.mk [] ?_<;>(repeat' first|trivial)
 . unfold Cu.num;rw[if_neg (by assumption)];refine ab.mk [] ?_<;>(repeat' first|trivial)
def F8:Sm:=fun args σ=>match args,σ with
 |[.ptr 0 0],[.cells ([.str s_c,.int .i64 (.ofNat a_c),.int .i64 (.ofNat e_c),.int .i64 c_c])]=>some (True/\((Cu.mk s_c a_c e_c c_c).ok/\(Cu.mk s_c a_c e_c c_c).s.length<=100000000),.str (Cu.mk s_c a_c e_c c_c).num.2,some [.cells (eC (Cu.mk s_c a_c e_c c_c).num.1)])
 |_,_=>none
theorem U0:ax 88 F8:=by
 intro args sg pre x r he hp;unfold F8 at he;split at he<;>cases he
 . rw[dJ (hp).1];exact Qx (hp:=hp.2) ..
theorem Ow{c:Cu} (hk:c.ok) (h:c.has) (hb:dx c.aw=true):c.byte.dw=c.dw:=by
 obtain⟨b1,b2⟩:=jf h.1 h.2;have hl:=ja hk;have hp:c.p<c.ai.length:=by have:=h.2;omega
 rw[b2] at hb;unfold Cu.dw;rw[b1,if_pos (show({c with p:=c.p+1}:Cu).c=0 from h.1),if_pos h.1];have e:Cu.ai {c with p:=c.p+1}=c.ai:=rfl;rw[e,Mh hp hb]
theorem Hi{c:Cu} (hk:c.ok) (h:¬c.has\/dx c.aw=false):c.dw=c:=by
 have hl:=ja hk;unfold Cu.dw;by_cases h0:c.c=0
 . rw[if_pos h0];have:dP dx c.ai c.p=c.p:=by
    by_cases hp:c.p<c.e
    . obtain⟨_,b2⟩:=jf h0 hp;rcases h with h|h
      . exact absurd ⟨h0,hp⟩ h
      . rw[b2] at h;exact xE (.inr h)
    . exact xE (.inl (by have:=hk.1;omega))
   rw[this]
 . rw[if_neg h0]
theorem Hj{b:UInt8}:dx b=true↔b.toNat=32\/b.toNat=9\/b.toNat=10\/b.toNat=13:=by simp[dx]
theorem C8{b:UInt8}:dx b=false↔¬(b.toNat=32\/b.toNat=9\/b.toNat=10\/b.toNat=13):=by rw[<-Hj,Bool.not_eq_true]
theorem QM(c:Cu) (hp:c.ok):OK 82 ([.ptr 0 0]) ([.cells (eC c)]) (.tuple []) (some [.cells (eC c.dw)]):=by
 refine aq (C:=cx [(83,qT),(85,mU)]) (ar ⟨uf,og,trivial⟩) (fn:=Tryz.f82) fun hw hs=>?_;refine aZ.mk Cu (fun d=>d.ok/\d.dw=c.dw) (fun d=>⟨29,[(0,.ptr 0 0)],[.cells (eC d)],[]⟩) (fun d=>d.e-d.p) [] c ⟨hp,rfl⟩ ?_ (fun d ⟨hd,he⟩ _ _=>?_)
 . apply ay<;>(repeat' first|trivial)
 have hb:d.aw.toNat<256:=d.aw.toNat_lt;have hbo:=oz hd 1;have hbk:d.byte.ok:=hbo.1;repeat'((conv=>whnf);first|apply af|apply aK|(apply av<;>intro h))
 all_goals try conv=>whnf
 all_goals try(refine ae.mk ?_;try dsimp only)
 all_goals (try simp only[aV] at*)
 all_goals first|refine stay ?_|trivial|skip
 all_goals first
  | (have hh:d.has:=by assumption
     have hx:=Ow hd hh (Hj.2 (by omega));have hy:=(jf hh.1 hh.2).1;refine⟨[],d.byte,⟨hbk,hx.trans he⟩,?_,by have:=hh.2;rw[hy];show d.e-(d.p+1)<d.e-d.p;omega⟩;apply ay<;>(repeat' first|trivial)
     )
  | (have hx:=Hi hd (.inl (by assumption))
     rw[<-he,hx];refine ab.mk [] ?_<;>(repeat' first|trivial)
     )
  | (have hx:=Hi hd (.inr (C8.2 (by omega)))
     rw[<-he,hx];refine ab.mk [] ?_<;>(repeat' first|trivial)
     )
  |skip
def Fo:Sm:=fun args σ=>match args,σ with
 |[.ptr 0 0],[.cells ([.str s_c,.int .i64 (.ofNat a_c),.int .i64 (.ofNat e_c),.int .i64 c_c])]=>some (True/\((Cu.mk s_c a_c e_c c_c).ok),.tuple [],some [.cells (eC (Cu.mk s_c a_c e_c c_c).dw)])
 |_,_=>none
theorem Ud:ax 82 Fo:=by
 intro args sg pre x r he hp;unfold Fo at he;split at he<;>cases he
 . rw[dJ (hp).1];exact QM (hp:=hp.2) ..
theorem QP(b:UInt8) (hp:True):OK 84 ([bv b,.list true 1 [.int .u8 123,.int .u8 125,.int .u8 91,.int .u8 93,.int .u8 58,.int .u8 44]]) ([]) (.bool (ec b)) (none):=by
 refine aq (C:=cx []) (ar trivial) (fn:=Tryz.f84) fun hw hs=>?_;have hb:b.toNat<256:=b.toNat_lt;have hl:([123,125,91,93,58,44]:gA).length=6:=rfl;refine aZ.mk Nat (fun i=>i<=6/\∀j,j<i->([123,125,91,93,58,44]:gA).getD j 0≠b) (fun i=>⟨17,[(0,bv b),(7,.list true 1 (bl [123,125,91,93,58,44])),(8,.int .i64 6),(9,.int .i64 i)],[],[]⟩) (fun i=>6-i) [] 0 ⟨by omega,fun j hj=>absurd hj (by omega)⟩ ?_ (fun i ⟨hi,hj⟩ _ _=>?_)
 . apply ay<;>(repeat' first|trivial)
 have hx:(([123,125,91,93,58,44]:gA).getD i 0).toNat<256:=UInt8.toNat_lt _;have hin:∀j,j<6->ec (([123,125,91,93,58,44]:gA).getD j 0) =true:=by decide
 have hno:i=6->ec b=false:=fun e=>by
  cases q:ec b with
  |false=>rfl
  |true=>
    have h:∀n:Nat,n<256->ec (.ofNat n) =true->∃j,j<6/\([123,125,91,93,58,44]:gA).getD j 0=.ofNat n:=by decide+kernel
    obtain⟨j,h1,h2⟩:=h b.toNat hb (by rw[UInt8.ofNat_toNat];exact q);rw[UInt8.ofNat_toNat] at h2;exact absurd h2 (hj j (by omega))
 repeat'((conv=>whnf);first|apply af|(apply av<;>intro h)|with_reducible refine goB ?_ fun hc=>?_)
 all_goals try conv=>whnf
 all_goals try(refine ae.mk ?_;try dsimp only)
 all_goals (try simp only[aV] at*)
 all_goals first|refine stay ?_|omega|skip
 . have e:([123,125,91,93,58,44]:gA).getD i 0=b:=UInt8.toNat_inj.1 (by omega);have:=hin i (by omega);rw[e] at this;rw[this];refine ab.mk [] ?_<;>(repeat' first|trivial)
 . refine⟨[],i+1,⟨by omega,fun j hjj=>?_⟩,?_,by omega⟩
   . by_cases e:j=i
     . subst e;intro e;have:=congrArg UInt8.toNat e;omega
     . exact hj j (by omega)
   . apply ay<;>(repeat' first|trivial|apply ah|apply aN)
     all_goals (simp(discharger:=omega) only[wR];omega)
 . rw[hno (by omega)];refine ab.mk [] ?_<;>(repeat' first|trivial)
def Fq:Sm:=fun args σ=>match args,σ with
 |[.int .u8 n_b,.list true 1 [.int .u8 123,.int .u8 125,.int .u8 91,.int .u8 93,.int .u8 58,.int .u8 44]],[]=>some ((0<=n_b/\n_b<=255)/\(True),.bool (ec (byte n_b)),none)
 |_,_=>none
theorem Uf:ax 84 Fq:=by
 intro args sg pre x r he hp;unfold Fq at he;split at he<;>cases he
 . rw[l7 (hp).1];exact QP (hp:=hp.2) ..
theorem QQ(k:UInt8) (hp:True):OK 90 ([bv k]) ([]) (.str (spell k)) (none):=by
 refine aq (C:=cx []) (ar trivial) (fn:=Tryz.f90) fun hw hs=>?_;have hb:k.toNat<256:=k.toNat_lt;repeat'((conv=>whnf);(apply av<;>intro h))
 all_goals try conv=>whnf
 all_goals try(refine ae.mk ?_;try dsimp only)
 all_goals (try simp only[aV] at*)
 all_goals try refine stay ?_
 all_goals
  unfold spell
  repeat (first|rw[if_pos (by omega)]|rw[if_neg (by omega)])
  refine ab.mk [] ?_<;>(repeat' first|trivial)
def Fs:Sm:=fun args σ=>match args,σ with
 |[.int .u8 n_k],[]=>some ((0<=n_k/\n_k<=255)/\(True),.str (spell (byte n_k)),none)
 |_,_=>none
theorem Ug:ax 90 Fs:=by
 intro args sg pre x r he hp;unfold Fs at he;split at he<;>cases he
 . rw[l7 (hp).1];exact QQ (hp:=hp.2) ..
abbrev eT(t:Tk):List V:=[.int .u8 t.k.toNat,.str t.t]
theorem QN(c:Cu) (k:UInt8) (t:gA) (hp:True):OK 87 ([.ptr 0 0,.agg [bv k,.str t]]) ([.cells (eC c)]) (.agg (eT (if c.c=0 then⟨k,t⟩ else .no))) (none):=by
 refine aq (C:=cx [(41,mV)]) (ar ⟨oh,trivial⟩) (fn:=Tryz.f87) fun hw hs=>?_;have hb:k.toNat<256:=k.toNat_lt;have hbb:byte k.toNat=k:=eX _;repeat'((conv=>whnf);first|apply af|apply aK|(apply av<;>intro h))
 all_goals try conv=>whnf
 all_goals try(refine ae.mk ?_;try dsimp only)
 all_goals (try simp only[aV] at*)
 all_goals first|refine stay ?_|trivial|skip
 all_goals
  first|rw[if_pos (by assumption)]|rw[if_neg (by assumption)]
  refine ab.mk [] ?_<;>(repeat' first|trivial)
def Fp:Sm:=fun args σ=>match args,σ with
 |[.ptr 0 0,.agg [.int .u8 n_k,.str t]],[.cells ([.str s_c,.int .i64 (.ofNat a_c),.int .i64 (.ofNat e_c),.int .i64 c_c])]=>some ((0<=n_k/\n_k<=255)/\(True/\(True)),.agg (eT (if(Cu.mk s_c a_c e_c c_c).c=0 then⟨(byte n_k),t⟩ else .no)),none)
 |_,_=>none
theorem Ue:ax 87 Fp:=by
 intro args sg pre x r he hp;unfold Fp at he;split at he<;>cases he
 . rw[l7 (hp).1];rw[dJ (hp.2).1];exact QN (hp:=hp.2.2) ..
theorem NJ(b:UInt8) (s:gA) (c:Cu):c.word (b::s) =if c.aw≠b then(c.byte.fail 3,false) else c.byte.word s:=rfl
theorem Zy(c:Cu):c.word []=(c,true):=rfl
theorem QR(c:Cu) (k:UInt8) (t:gA) (hp:c.ok/\t.length<=100):OK 89 ([.ptr 0 0,bv k,.str t]) ([.cells (eC c)]) (.agg (eT (if(c.word t).2=true then⟨k,[]⟩ else .no))) (some [.cells (eC (c.word t).1)]):=by
 refine aq (C:=cx [(85,mU),(91,nE)]) (ar ⟨og,p9,trivial⟩) (fn:=Tryz.f89) fun hw hs=>?_;obtain⟨hp,hl⟩:=hp;have hk:k.toNat<256:=k.toNat_lt;have hkk:byte k.toNat=k:=eX _;all_goals try conv=>whnf
 all_goals try(refine ae.mk ?_;try dsimp only)
 all_goals try refine stay ?_
 refine aZ.mk (Nat×Cu) (fun|(i,d) =>i<=t.length/\d.ok/\d.word (t.drop i) =c.word t) (fun|(i,d) =>⟨25,[(0,.ptr 0 0),(1,bv k),(2,.str t),(6,.ptr 1 0),(9,.int .i64 t.length),(10,.int .i64 i)],[.cells (eC d),.cells [.int .u8 0,.str []]],[]⟩) (fun x=>t.length-x.1) [] (0,c) ⟨by omega,hp,rfl⟩ ?_ (fun⟨i,d⟩ ⟨hi,hd,he⟩ _ _=>?_)
 . apply ay<;>(repeat' first|trivial)
 have hb:d.aw.toNat<256:=d.aw.toNat_lt;have hx:(t.getD i 0).toNat<256:=UInt8.toNat_lt _;have hbo:=(oz hd 1).1;have hdr:i<t.length->t.drop i=t.getD i 0::t.drop (i+1):=fun h=>by
  rw[List.drop_eq_getElem_cons h,ac,am h];rfl
 repeat'((conv=>whnf);first|apply af|apply aK|(apply av<;>intro h)|with_reducible refine fG ?_ fun hc=>?_)
 all_goals try conv=>whnf
 all_goals try(refine ae.mk ?_;try dsimp only)
 all_goals (try simp only[aV] at*)
 all_goals first|refine stay ?_|trivial|omega|skip
 . rw[hdr (by omega),NJ,if_neg (fun e=>e (UInt8.toNat_inj.1 (by omega)))] at he;refine⟨[],(i+1,d.byte),⟨by omega,hbo,he⟩,?_,by show t.length-(i+1)<t.length-i;omega⟩;apply ay<;>(repeat' first|trivial|apply ah|apply aN)
   all_goals (simp(discharger:=omega) only[wR];omega)
 . rw[hdr (by omega),NJ,if_pos (fun e=>by have:=congrArg UInt8.toNat e;omega)] at he;rw[<-he];refine ab.mk [] ?_<;>(repeat' first|trivial)
 . rw[List.drop_eq_nil_of_le (by omega),Zy] at he;rw[<-he];refine ab.mk [] ?_<;>(repeat' first|trivial)
def Ft:Sm:=fun args σ=>match args,σ with
 |[.ptr 0 0,.int .u8 n_k,.str t],[.cells ([.str s_c,.int .i64 (.ofNat a_c),.int .i64 (.ofNat e_c),.int .i64 c_c])]=>some ((0<=n_k/\n_k<=255)/\(True/\((Cu.mk s_c a_c e_c c_c).ok/\t.length<=100)),.agg (eT (if((Cu.mk s_c a_c e_c c_c).word t).2=true then⟨(byte n_k),[]⟩ else .no)),some [.cells (eC ((Cu.mk s_c a_c e_c c_c).word t).1)])
 |_,_=>none
theorem Uh:ax 89 Ft:=by
 intro args sg pre x r he hp;unfold Ft at he;split at he<;>cases he
 . rw[l7 (hp).1];rw[dJ (hp.2).1];exact QR (hp:=hp.2.2) ..
theorem QO(c:Cu) (hp:c.ok/\c.s.length<=60000000):OK 40 ([.ptr 0 0]) ([.cells (eC c)]) (.agg (eT c.next.2)) (some [.cells (eC c.next.1)]):=by
 refine aq (C:=cx [(82,Fo),(83,qT),(84,Fq),(85,mU),(86,Fk),(87,Fp),(88,F8),(90,Fs),(89,Ft),(91,nE)]) (ar ⟨Ud,uf,Uf,og,Ub,Ue,U0,Ug,Uh,p9,trivial⟩) (fn:=Tryz.f40) fun hw hs=>?_;obtain⟨hp,hl⟩:=hp;have hbk:=Hh hp;have hbs:c.dw.s=c.s:=by unfold Cu.dw;split<;>rfl
 have hb:c.dw.aw.toNat<256:=c.dw.aw.toNat_lt;have hbb:byte c.dw.aw.toNat=c.dw.aw:=eX _;repeat'((conv=>whnf);first|apply af|apply aK|(apply av<;>intro h))
 all_goals try conv=>whnf
 all_goals try(refine ae.mk ?_;try dsimp only)
 all_goals (try simp only[aV] at*)
 all_goals first|refine stay ?_|trivial|(simp(discharger:=omega) [-List.getD_eq_getElem?_getD,wR]<;>omega)|skip
 all_goals (try simp only[hbb] at*)
 all_goals first
  |exact⟨trivial,hbk⟩
  |exact⟨trivial,hbk,by rw[hbs];omega⟩
  |exact⟨by omega,trivial⟩
  |(exfalso;omega)
  |skip
 all_goals
  have hh:c.dw.has\/¬c.dw.has:=Decidable.em _;have sT:ec c.dw.aw=true↔(c.dw.aw.toNat=123\/c.dw.aw.toNat=125\/c.dw.aw.toNat=91\/c.dw.aw.toNat=93\/c.dw.aw.toNat=58\/c.dw.aw.toNat=44):=decide_eq_true_iff;have dT:=oP (b:=c.dw.aw);unfold Cu.next Cu.xR;first
  |rw[if_pos (show¬c.dw.has by assumption)]
  |rw[if_neg (fun q=>q (show c.dw.has by assumption))]
  repeat (first|rw[if_pos (by rw[sT];omega)]|rw[if_neg (by rw[sT];omega)]|rw[if_pos (by rw[dT];omega)]|rw[if_neg (by rw[dT];omega)]|rw[if_pos (by omega)]|rw[if_neg (by omega)])
  try unfold held Cu.vo
  try rw[show(byte 116).toNat=116 from rfl]
  refine ab.mk [] ?_<;>(repeat' first|trivial)
def uS:Sm:=fun args σ=>match args,σ with
 |[.ptr 0 0],[.cells ([.str s_c,.int .i64 (.ofNat a_c),.int .i64 (.ofNat e_c),.int .i64 c_c])]=>some (True/\((Cu.mk s_c a_c e_c c_c).ok/\(Cu.mk s_c a_c e_c c_c).s.length<=60000000),.agg (eT (Cu.mk s_c a_c e_c c_c).next.2),some [.cells (eC (Cu.mk s_c a_c e_c c_c).next.1)])
 |_,_=>none
theorem zo:ax 40 uS:=by
 intro args sg pre x r he hp;unfold uS at he;split at he<;>cases he
 . rw[dJ (hp).1];exact QO (hp:=hp.2) ..
theorem ZW(s:gA) (hs:s.length<=100000000):OK 173 [.str s] [] (.str (quote s)) none:=by
 refine aq (C:=cx [(176,Fz)]) (ar ⟨Um,trivial⟩) (fn:=Tryz.f173) fun _ _=>?_;refine aZ.mk Nat (fun i=>i<=s.length) (fun i=>⟨45,[(0,.str s),(3,.str (34::eR (s.take i))),(4,.int .i64 i)],[],[]⟩) (fun i=>s.length-i) [] 0 (bu _) ?_ (fun i hi _ _=>?_)
 . apply ay<;>(repeat' first|trivial)
 have hcut:(s.take (IntKind.i64.wrap ((i:Int)+1)).toNat).drop ((i:Int).toNat)=if i<s.length then[s.getD i 0] else(s.take (IntKind.i64.wrap ((i:Int)+1)).toNat).drop ((i:Int).toNat):=by
  split
  . rw[show(IntKind.i64.wrap ((i:Int)+1)).toNat=i+1 by(simp(discharger:=omega) only[wR];omega)];exact vR 0 (by assumption)
  . rfl
 have hq:=Ej (s.take i);rw[d8] at hq;repeat'((conv=>whnf);first|apply af|(apply av<;>intro h)|with_reducible refine fG ?_ fun hc=>?_)
 all_goals try conv=>whnf
 all_goals try(refine ae.mk ?_;try dsimp only)
 all_goals (try rw[hcut,if_pos (by omega)])
 all_goals first|refine stay ?_|omega|(simp(discharger:=omega) only[wR];omega)|(simp only[fi,fH];omega)|skip
 all_goals first
  |(exfalso;omega)
  | (refine ⟨[],i + 1,by omega,?_,by omega⟩
     apply ay<;>(repeat' first|trivial|apply ah|apply eF|apply aN|apply cT)
     . rw[M0 (by omega)];unfold me;first
       |(rw[if_pos (by omega)];simp;done)
       |(rw[if_neg (by omega),if_pos (by omega)];simp;done)
       |(rw[if_neg (by omega),if_neg (by omega)];simp;done)
     . (simp(discharger:=omega) only[wR];omega)
    )
  |skip
 refine ab.mk [] ?_<;>(repeat' first|trivial|apply ah|apply eF|apply cT)
 rw[eo (by omega)];rfl
def aa1:Sm:=fun args σ=>match args,σ with
 |[.str s],[]=>some (s.length<=100000000,.str (quote s),none)
 |_,_=>none
theorem Pz(l:List V) (t:gA) (h:l.length+t.length<=4000000000):OK 108 [.str t,.ptr 0 0] [.cells [.buf 1],.buf 1 0 l] (.tuple []) (some [.cells [.buf 1],.buf 1 0 (l++bl t)]):=by
 refine aq (C:=cx []) (ar trivial) (fn:=Tryz.f108) fun _ _=>?_;repeat'((conv=>whnf);apply af)
 all_goals try conv=>whnf
 all_goals try(refine ae.mk ?_;try dsimp only)
 all_goals first|refine stay ?_|(simp only[fi,fH];omega)|skip
 refine ab.mk [] ?_<;>(repeat' first|trivial)
def EH:Sm:=fun args σ=>match args,σ with
 |[.str t,.ptr 0 0],[.cells [.buf 1],.buf 1 0 l]=>some (l.length+t.length<=4000000000,.tuple [],some [.cells [.buf 1],.buf 1 0 (l++bl t)])
 |_,_=>none
theorem Tz:ax 108 EH:=by
 intro args sg pre x r he hp;unfold EH at he;split at he<;>cases he;exact Pz _ _ hp
theorem Q2(s:gA) (l:List V) (hs:s.length<=100000000) (hl:l.length<=3000000000):OK 107 [.str s,.func (.func 108) [] [.ptr 0 0]] [.cells [.buf 1],.buf 1 0 l] (.tuple []) (some [.cells [.buf 1],.buf 1 0 (l++bl (quote s))]):=by
 refine aq (C:=cx [(108,EH),(111,xK)]) (ar ⟨Tz,Da,trivial⟩) (fn:=Tryz.f107) fun _ _=>?_;repeat'((conv=>whnf);apply af)
 all_goals try conv=>whnf
 all_goals try(refine ae.mk ?_;try dsimp only)
 all_goals first|refine stay ?_|(simp only[fi,fH];omega)|skip
 refine aZ.mk Nat (fun i=>i<=s.length) (fun i=>⟨53,[(0,.str s),(1,.func (.func 108) [] [.ptr 0 0]),(9,.int .i64 s.length),(10,.int .i64 i)],[.cells [.buf 1],.buf 1 0 (l++bl (34::eR (s.take i)))],[1]⟩) (fun i=>s.length-i) [] 0 (bu _) ?_ (fun i hi _ _=>?_)
 . apply ay<;>(repeat' first|trivial)
 have hcut:(s.take (IntKind.i64.wrap ((i:Int)+1)).toNat).drop ((i:Int).toNat)=if i<s.length then[s.getD i 0] else(s.take (IntKind.i64.wrap ((i:Int)+1)).toNat).drop ((i:Int).toNat):=by
  split
  . rw[show(IntKind.i64.wrap ((i:Int)+1)).toNat=i+1 by(simp(discharger:=omega) only[wR];omega)];exact vR 0 (by assumption)
  . rfl
 have hq:=Ej (s.take i);rw[d8] at hq;repeat'((conv=>whnf);first|apply af|(apply av<;>intro h)|with_reducible refine fG ?_ fun hc=>?_)
 all_goals try conv=>whnf
 all_goals try(refine ae.mk ?_;try dsimp only)
 all_goals (try rw[hcut,if_pos (by omega)])
 all_goals first|refine stay ?_|omega|(simp(discharger:=omega) only[wR];omega)|(simp only[fi,fH];omega)|skip
 all_goals first
  | (refine ⟨[],i + 1,by omega,?_,by omega⟩
     apply ay<;>(repeat' first|trivial|apply ah|apply aN|apply bc)
     . (simp(discharger:=omega) only[wR];omega)
     . rw[M0 (by omega),eg,<-eE];refine congrArg (fun x=>l++bl x) ?_;unfold me;first
       |(rw[if_pos (by omega)];simp;done)
       |(rw[if_neg (by omega),if_pos (by omega)];simp;done)
       |(rw[if_neg (by omega),if_neg (by omega)];simp;done)
    )
  |skip
 refine ab.mk [] ?_<;>(repeat' first|trivial|apply ah|apply bc)
 rw[eo (by omega),eg,<-eE];rfl
def AK:Sm:=fun args σ=>match args,σ with
 |[.str s,.func (.func 108) [] [.ptr 0 0]],[.cells [.buf 1],.buf 1 0 l]=>some (s.length<=100000000/\l.length<=3000000000,.tuple [],some [.cells [.buf 1],.buf 1 0 (l++bl (quote s))])
 |_,_=>none
theorem JN:ax 107 AK:=by
 intro args sg pre x r he hp;unfold AK at he;split at he<;>cases he;exact Q2 _ _ hp.1 hp.2
theorem Ip(s:gA) (l:List V) (hs:s.length<=100000000) (hl:l.length<=3000000000):OK 58 [.buf 0,.str s] [.buf 1 0 l] (.buf 0) (some [.buf 1 0 (l++bl (quote s))]):=by
 refine aq (C:=cx [(107,AK)]) (ar ⟨JN,trivial⟩) (fn:=Tryz.f58) fun _ _=>?_;repeat'((conv=>whnf);apply af)
 all_goals try conv=>whnf
 all_goals try(refine ae.mk ?_;try dsimp only)
 all_goals first|refine stay ?_|(simp(discharger:=omega) only[wR];omega)|(simp(discharger:=omega) [-List.getD_eq_getElem?_getD,wR]<;>omega)|skip
 refine ab.mk [.swap 0 1] ?_<;>(repeat' first|trivial|apply ah|apply bc)
 simp
theorem QL(c:Bool) (l:List V) (s:gA) (hs:s.length<=100000000) (hl:l.length<=3000000000):OK 58 [.list c 1 l,.str s] [] (.buf 0) (some [.buf 1 0 (l++bl (quote s))]):=by
 refine aq (C:=cx [(107,AK)]) (ar ⟨JN,trivial⟩) (fn:=Tryz.f58) fun _ _=>?_;repeat'((conv=>whnf);apply af)
 all_goals try conv=>whnf
 all_goals try(refine ae.mk ?_;try dsimp only)
 all_goals first|refine stay ?_|(simp(discharger:=omega) only[wR];omega)|(simp(discharger:=omega) [-List.getD_eq_getElem?_getD,wR]<;>omega)|skip
 refine ab.mk [] ?_<;>(repeat' first|trivial|apply ah|apply bc)
 simp
def xL:Sm:=fun args σ=>match args,σ with
 |[.buf 0,.str s],[.buf 1 0 l]=>some (s.length<=100000000/\l.length<=3000000000,.buf 0,some [.buf 1 0 (l++bl (quote s))])
 |[.list true _ [],.str s],[]=>some (s.length<=100000000,.buf 0,some [.buf 1 0 (bl (quote s))])
 |[.list _ 1 l,.str s],[]=>some (s.length<=100000000/\l.length<=3000000000,.buf 0,some [.buf 1 0 (l++bl (quote s))])
 |_,_=>none
theorem Db:ax 58 xL:=by
 intro args sg pre x r he hp;unfold xL at he;split at he<;>cases he
 . exact Ip _ _ hp.1 hp.2
 . exact eU.nil 0 _ 0 rfl (Ip _ [] hp (by simp))
 . exact QL _ _ _ hp.1 hp.2
theorem Mc(t:gA):∀(n i:Nat) (o:gA),(dI t n i o).1=0->i<(dI t n i o).2.1/\(dI t n i o).2.1<=t.length
 |0,_,_,h=>by rw[dI] at h;simp at h
 |n+1,i,o,h=>by
   rw[dI] at h⊢;by_cases a:t.length<=i
   . rw[if_pos a] at h;simp at h
   rw[if_neg a] at h⊢;by_cases b:(t.getD i 0).toNat=34
   . rw[if_pos b];exact⟨by show i<i+1;omega,by show i+1<=_;omega⟩
   rw[if_neg b] at h⊢;by_cases c:(da t i).2.2≠0
   . rw[if_pos c] at h;exact absurd h c
   rw[if_neg c] at h⊢;have h1:=Mc t n (da t i).2.1.toNat _ h;have h2:=X0 t i (by omega);omega
theorem DE(t:gA) (i:Nat) (h:(dG t i).2=0):i<(dG t i).1:=by
 revert h;unfold dG;repeat' split
 all_goals (intro h;first|(dsimp only;omega)|(exfalso;simp at h))
theorem Lu(t:gA) (i:Nat) (hi:i<=t.length) (h:(cE t i).2=0):i<(cE t i).1:=by
 have h1:=sE t i 45 45 hi;have w:(aP t i).2=0->i<(aP t i).1/\(aP t i).1<=t.length:=by
  unfold aP;split
  . rename_i q;have:=(j6.1 q).1;intro _;dsimp only;omega
  . intro h;have:=DE t _ h;have:=qH t _ h1.2;omega
 have b:(bT t (aP t i)).2=0->i<(bT t (aP t i)).1/\(bT t (aP t i)).1<=t.length:=by
  generalize aP t i=x at*;unfold bT;split
  . rename_i q;intro h;have:=(j6.1 q.2).1;have:=w q.1;have:=DE t _ h;have:=qH t (x.1+1) (by omega);omega
  . exact w
 revert h;unfold cE;generalize bT t (aP t i) =x at*;unfold ke;split
 . rename_i q;intro h;have:=b q.1;have:=(j6.1 q.2).1;have:=sE t (x.1+1) 43 45 (by omega);have:=DE t _ h;omega
 . exact fun h=>(b h).1
theorem Ll{c:Cu} (hk:c.ok) (h:c.cg.1.c=0):c.cg.1.ok/\c.cg.1.s=c.s/\c.cg.1.e=c.e/\c.c=0/\c.p<=c.cg.1.p/\(c.cg.2.k≠0->c.p<c.cg.1.p):=by
 have hl:=ja hk;unfold Cu.cg at h⊢;by_cases h0:c.c=0
 . rw[if_neg (by omega)] at h⊢;have hr:=xD dx c.ai c.p;have hp:=hk.1;have hd:Cu.ok {c with p:=dP dx c.ai c.p}:=⟨by show dP dx c.ai c.p<=c.e;omega,hk.2⟩
   have hr1:c.p<=({c with p:=dP dx c.ai c.p}:Cu).p:=hr.1;have e1:({c with p:=dP dx c.ai c.p}:Cu).s=c.s:=rfl;have e2:({c with p:=dP dx c.ai c.p}:Cu).e=c.e:=rfl;have e3:({c with p:=dP dx c.ai c.p}:Cu).c=0:=h0;generalize ({c with p:=dP dx c.ai c.p}:Cu) =d at*;have hdl:=ja hd;have fl:∀k:Int,k≠0->(d.fail k).c≠0:=fun k hk=>by rw[jJ _ e3];exact hk
   rw[<-e1,<-e2];unfold Cu.j8 at h⊢;by_cases a:d.p=d.e
   . rw[if_pos a];exact⟨hd,rfl,rfl,h0,hr1,fun k=>absurd rfl k⟩
   rw[if_neg a] at h⊢;have hlt:d.p<d.e:=by have:=hd.1;omega
   have cW:∀n,d.p+n<=d.e->0<n->Cu.ok {d with p:=d.p+n}/\c.p<=d.p+n/\c.p<d.p+n:=fun n hn h0=>⟨⟨hn,hd.2⟩,by omega,by omega⟩
   by_cases b:ec d.get=true
   . rw[if_pos b];exact⟨(cW 1 (by omega) (by omega)).1,rfl,rfl,h0,by show c.p<=d.p+1;omega,fun _=>by show c.p<d.p+1;omega⟩
   rw[if_neg b] at h⊢;by_cases g:d.get.toNat=34
   . rw[if_pos g] at h⊢;unfold held Cu.jB at h⊢;rw[if_neg (by omega),if_neg a,if_neg (by omega)] at h⊢;by_cases z:(dI (d.s.take d.e) (d.e-d.p) (d.p+1) []).1=0
     . rw[if_pos z];have:=Mc _ _ _ _ z;have hlen:(d.s.take d.e).length=d.e:=hdl;generalize dI (d.s.take d.e) (d.e-d.p) (d.p+1) []=R at*;refine⟨⟨by show R.2.1<=d.e;omega,hd.2⟩,rfl,rfl,h0,by show c.p<=R.2.1;omega,fun _=>by show c.p<R.2.1;omega⟩
     . rw[if_neg z] at h;exact absurd h (fl _ z)
   rw[if_neg g] at h⊢;by_cases f:d.get.toNat=45\/bq d.get=true
   . rw[if_pos f] at h⊢;unfold held Cu.mP at h⊢;rw[if_neg (by omega)] at h⊢;by_cases z:(cE d.ai d.p).2=0
     . rw[if_neg (by omega)];have q1:=Lu d.ai d.p (by omega) z;have q2:=zW d.ai d.p (by omega);generalize cE d.ai d.p=R at*;refine⟨⟨by show R.1<=d.e;omega,hd.2⟩,rfl,rfl,h0,by show c.p<=R.1;omega,fun _=>by show c.p<R.1;omega⟩
     . rw[if_pos z] at h;exact absurd h (fl _ z)
   rw[if_neg f] at h⊢;have hw:∀k,0<(spell k).length->(d.fv k).1.c=0->(d.fv k).1.ok/\(d.fv k).1.s=d.s/\(d.fv k).1.e=d.e/\c.c=0/\c.p<=(d.fv k).1.p/\((d.fv k).2.k≠0->c.p<(d.fv k).1.p):=fun k hsp h=>by
    have hwe:∀(s:gA) (i:Nat),jG d s i=0->s=[]\/d.p+i+s.length<=d.e:=by
     intro s
     induction s with
     |nil=>intro i _;exact .inl rfl
     |cons b s ih=>
       intro i hi;unfold jG at hi;split at hi
       . simp at hi
       . split at hi
         . simp at hi
         . right;rcases ih (i+1) hi with e|e
           . subst e;simp;omega
           . simp;omega
    unfold Cu.fv at h⊢;by_cases z:jG d (spell k) 0=0
    . rw[if_neg (by omega)];refine⟨⟨?_,hd.2⟩,rfl,rfl,h0,by show c.p<=d.p+(spell k).length;omega,fun hk0=>?_⟩
      . rcases hwe _ _ z with e|e
        . rw[e];exact hd.1
        . show d.p+(spell k).length<=d.e;omega
      . show c.p<d.p+(spell k).length;omega
    . rw[if_pos z] at h;exact absurd h (fl _ z)
   by_cases w:d.get.toNat=116\/d.get.toNat=102
   . rw[if_pos w] at h⊢;refine hw _ ?_ h;unfold spell;rcases w with w|w<;>simp[w]
   rw[if_neg w] at h⊢;by_cases v:d.get.toNat=110
   . rw[if_pos v] at h⊢;exact hw _ (by decide) h
   rw[if_neg v] at h;exact absurd h (fl 3 (by decide))
 . rw[if_pos h0] at h;exact absurd h h0
def fP(t:Tk):gA:=if t.k.toNat=115 then quote t.t else if t.k.toNat=110 then t.t else if ec t.k=true then[t.k] else spell t.k
end Go.Proofs.YtchllohbglebiaaGreatDoor
