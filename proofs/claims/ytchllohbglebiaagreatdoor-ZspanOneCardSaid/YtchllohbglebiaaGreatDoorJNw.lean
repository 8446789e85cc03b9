/-
  A part of the proof.
-/
import Derived.Test.YtchllohbglebiaaGreatDoorJNd
set_option linter.unusedSimpArgs false
set_option linter.unusedVariables false
set_option maxHeartbeats 4000000
set_option maxRecDepth 100000
namespace Go.Proofs.YtchllohbglebiaaGreatDoor
open Go Go.VG
theorem oP{b:UInt8}:bq b=true↔48<=b.toNat/\b.toNat<=57:=by simp[bq]
theorem vV{b:UInt8}:bq b=false↔¬(48<=b.toNat/\b.toNat<=57):=by rw[<-oP,Bool.not_eq_true]
theorem HV{c:Cu} (h:c.ok) (s:gA):(c.mD s).ok/\(c.mD s).s=c.s/\(c.mD s).e=c.e:=by
 unfold Cu.mD;split
 . exact oz h 1
 . exact⟨h,rfl,rfl⟩
theorem Pc(c:Cu) (s:gA):(c.nV s).length<=1:=by unfold Cu.nV;split<;>simp
theorem HN:∀(n:Nat) (c:Cu) (o:gA),c.ok->(fT n c o).1.ok/\(fT n c o).1.s=c.s/\(fT n c o).1.e=c.e/\(fT n c o).2.length<=o.length+n+1
 |0,c,o,h=>by
   have hb:=oz h 1;rw[fT];exact⟨hb.1,hb.2.1,hb.2.2,by simp⟩
 |n+1,c,o,h=>by
   have hb:=oz h 1;rw[fT];split
   . have:=HN n c.byte (o++[c.aw]) hb.1;refine⟨this.1,this.2.1.trans hb.2.1,this.2.2.1.trans hb.2.2,?_⟩;have:=this.2.2.2;simp at this;omega
   . exact⟨hb.1,hb.2.1,hb.2.2,by simp⟩
theorem Co{c:Cu} (h:c.ok):c.aY.1.ok/\c.aY.1.s=c.s/\c.aY.1.e=c.e/\c.aY.2.length<=c.e+1:=by
 unfold Cu.aY;split
 . have:=HN (c.e-c.p) c [] h;refine⟨this.1,this.2.1,this.2.2.1,?_⟩;have:=this.2.2.2;simp at this;omega
 . refine⟨?_,?_,?_,by simp⟩;all_goals
    dsimp only;split
    . have hf:=iZ h 3;have hb:=oz hf.1 1;first|exact hb.1|exact hb.2.1.trans hf.2.1|exact hb.2.2.trans hf.2.2.1
    . have hb:=oz h 1;first|exact hb.1|exact hb.2.1|exact hb.2.2
theorem Qz(c:Cu) (o:List V) (hp:c.ok/\o.length<=2000000000):OK 184 ([.ptr 0 0]) ([.cells [.ptr 1 0,.buf 2],.cells (eC c),.buf 1 0 o]) (.tuple []) (some [.cells [.ptr 1 0,.buf 2],.cells (eC c.byte),.buf 1 0 (o++bl [c.aw])]):=by
 refine aq (C:=cx [(85,mU)]) (ar ⟨og,trivial⟩) (fn:=Tryz.f184) fun hw hs=>?_;obtain⟨hp,ho⟩:=hp;repeat'((conv=>whnf);apply af)
 all_goals try conv=>whnf
 all_goals try(refine ae.mk ?_;try dsimp only)
 all_goals (try simp only[aV] at*)
 all_goals first|refine stay ?_|trivial|(simp only[fi];omega)|skip
 all_goals
  refine ab.mk [] ?_<;>(repeat' first|trivial)
def AY:Sm:=fun args σ=>match args,σ with
 |[.ptr 0 0],[.cells [.ptr 1 0,.buf 2],.cells ([.str s_c,.int .i64 (.ofNat a_c),.int .i64 (.ofNat e_c),.int .i64 c_c]),.buf 1 0 o]=>some (True/\((Cu.mk s_c a_c e_c c_c).ok/\o.length<=2000000000),.tuple [],some [.cells [.ptr 1 0,.buf 2],.cells (eC (Cu.mk s_c a_c e_c c_c).byte),.buf 1 0 (o++bl [(Cu.mk s_c a_c e_c c_c).aw])])
 |_,_=>none
theorem JZ:ax 184 AY:=by
 intro args sg pre x r he hp;unfold AY at he;split at he<;>cases he
 . rw[dJ (hp).1];exact Qz (hp:=hp.2) ..
theorem Qr(c:Cu) (o:List V) (hp:c.ok):OK 185 ([.ptr 0 0]) ([.cells [.ptr 1 0,.buf 2],.cells (eC c),.buf 1 0 o]) (.bool (bq c.aw)) (none):=by
 refine aq (C:=cx [(83,qT)]) (ar ⟨uf,trivial⟩) (fn:=Tryz.f185) fun hw hs=>?_;have hb:c.aw.toNat<256:=c.aw.toNat_lt;have hn:¬(c.c=0/\c.p<c.e)->bq c.aw=false:=fun h=>by rw[tj h];decide
 repeat'((conv=>whnf);first|apply af|(apply av<;>intro h))
 all_goals try conv=>whnf
 all_goals try(refine ae.mk ?_;try dsimp only)
 all_goals (try simp only[aV] at*)
 all_goals first|refine stay ?_|trivial|skip
 all_goals
  refine ab.mk [] ?_<;>(repeat' first|trivial|apply ah|apply mE)
  first
  |exact(hn (by assumption)).symm
  |(cases h:bq c.aw with
     |true=>have:=oP.1 h;first|rfl|(simp;omega)
     |false=>have:=vV.1 h;first|rfl|(simp;omega))
def F4:Sm:=fun args σ=>match args,σ with
 |[.ptr 0 0],[.cells [.ptr 1 0,.buf 2],.cells ([.str s_c,.int .i64 (.ofNat a_c),.int .i64 (.ofNat e_c),.int .i64 c_c]),.buf 1 0 o]=>some (True/\((Cu.mk s_c a_c e_c c_c).ok),.bool (bq (Cu.mk s_c a_c e_c c_c).aw),none)
 |_,_=>none
theorem TW:ax 185 F4:=by
 intro args sg pre x r he hp;unfold F4 at he;split at he<;>cases he
 . rw[dJ (hp).1];exact Qr (hp:=hp.2) ..
theorem Qu(c:Cu) (o:List V) (s:gA) (hp:c.ok/\o.length<=2000000000/\s.length<=100):OK 153 ([.ptr 0 0,.str s]) ([.cells [.ptr 1 0,.buf 2],.cells (eC c),.buf 1 0 o]) (.bool (c.iW s)) (some [.cells [.ptr 1 0,.buf 2],.cells (eC (c.mD s)),.buf 1 0 (o++bl (c.nV s))]):=by
 refine aq (C:=cx [(83,qT),(184,AY)]) (ar ⟨uf,JZ,trivial⟩) (fn:=Tryz.f153) fun hw hs=>?_;obtain⟨hp,ho,hs⟩:=hp;have hb:c.aw.toNat<256:=c.aw.toNat_lt;have hbb:byte c.aw.toNat=c.aw:=eX _;repeat'((conv=>whnf);apply af)
 all_goals try conv=>whnf
 all_goals try(refine ae.mk ?_;try dsimp only)
 all_goals (try simp only[aV] at*)
 all_goals first|refine stay ?_|trivial|skip
 refine aZ.mk Nat (fun i=>i<=s.length/\∀j,j<i->¬(c.has/\s.getD j 0=c.aw)) (fun i=>⟨32,[(0,.ptr 0 0),(1,.str s),(5,bv c.aw),(6,.bool (decide (c.c=0/\c.p<c.e))),(17,.int .i64 s.length),(18,.int .i64 i)],[.cells [.ptr 1 0,.buf 2],.cells (eC c),.buf 1 0 o],[]⟩) (fun i=>s.length-i) [] 0 ⟨by omega,fun j hj=>absurd hj (by omega)⟩ ?_ (fun i ⟨hi,hj⟩ _ _=>?_)
 . apply ay<;>(repeat' first|trivial)
 have hx:(s.getD i 0).toNat<256:=UInt8.toNat_lt _;have yes:c.has->c.aw=s.getD i 0->i<s.length->c.iW s=true:=fun h e hl=>ni.2 ⟨h,by rw[e,ac,am hl];exact List.getElem_mem hl⟩;have no:i=s.length->c.iW s=false:=fun e=>by
  cases q:c.iW s with
  |false=>rfl
  |true=>
    obtain⟨q1,q2⟩:=ni.1 q;obtain⟨j,hjl,hje⟩:=List.getElem_of_mem q2;exact absurd ⟨q1,by rw[ac,am hjl];exact hje⟩ (hj j (by omega))
 have next:¬(c.has/\s.getD i 0=c.aw)->∀j,j<i+1->¬(c.has/\s.getD j 0=c.aw):=fun h j hjj=>by
  by_cases e:j=i
  . subst e;exact h
  . exact hj j (by omega)
 repeat'((conv=>whnf);first|apply af|(apply av<;>intro h)|with_reducible refine fG ?_ fun hc=>?_)
 all_goals try conv=>whnf
 all_goals try(refine ae.mk ?_;try dsimp only)
 all_goals (try simp only[aV] at*)
 all_goals first|refine stay ?_|trivial|omega|skip
 all_goals (try simp only[hbb] at*)
 all_goals first
  | (refine ⟨[],i + 1,⟨by omega,next fun h=>?_⟩,?_,by omega⟩
     . first
       |exact absurd h.1 (by assumption)
       |(have:=congrArg UInt8.toNat h.2;omega)
     . apply ay<;>(repeat' first|trivial|apply ah|apply aN)
       all_goals (simp(discharger:=omega) only[wR];omega))
  |skip
 . have e:=yes (by assumption) (UInt8.toNat_inj.1 (by omega)) (by omega);unfold Cu.mD Cu.nV;rw[if_pos e,if_pos e,e];refine ab.mk [] ?_<;>(repeat' first|trivial)
 . have e:=no (by omega);unfold Cu.mD Cu.nV;rw[e];refine ab.mk [] ?_<;>(repeat' first|trivial|apply ah|apply bc)
   simp[bl]
def F6:Sm:=fun args σ=>match args,σ with
 |[.ptr 0 0,.str s],[.cells [.ptr 1 0,.buf 2],.cells ([.str s_c,.int .i64 (.ofNat a_c),.int .i64 (.ofNat e_c),.int .i64 c_c]),.buf 1 0 o]=>some (True/\((Cu.mk s_c a_c e_c c_c).ok/\o.length<=2000000000/\s.length<=100),.bool ((Cu.mk s_c a_c e_c c_c).iW s),some [.cells [.ptr 1 0,.buf 2],.cells (eC ((Cu.mk s_c a_c e_c c_c).mD s)),.buf 1 0 (o++bl ((Cu.mk s_c a_c e_c c_c).nV s))])
 |_,_=>none
theorem TY:ax 153 F6:=by
 intro args sg pre x r he hp;unfold F6 at he;split at he<;>cases he
 . rw[dJ (hp).1];exact Qu (hp:=hp.2) ..
theorem Qs(c:Cu) (o:List V) (hp:c.ok/\o.length<=1500000000/\c.s.length<=100000000):OK 154 ([.ptr 0 0]) ([.cells [.ptr 1 0,.buf 2],.cells (eC c),.buf 1 0 o]) (.tuple []) (some [.cells [.ptr 1 0,.buf 2],.cells (eC c.aY.1),.buf 1 0 (o++bl c.aY.2)]):=by
 refine aq (C:=cx [(185,F4),(186,AG),(91,nE),(85,mU),(184,AY)]) (ar ⟨TW,JJ,p9,og,JZ,trivial⟩) (fn:=Tryz.f154) fun hw hs=>?_;obtain⟨hp,ho,hl⟩:=hp;have h1:=hp.1;have h2:=hp.2;have hf:=iZ hp 3;repeat'((conv=>whnf);first|apply af|apply aK|(apply av<;>intro h))
 all_goals try conv=>whnf
 all_goals try(refine ae.mk ?_;try dsimp only)
 all_goals (try simp only[aV] at*)
 all_goals first|refine stay ?_|trivial|skip
 . have hd:bq c.aw=true:=oP.2 (by assumption);have hh:c.has:=by
    rcases Decidable.em c.has with q|q
    . exact q
    . rw[tj q] at hd;exact absurd hd (by decide)
   refine rk.mk (Nat×Cu×gA) (fun|(n,d,s) =>d.ok/\d.s=c.s/\d.has/\bq d.aw=true/\d.e-d.p<=n/\s.length<=d.p/\fT n d s=c.aY)
    (fun|(n,d,s) =>⟨25,[(0,.ptr 0 0)],[.cells [.ptr 1 0,.buf 2],.cells (eC d),.buf 1 0 (o++bl s)],[2]⟩) (fun x=>x.1) [] (c.e-c.p,c,[]) ⟨hp,rfl,hh,hd,cb _,by simp,by unfold Cu.aY;rw[if_pos hd]⟩ ?_ (fun⟨n,d,s⟩ ⟨hd1,hd2,hd3,hd4,hd5,hd6,hd7⟩ _ _=>?_)
   . apply ay<;>(repeat' first|trivial|apply ah|apply bc)
     simp[bl]
   have hsl:d.s.length<=100000000:=by rw[hd2];exact hl
   have e1:=hd1.1;have e2:=hd1.2;have e3:d.c=0:=hd3.1;have e4:d.p<d.e:=hd3.2;have hb1:=oz hd1 1;have hb:d.byte.ok:=hb1.1;obtain⟨b1,_⟩:=jf e3 e4;have hbp:d.byte.p=d.p+1:=by rw[b1]
   have hbe:d.byte.e=d.e:=by rw[b1]
   have hbl:=je s;obtain⟨n,rfl⟩:∃m,n=m+1:=⟨n-1,by omega⟩
   rw[fT] at hd7;repeat'((conv=>whnf);first|apply af|(apply av<;>intro h))
   all_goals try conv=>whnf
   all_goals try(refine ae.mk ?_;try dsimp only)
   all_goals (try simp only[aV] at*)
   all_goals first|refine stay ?_|trivial|skip
   . exact⟨trivial,hd1,by rw[an];omega⟩
   . have q:=oP.2 (by assumption);rw[if_pos q] at hd7;have q2:d.byte.has:=by
      rcases Decidable.em d.byte.has with r|r
      . exact r
      . rw[tj r] at q;exact absurd q (by decide)
     refine⟨[],(n,d.byte,s++[d.aw]),⟨hb,hb1.2.1.trans hd2,q2,q,by rw[hbe,hbp];omega,by rw[an,gc,hbp];omega,hd7⟩,?_,by show n<n+1;omega⟩;apply ay<;>(repeat' first|trivial|apply ah|apply bc)
     rw[eE,eg]
   . have q:=vV.2 (by assumption);rw[if_neg (by rw[q];decide)] at hd7;rw[<-hd7];refine ab.mk [] ?_<;>(repeat' first|trivial|apply ah|apply bc)
     rw[eE,eg]
 . exact⟨trivial,hf.1⟩
 . have q1:=vV.2 (by assumption);unfold Cu.aY;rw[if_neg (by rw[q1];decide),if_pos (by assumption)];refine ab.mk [] ?_<;>(repeat' first|trivial|apply ah|apply bc)
   simp[bl]
 . have q1:=vV.2 (by assumption);unfold Cu.aY;rw[if_neg (by rw[q1];decide),if_neg (by assumption)];refine ab.mk [] ?_<;>(repeat' first|trivial|apply ah|apply bc)
   simp[bl]
def F5:Sm:=fun args σ=>match args,σ with
 |[.ptr 0 0],[.cells [.ptr 1 0,.buf 2],.cells ([.str s_c,.int .i64 (.ofNat a_c),.int .i64 (.ofNat e_c),.int .i64 c_c]),.buf 1 0 o]=>some (True/\((Cu.mk s_c a_c e_c c_c).ok/\o.length<=1500000000/\(Cu.mk s_c a_c e_c c_c).s.length<=100000000),.tuple [],some [.cells [.ptr 1 0,.buf 2],.cells (eC (Cu.mk s_c a_c e_c c_c).aY.1),.buf 1 0 (o++bl (Cu.mk s_c a_c e_c c_c).aY.2)])
 |_,_=>none
theorem TX:ax 154 F5:=by
 intro args sg pre x r he hp;unfold F5 at he;split at he<;>cases he
 . rw[dJ (hp).1];exact Qs (hp:=hp.2) ..
def Gd(c d:Cu):Prop:=d.ok/\d.s=c.s
theorem Gd.self{c:Cu} (h:c.ok):Gd c c:=⟨h,rfl⟩
theorem Gd.fD{c d:Cu} {s:gA} (h:Gd c d):Gd c (d.mD s):=⟨(HV h.1 s).1,(HV h.1 s).2.1.trans h.2⟩
theorem Gd.aY{c d:Cu} (h:Gd c d):Gd c d.aY.1:=⟨(Co h.1).1,(Co h.1).2.1.trans h.2⟩
def Lb(c:Cu) (o:List V) (n:Nat) (l:List V):Prop:=l.length<=o.length+n*100000001
theorem Lb.base{c:Cu} {o:List V} {n:Nat}:Lb c o n o:=by unfold Lb;omega
theorem Lb.fD{c d:Cu} {o l:List V} {n:Nat} {s:gA} (h:Lb c o n l):Lb c o (n+1) (l++bl (d.nV s)):=by
 have:=Pc d s;unfold Lb at h⊢;rw[an,je];omega
theorem Lb.aY{c d:Cu} {o l:List V} {n:Nat} (hl:c.s.length<=100000000) (hd:Gd c d) (h:Lb c o n l):Lb c o (n+1) (l++bl d.aY.2):=by
 have h1:=(Co hd.1).2.2.2;have h2:=hd.1.2;rw[hd.2] at h2;unfold Lb at h⊢;rw[an,je];omega
theorem Lb.fin{c:Cu} {o l:List V} (h:Lb c o 9 l) (ho:o.length<=500000000):l.length<=1500000000:=by unfold Lb at h;omega
theorem KC{n:Nat} (h:n<=1500000000):n<=2000000000:=by omega
theorem Gd.ar{c d:Cu} (h:Gd c d):d.ok:=h.1
theorem Qv(c:Cu) (o:List V) (hp:c.ok/\o.length<=500000000/\c.s.length<=100000000):OK 129 ([.ptr 0 0]) ([.cells [.ptr 1 0,.buf 2],.cells (eC c),.buf 1 0 o]) (.tuple []) (some [.cells [.ptr 1 0,.buf 2],.cells (eC c.jj.1),.buf 1 0 (o++bl c.jj.2)]):=by
 refine aq (C:=cx [(153,F6),(154,F5)]) (ar ⟨TY,TX,trivial⟩) (fn:=Tryz.f129) fun hw hs=>?_;obtain⟨hp,ho,hl⟩:=hp;have gs:∀{d:Cu},Gd c d->d.s.length<=100000000:=fun h=>by rw[h.2];exact hl
 repeat'((conv=>whnf);first|apply af|apply aK|(apply av<;>intro h))
 all_goals try conv=>whnf
 all_goals try(refine ae.mk ?_;try dsimp only)
 all_goals (try simp only[aV] at*)
 all_goals try refine stay ?_
 all_goals first
  |(refine(show True/\_/\_/\_ from⟨trivial,?_,?_,?_⟩)<;>first
   |decide
   | (refine Gd.ar (c:=c) ?_
      repeat'(first|exact Gd.self hp|refine Gd.fD ?_|refine Gd.aY ?_)
      done)
   | (refine gs ?_
      repeat'(first|exact Gd.self hp|refine Gd.fD ?_|refine Gd.aY ?_)
      done)
   | (first | refine KC (Lb.fin (c:=c) (o:=o) ?_ ho) | refine Lb.fin (c:=c) (o:=o) ?_ ho
      repeat'(first|exact Lb.base|refine Lb.fD ?_|refine Lb.aY hl ?_ ?_|exact Gd.self hp|refine Gd.fD ?_|refine Gd.aY ?_|decide)
      done))
  |(refine(show True/\_/\_ from⟨trivial,?_,?_⟩)<;>first
   | (refine Gd.ar (c:=c) ?_
      repeat'(first|exact Gd.self hp|refine Gd.fD ?_|refine Gd.aY ?_)
      done)
   | (first | refine KC (Lb.fin (c:=c) (o:=o) ?_ ho) | refine Lb.fin (c:=c) (o:=o) ?_ ho
      repeat'(first|exact Lb.base|refine Lb.fD ?_|refine Lb.aY hl ?_ ?_|exact Gd.self hp|refine Gd.fD ?_|refine Gd.aY ?_|decide)
      done))
  |skip
 all_goals
  unfold Cu.jj CO.whole;first|rw[if_pos (ni.2 (by assumption))]|rw[if_neg (fun h=>absurd (ni.1 h) (by assumption))]
  unfold CO.behind;first|rw[if_pos (ni.2 (by assumption))]|rw[if_neg (fun h=>absurd (ni.1 h) (by assumption))]
  unfold CO.qM;first|rw[if_pos (ni.2 (by assumption))]|rw[if_neg (fun h=>absurd (ni.1 h) (by assumption))]
  refine ab.mk [] ?_<;>(repeat' first|trivial|apply ah|apply bc)
  all_goals (simp only[CO.fD,CO.aY,eE,eg,List.nil_append];done)
def AX:Sm:=fun args σ=>match args,σ with
 |[.ptr 0 0],[.cells [.ptr 1 0,.buf 2],.cells ([.str s_c,.int .i64 (.ofNat a_c),.int .i64 (.ofNat e_c),.int .i64 c_c]),.buf 1 0 o]=>some (True/\((Cu.mk s_c a_c e_c c_c).ok/\o.length<=500000000/\(Cu.mk s_c a_c e_c c_c).s.length<=100000000),.tuple [],some [.cells [.ptr 1 0,.buf 2],.cells (eC (Cu.mk s_c a_c e_c c_c).jj.1),.buf 1 0 (o++bl (Cu.mk s_c a_c e_c c_c).jj.2)])
 |_,_=>none
theorem JY:ax 129 AX:=by
 intro args sg pre x r he hp;unfold AX at he;split at he<;>cases he
 . rw[dJ (hp).1];exact Qv (hp:=hp.2) ..
end Go.Proofs.YtchllohbglebiaaGreatDoor
