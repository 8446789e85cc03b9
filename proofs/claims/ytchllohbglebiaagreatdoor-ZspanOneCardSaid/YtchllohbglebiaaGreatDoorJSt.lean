/-
  A part of the proof.
-/
import Derived.Test.YtchllohbglebiaaGreatDoorZSb
set_option linter.unusedSimpArgs false
set_option linter.unusedVariables false
set_option maxHeartbeats 4000000
set_option maxRecDepth 100000
namespace Go.Proofs.YtchllohbglebiaaGreatDoor
open Go Go.VG
def Cu.le(c d:Cu):Prop:=d.s=c.s/\d.e=c.e/\c.p<=d.p
theorem le_trans{c d f:Cu} (h:c.le d) (k:d.le f):c.le f:=⟨k.1.trans h.1,k.2.1.trans h.2.1,Nat.le_trans h.2.2 k.2.2⟩
theorem le_refl(c:Cu):c.le c:=⟨rfl,rfl,cb _⟩
theorem pc(c:Cu) (k:Int):c.le (c.fail k):=by unfold Cu.fail;split<;>exact⟨rfl,rfl,cb _⟩
theorem Vh(c:Cu) (n:Int):c.le (c.pass n):=by
 unfold Cu.pass;repeat' split
 all_goals (refine⟨rfl,rfl,?_⟩;(try dsimp only);omega)
theorem iI(c:Cu):c.le c.byte:=Vh c 1
theorem KF(c:Cu):c.le c.j4:=by
 unfold Cu.j4;split
 . exact iI c
 . exact le_trans (iI c) (pc _ _)
theorem KE:∀(k:Nat) (c:Cu) (u:Int),c.le (fW k c u).1
 |0,c,_=>by rw[fW];exact le_refl c
 |k+1,c,u=>by
   rw[fW];split
   . exact KF c
   . exact le_trans (KF c) (KE k _ _)
theorem KD(c:Cu):c.le c.four.1:=KE 4 c 0
theorem KG(c:Cu) (b:UInt8):c.le (c.dF b):=by
 unfold Cu.dF;split
 . exact iI c
 . exact le_trans (iI c) (pc _ _)
theorem Vg(c:Cu):c.le c.number.1:=by
 have h1:=KD c;have h2:=le_trans (le_trans (le_trans h1 (KG _ 92)) (KG _ 117)) (KD _);unfold Cu.number;repeat' split
 . exact h1
 . exact le_trans h1 (pc _ _)
 . exact le_trans h2 (pc _ _)
 . exact h2
theorem Dq(c:Cu):c.le c.fV:=by
 unfold Cu.fV;repeat' split
 . exact le_trans (iI c) (Vg _)
 . exact iI c
 . exact le_trans (iI c) (pc _ _)
theorem Dt:∀(k:Nat) (c:Cu) (s:gA),c.le (eI k c s).1
 |0,c,_=>by rw[eI];exact le_refl c
 |k+1,c,s=>by
   rw[eI];split
   . exact le_trans (iI c) (Dt k _ _)
   . exact le_refl c
theorem Dr(c:Cu) (b:UInt8):c.le (c.iK b):=by
 unfold Cu.iK;split
 . exact le_trans (Dt _ _ _) (pc _ _)
 . exact Dt _ _ _
theorem Cz(c:Cu):c.jX.length<=4:=by
 unfold Cu.jX;repeat' split
 . exact(xU _).2
 all_goals simp
theorem Ek(c:Cu) (b:UInt8):(c.kR b).length<=4:=by
 have:=M5 (dQ b) c [b];have:=MZ b;unfold Cu.kR;split
 . simp
 . simp at this⊢;simp_all;omega
def jC:Nat->Cu->gA->Cu×gA
 |0,c,_=>(c,[])
 |n+1,c,o=>
   if c.c≠0 then(c,[])
   else if c.byte.c≠0 then jC n c.byte o
   else if c.aw.toNat=34 then(c.byte,o)
   else if c.aw.toNat<32 then jC n (c.byte.fail 3) o
   else if c.aw.toNat=92 then jC n c.byte.fV (o++c.byte.jX)
   else jC n (c.byte.iK c.aw) (o++c.byte.kR c.aw)
termination_by n => n
def Cu.mu(c:Cu):Nat:=if c.c≠0 then 0 else c.e-c.p+1
def Cu.start(c:Cu):Cu:=if(c.c=0/\c.p<c.e)/\c.aw.toNat≠34 then c.fail 3 else c
def Cu.read(c:Cu):Cu×gA:=jC (c.start.byte.mu+1) c.start.byte []
theorem YI{c:Cu} (h:c.ok):c.start.ok:=by unfold Cu.start;split;exact(iZ h 3).1;exact h
theorem yu{c:Cu} (h:c.ok) (h0:c.c=0) (h1:c.byte.c=0):c.byte.p=c.p+1:=by
 unfold Cu.byte Cu.pass at h1⊢;obtain⟨a,b⟩:=h;rw[if_neg (by omega),if_neg (by omega)] at h1⊢;split at h1
 . cases h1
 . rename_i q;rw[if_neg q];rfl
theorem ph{c d:Cu} (h:c.ok) (h0:c.c=0) (h1:c.byte.c=0) (hd:c.byte.le d) (k:d.ok):d.mu<c.mu:=by
 have:=yu h h0 h1;have e1:=(iI c).2.1;obtain⟨d1,d2,d3⟩:=hd;obtain⟨k1,k2⟩:=k;unfold Cu.mu;rw[if_neg (show¬c.c≠0 by omega)];split<;>omega
theorem DB{c d:Cu} (h0:c.c=0) (h1:d.c≠0):d.mu<c.mu:=by
 unfold Cu.mu;rw[if_pos h1,if_neg (by omega)];omega
theorem QJ(c:Cu) (hp:c.ok/\c.s.length<=100000000):OK 86 ([.ptr 0 0]) ([.cells (eC c)]) (.str c.read.2) (some [.cells (eC c.read.1)]):=by
 refine aq (C:=cx [(83,qT),(91,nE),(85,mU),(41,mV),(127,Fc),(128,Fj)]) (ar ⟨uf,p9,og,oh,U4,Ua,trivial⟩) (fn:=Tryz.f86) fun hw hs=>?_;obtain⟨hp,hl⟩:=hp;have hb:c.aw.toNat<256:=c.aw.toNat_lt;have k1:=YI hp;have k2:=gY k1;have k3:=gY (iZ hp 3).1;repeat'((conv=>whnf);first|apply af|apply aK|(apply av<;>intro h))
 all_goals try conv=>whnf
 all_goals try(refine ae.mk ?_;try dsimp only)
 all_goals (try simp only[aV] at*)
 all_goals first|refine stay ?_|trivial|skip
 . have hst:c.start=c:=by unfold Cu.start;rw[if_neg (by omega)]
   refine aZ.mk (Nat×Cu×gA) (fun|(n,d,o)=>d.ok/\d.s=c.s/\d.mu<n/\o.length<=4*d.p/\jC n d o=c.read) (fun|(n,d,o)=>⟨54,[(0,.ptr 0 0),(5,.ptr 1 0)],[.cells (eC d),.cells [.ptr 0 0,.buf 2],.buf 1 0 (bl o)],[2]⟩) (fun x=>x.1) [.cell 1 1 1] (c.start.byte.mu+1,c.start.byte,[])
    ⟨k2,by first|(rw[(iI _).1,hst];done)|(rw[(iI _).1,hst];exact(iZ hp 3).2.1),by omega,by simp,rfl⟩ ?_ (fun⟨n,d,o⟩ ⟨hd,hds,hm,ho,he⟩ _ _=>?_)
   . rw[hst];apply ay<;>(repeat' first|trivial)
   have hdb:=gY hd;have hd1:=hd.1;have hd2:=hd.2;have hb:=d.aw.toNat_lt;obtain⟨n,rfl⟩:∃m,n=m+1:=⟨n-1,by omega⟩
   rw[jC] at he;have hsl:d.s.length<=100000000:=by rw[hds];exact hl
   have hbl:=je o;have n1:=fun h0 h1=>yu hd h0 h1;have m0:=fun h0 h1=>DB (c:=d) (d:=d.byte) h0 h1;have lf:=pc d.byte 3;have m1:=fun h0 h1=>ph hd h0 h1 lf (iZ hdb 3).1;have le:=Dq d.byte;have m2:=fun h0 h1=>ph hd h0 h1 le (rE hdb);have lr:=Dr d.byte d.aw;have m3:=fun h0 h1=>ph hd h0 h1 lr (sy hdb _);have q1:=Cz d.byte;have q2:=Ek d.byte d.aw;have hds2:d.byte.s=c.s:=(iI d).1.trans hds;have hp2:=(iI d).2.2;have hvb:byte d.aw.toNat=d.aw:=eX _;repeat'((conv=>whnf);first|apply af|apply aK|(apply av<;>intro h)|apply oc)
   all_goals try conv=>whnf
   all_goals try(refine ae.mk ?_;try dsimp only)
   all_goals (try simp only[aV] at*)
   all_goals first|refine stay ?_|trivial|skip
   all_goals (try simp only[hvb] at*)
   all_goals (repeat (first|rw[if_pos (by omega)] at he|rw[if_neg (by omega)] at he))
   all_goals first
    | (show ab _ _ _ _ _ _
       rw[<-he];refine ab.mk [] ?_<;>(repeat' first|trivial)
       done)
    |(refine⟨trivial,hdb,?_⟩;omega)
    |(refine⟨by omega,trivial,hdb,?_⟩;omega)
    |skip
   . refine⟨[],(n,d.byte.fail 3,o),⟨(iZ hdb 3).1,lf.1.trans hds2,?_,?_,he⟩,?_,by show n<n+1;omega⟩
     . have:=m1 (by omega) (by omega);show(d.byte.fail 3).mu<n;omega
     . have:=lf.2.2;show o.length<=4*(d.byte.fail 3).p;omega
     . apply ay<;>(repeat' first|trivial)
   . refine⟨[],(n,d.byte.fV,o++d.byte.jX),⟨rE hdb,le.1.trans hds2,?_,?_,he⟩,?_,by show n<n+1;omega⟩
     . have:=m2 (by omega) (by omega);show d.byte.fV.mu<n;omega
     . have:=le.2.2;have:=n1 (by omega) (by omega);show(o++d.byte.jX).length<=4*d.byte.fV.p;rw[an];omega
     . apply ay<;>(repeat' first|trivial|apply ah|apply bc)
       rw[eE]
   . refine⟨[],(n,d.byte.iK d.aw,o++d.byte.kR d.aw),⟨sy hdb _,lr.1.trans hds2,?_,?_,he⟩,?_,by show n<n+1;omega⟩
     . have:=m3 (by omega) (by omega);show(d.byte.iK d.aw).mu<n;omega
     . have:=lr.2.2;have:=n1 (by omega) (by omega);show(o++d.byte.kR d.aw).length<=4*(d.byte.iK d.aw).p;rw[an];omega
     . apply ay<;>(repeat' first|trivial|apply ah|apply bc)
       rw[eE]
   . refine⟨[],(n,d.byte,o),⟨hdb,hds2,?_,by show o.length<=4*d.byte.p;omega,he⟩,?_,by show n<n+1;omega⟩
     . have:=m0 (by omega) (by omega);show d.byte.mu<n;omega
     . apply ay<;>(repeat' first|trivial)
 . exact⟨trivial,(iZ hp 3).1⟩
 . have hst:c.start=c.fail 3:=by unfold Cu.start;rw[if_pos ⟨by assumption,by omega⟩]
   refine aZ.mk (Nat×Cu×gA) (fun|(n,d,o)=>d.ok/\d.s=c.s/\d.mu<n/\o.length<=4*d.p/\jC n d o=c.read) (fun|(n,d,o)=>⟨54,[(0,.ptr 0 0),(5,.ptr 1 0)],[.cells (eC d),.cells [.ptr 0 0,.buf 2],.buf 1 0 (bl o)],[2]⟩) (fun x=>x.1) [.cell 1 1 1] (c.start.byte.mu+1,c.start.byte,[])
    ⟨k2,by first|(rw[(iI _).1,hst];done)|(rw[(iI _).1,hst];exact(iZ hp 3).2.1),by omega,by simp,rfl⟩ ?_ (fun⟨n,d,o⟩ ⟨hd,hds,hm,ho,he⟩ _ _=>?_)
   . rw[hst];apply ay<;>(repeat' first|trivial)
   have hdb:=gY hd;have hd1:=hd.1;have hd2:=hd.2;have hb:=d.aw.toNat_lt;obtain⟨n,rfl⟩:∃m,n=m+1:=⟨n-1,by omega⟩
   rw[jC] at he;have hsl:d.s.length<=100000000:=by rw[hds];exact hl
   have hbl:=je o;have n1:=fun h0 h1=>yu hd h0 h1;have m0:=fun h0 h1=>DB (c:=d) (d:=d.byte) h0 h1;have lf:=pc d.byte 3;have m1:=fun h0 h1=>ph hd h0 h1 lf (iZ hdb 3).1;have le:=Dq d.byte;have m2:=fun h0 h1=>ph hd h0 h1 le (rE hdb);have lr:=Dr d.byte d.aw;have m3:=fun h0 h1=>ph hd h0 h1 lr (sy hdb _);have q1:=Cz d.byte;have q2:=Ek d.byte d.aw;have hds2:d.byte.s=c.s:=(iI d).1.trans hds;have hp2:=(iI d).2.2;have hvb:byte d.aw.toNat=d.aw:=eX _;repeat'((conv=>whnf);first|apply af|apply aK|(apply av<;>intro h)|apply oc)
   all_goals try conv=>whnf
   all_goals try(refine ae.mk ?_;try dsimp only)
   all_goals (try simp only[aV] at*)
   all_goals first|refine stay ?_|trivial|skip
   all_goals (try simp only[hvb] at*)
   all_goals (repeat (first|rw[if_pos (by omega)] at he|rw[if_neg (by omega)] at he))
   all_goals first
    | (show ab _ _ _ _ _ _
       rw[<-he];refine ab.mk [] ?_<;>(repeat' first|trivial)
       done)
    |(refine⟨trivial,hdb,?_⟩;omega)
    |(refine⟨by omega,trivial,hdb,?_⟩;omega)
    |skip
   . refine⟨[],(n,d.byte.fail 3,o),⟨(iZ hdb 3).1,lf.1.trans hds2,?_,?_,he⟩,?_,by show n<n+1;omega⟩
     . have:=m1 (by omega) (by omega);show(d.byte.fail 3).mu<n;omega
     . have:=lf.2.2;show o.length<=4*(d.byte.fail 3).p;omega
     . apply ay<;>(repeat' first|trivial)
   . refine⟨[],(n,d.byte.fV,o++d.byte.jX),⟨rE hdb,le.1.trans hds2,?_,?_,he⟩,?_,by show n<n+1;omega⟩
     . have:=m2 (by omega) (by omega);show d.byte.fV.mu<n;omega
     . have:=le.2.2;have:=n1 (by omega) (by omega);show(o++d.byte.jX).length<=4*d.byte.fV.p;rw[an];omega
     . apply ay<;>(repeat' first|trivial|apply ah|apply bc)
       rw[eE]
   . refine⟨[],(n,d.byte.iK d.aw,o++d.byte.kR d.aw),⟨sy hdb _,lr.1.trans hds2,?_,?_,he⟩,?_,by show n<n+1;omega⟩
     . have:=m3 (by omega) (by omega);show(d.byte.iK d.aw).mu<n;omega
     . have:=lr.2.2;have:=n1 (by omega) (by omega);show(o++d.byte.kR d.aw).length<=4*(d.byte.iK d.aw).p;rw[an];omega
     . apply ay<;>(repeat' first|trivial|apply ah|apply bc)
       rw[eE]
   . refine⟨[],(n,d.byte,o),⟨hdb,hds2,?_,by show o.length<=4*d.byte.p;omega,he⟩,?_,by show n<n+1;omega⟩
     . have:=m0 (by omega) (by omega);show d.byte.mu<n;omega
     . apply ay<;>(repeat' first|trivial)
 . have hst:c.start=c:=by unfold Cu.start;rw[if_neg (fun h=>by have:=h.1;omega)]
   refine aZ.mk (Nat×Cu×gA) (fun|(n,d,o)=>d.ok/\d.s=c.s/\d.mu<n/\o.length<=4*d.p/\jC n d o=c.read) (fun|(n,d,o)=>⟨54,[(0,.ptr 0 0),(5,.ptr 1 0)],[.cells (eC d),.cells [.ptr 0 0,.buf 2],.buf 1 0 (bl o)],[2]⟩) (fun x=>x.1) [.cell 1 1 1] (c.start.byte.mu+1,c.start.byte,[])
    ⟨k2,by first|(rw[(iI _).1,hst];done)|(rw[(iI _).1,hst];exact(iZ hp 3).2.1),by omega,by simp,rfl⟩ ?_ (fun⟨n,d,o⟩ ⟨hd,hds,hm,ho,he⟩ _ _=>?_)
   . rw[hst];apply ay<;>(repeat' first|trivial)
   have hdb:=gY hd;have hd1:=hd.1;have hd2:=hd.2;have hb:=d.aw.toNat_lt;obtain⟨n,rfl⟩:∃m,n=m+1:=⟨n-1,by omega⟩
   rw[jC] at he;have hsl:d.s.length<=100000000:=by rw[hds];exact hl
   have hbl:=je o;have n1:=fun h0 h1=>yu hd h0 h1;have m0:=fun h0 h1=>DB (c:=d) (d:=d.byte) h0 h1;have lf:=pc d.byte 3;have m1:=fun h0 h1=>ph hd h0 h1 lf (iZ hdb 3).1;have le:=Dq d.byte;have m2:=fun h0 h1=>ph hd h0 h1 le (rE hdb);have lr:=Dr d.byte d.aw;have m3:=fun h0 h1=>ph hd h0 h1 lr (sy hdb _);have q1:=Cz d.byte;have q2:=Ek d.byte d.aw;have hds2:d.byte.s=c.s:=(iI d).1.trans hds;have hp2:=(iI d).2.2;have hvb:byte d.aw.toNat=d.aw:=eX _;repeat'((conv=>whnf);first|apply af|apply aK|(apply av<;>intro h)|apply oc)
   all_goals try conv=>whnf
   all_goals try(refine ae.mk ?_;try dsimp only)
   all_goals (try simp only[aV] at*)
   all_goals first|refine stay ?_|trivial|skip
   all_goals (try simp only[hvb] at*)
   all_goals (repeat (first|rw[if_pos (by omega)] at he|rw[if_neg (by omega)] at he))
   all_goals first
    | (show ab _ _ _ _ _ _
       rw[<-he];refine ab.mk [] ?_<;>(repeat' first|trivial)
       done)
    |(refine⟨trivial,hdb,?_⟩;omega)
    |(refine⟨by omega,trivial,hdb,?_⟩;omega)
    |skip
   . refine⟨[],(n,d.byte.fail 3,o),⟨(iZ hdb 3).1,lf.1.trans hds2,?_,?_,he⟩,?_,by show n<n+1;omega⟩
     . have:=m1 (by omega) (by omega);show(d.byte.fail 3).mu<n;omega
     . have:=lf.2.2;show o.length<=4*(d.byte.fail 3).p;omega
     . apply ay<;>(repeat' first|trivial)
   . refine⟨[],(n,d.byte.fV,o++d.byte.jX),⟨rE hdb,le.1.trans hds2,?_,?_,he⟩,?_,by show n<n+1;omega⟩
     . have:=m2 (by omega) (by omega);show d.byte.fV.mu<n;omega
     . have:=le.2.2;have:=n1 (by omega) (by omega);show(o++d.byte.jX).length<=4*d.byte.fV.p;rw[an];omega
     . apply ay<;>(repeat' first|trivial|apply ah|apply bc)
       rw[eE]
   . refine⟨[],(n,d.byte.iK d.aw,o++d.byte.kR d.aw),⟨sy hdb _,lr.1.trans hds2,?_,?_,he⟩,?_,by show n<n+1;omega⟩
     . have:=m3 (by omega) (by omega);show(d.byte.iK d.aw).mu<n;omega
     . have:=lr.2.2;have:=n1 (by omega) (by omega);show(o++d.byte.kR d.aw).length<=4*(d.byte.iK d.aw).p;rw[an];omega
     . apply ay<;>(repeat' first|trivial|apply ah|apply bc)
       rw[eE]
   . refine⟨[],(n,d.byte,o),⟨hdb,hds2,?_,by show o.length<=4*d.byte.p;omega,he⟩,?_,by show n<n+1;omega⟩
     . have:=m0 (by omega) (by omega);show d.byte.mu<n;omega
     . apply ay<;>(repeat' first|trivial)
def Fk:Sm:=fun args σ=>match args,σ with
 |[.ptr 0 0],[.cells ([.str s_c,.int .i64 (.ofNat a_c),.int .i64 (.ofNat e_c),.int .i64 c_c])]=>some (True/\((Cu.mk s_c a_c e_c c_c).ok/\(Cu.mk s_c a_c e_c c_c).s.length<=100000000),.str (Cu.mk s_c a_c e_c c_c).read.2,some [.cells (eC (Cu.mk s_c a_c e_c c_c).read.1)])
 |_,_=>none
theorem Ub:ax 86 Fk:=by
 intro args sg pre x r he hp;unfold Fk at he;split at he<;>cases he
 . rw[dJ (hp).1];exact QJ (hp:=hp.2) ..
end Go.Proofs.YtchllohbglebiaaGreatDoor
