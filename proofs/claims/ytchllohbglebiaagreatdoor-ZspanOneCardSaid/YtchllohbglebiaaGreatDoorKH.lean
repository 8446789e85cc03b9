/-
  A part of the proof.
-/
import Derived.Test.YtchllohbglebiaaGreatDoorKE
import Derived.Test.YtchllohbglebiaaGreatDoorTRy
import Derived.Test.YtchllohbglebiaaGreatDoorKD
set_option linter.unusedSimpArgs false
set_option linter.unusedVariables false
set_option maxHeartbeats 4000000
set_option maxRecDepth 100000
namespace Go.Proofs.YtchllohbglebiaaGreatDoor
open Go Go.VG
theorem Nq(q:UInt8->Bool):∀(l:gA) (j:Nat),j<(l.takeWhile q).length->j<l.length/\q (l.getD j 0) =true
 |[],j,h=>by simp at h
 |b::l,j,h=>by
   rw[List.takeWhile_cons] at h;split at h
   . rename_i hb;cases j with
     |zero=>exact⟨by simp,hb⟩
     |succ j=>
       have:=Nq q l j (by simpa using h);exact⟨by simp;omega,this.2⟩
   . simp at h
theorem Np(q:UInt8->Bool):∀(l:gA),(l.takeWhile q).length<l.length->q (l.getD (l.takeWhile q).length 0) =false
 |[],h=>by simp at h
 |b::l,h=>by
   rw[List.takeWhile_cons] at h⊢;split at h
   . rename_i hb;rw[if_pos hb];exact Np q l (by simpa using h)
   . rename_i hb;rw[if_neg hb];simpa using hb
def n6(d:gA):Nat:=(d.reverse.takeWhile (·==48)).length
theorem Mf{d:gA} {j:Nat} (h:j<d.length):d.reverse.getD j 0=d.getD (d.length-1-j) 0:=by
 rw[ac,ac,List.getElem?_reverse h]
theorem NX{d:gA} {j:Nat} (h:j<n6 d):j<d.length/\(d.getD (d.length-1-j) 0).toNat=48:=by
 obtain⟨h1,h2⟩:=Nq _ _ _ h;rw[List.length_reverse] at h1;rw[Mf h1,beq_iff_eq] at h2;exact⟨h1,by rw[h2];rfl⟩
theorem ZK{d:gA} (h:n6 d<d.length):(d.getD (d.length-1-n6 d) 0).toNat≠48:=by
 have:=Np (·==48) d.reverse (by rw[List.length_reverse];exact h);rw[show(d.reverse.takeWhile (·==48)).length=n6 d from rfl,Mf h,beq_eq_false_iff_ne] at this;exact fun e=>this (UInt8.toNat_inj.1 e)
theorem Z7{s:gA} (h:jP s≠[]):((jP s).getD 0 0).toNat≠48:=by
 induction s with
 |nil=>exact absurd rfl h
 |cons b s ih=>
   unfold jP at h⊢;rw[List.dropWhile_cons] at h⊢;split
   . rename_i q;rw[if_pos q] at h;exact ih h
   . rename_i q;rw[beq_iff_eq] at q;exact fun e=>q (UInt8.toNat_inj.1 e)
theorem Z8(s:gA):(jP s).length<=s.length:=(List.dropWhile_sublist _).length_le
def qS(m:Bool) (l:gA):gA:=if m=true then 45::l else l
def oL(d:gA) (q:Int) (m:Bool):Int×Int:=
 if q < -(n6 d:Int) then (0,7) else if (d.length:Int) + q >20 then (0,4)
 else jL (qS m (d.take ((d.length:Int)+min q 0).toNat++List.replicate q.toNat 48))
instance (s:gA):Decidable (qK s):=by unfold qK;infer_instance
def ki(s:gA):Int×Int:=
 if qK s then(if jP ((bV s 0).w++(bV s 0).b) =[] then(0,0) else oL (jP ((bV s 0).w++(bV s 0).b)) (fq (bV s 0).p-(bV s 0).b.length) (dj s 0 45 45)) else(0,3)
theorem Pf(s:gA):(Cu.new s).jj.1.fin=0↔qK s:=by
 have hk:(Cu.new s).ok:=⟨bu _,cb _⟩
 have h:=LM hk rfl;have e:(Cu.new s).ai=s:=List.take_length;rw[e] at h;have g:=zW s 0 (bu _);unfold qK;by_cases z:(cE s 0).2=0
 . obtain⟨h1,h2,h3,h4,h5,h6,h7⟩:=h.ok z;have h2:(Cu.new s).jj.1.e=s.length:=h2;have h4:(Cu.new s).jj.1.p=(cE s 0).1:=h4;unfold Cu.fin;rw[if_neg (by omega),h2,h4];split<;>constructor<;>intro k<;>first|(exact absurd k (by decide))|omega
 . have hb:=h.bad z;unfold Cu.fin;rw[if_pos (by rw[hb];exact z)];exact⟨fun k=>absurd (hb.symm.trans k) z,fun k=>absurd k.2 z⟩
theorem X4{c:Cu} (h:c.ok):c.jj.1.ok:=by
 unfold Cu.jj CO.whole CO.behind CO.qM;repeat' split
 all_goals
  refine Gd.ar (c:=c) ?_;repeat'(first|exact Gd.self h|refine Gd.fD ?_|refine Gd.aY ?_)
theorem X3(s:gA):(Cu.new s).ok:=⟨bu _,cb _⟩
theorem Xg(p:gA):-1099511627776<=fq p/\fq p<=1099511627776:=by
 have:=yw (p.filter bq);unfold fq iJ;repeat' split
 all_goals omega
theorem DM{s:gA} (h:qK s):(bV s 0).w.length+(bV s 0).b.length<=s.length:=by
 obtain⟨e,hp⟩:=DN h.1 h.2;have h1:=congrArg List.length hp.eq;rw[an,an,an] at h1;generalize (bV s 0).b=b at*;by_cases q:b=[]
 . rw[q] at h1⊢;simp at h1⊢;omega
 . rw[if_neg q,List.length_cons] at h1;omega
theorem ZL{d:gA} (h0:d≠[]) (h:(d.getD 0 0).toNat≠48):n6 d<d.length:=by
 rcases d7 (n6 d) d.length with q|q
 . exact q
 . have hl:0<d.length:=by cases d;exact absurd rfl h0;simp
   have:=(NX (d:=d) (j:=d.length-1) (by omega)).2;rw[show d.length-1-(d.length-1) =0 by omega] at this;exact absurd this h
structure mq(d:gA) (q:Int) (j:Nat):Prop where
 z:j<=n6 d
 q:j=0\/q+j<=0
theorem mq.last{d:gA} {q:Int} {j:Nat} (hz:n6 d<d.length) (h:mq d q j):(d.take (d.length-j)).getD (d.length-j-1) 0=d.getD (d.length-1-j) 0:=by
 have:=h.z;rw[ac,List.getElem?_take_of_lt (by omega),<-ac,show d.length-j-1=d.length-1-j by omega]
theorem mq.next{d:gA} {q:Int} {j:Nat} (hz:n6 d<d.length) (h:mq d q j) (hq:q+j<0) (hl:((d.take (d.length-j)).getD (d.length-j-1) 0).toNat=48):mq d q (j+1):=by
 refine⟨?_,.inr (by omega)⟩;rcases Nat.lt_or_eq_of_le h.z with k|k
 . exact k
 . rw[h.last hz,k] at hl;exact absurd hl (ZK hz)
theorem mq.kind{d:gA} {q:Int} {m:Bool} {j:Nat} (hz:n6 d<d.length) (h:mq d q j) (hq:q+j<0) (hl:((d.take (d.length-j)).getD (d.length-j-1) 0).toNat≠48):oL d q m=(0,7):=by
 have k:j=n6 d:=by
  rcases Nat.lt_or_eq_of_le h.z with k|k
  . rw[h.last hz] at hl;exact absurd (NX k).2 hl
  . exact k
 unfold oL;rw[if_pos (by omega)]
theorem mq.big{d:gA} {q:Int} {m:Bool} {j:Nat} (h:mq d q j) (hq:¬q+j<0) (hl:(d.length:Int)+q>20):oL d q m=(0,4):=by
 have:=h.z;have:=h.q;unfold oL;rw[if_neg (by omega),if_pos hl]
theorem mq.read{d:gA} {q:Int} {m:Bool} {j:Nat} (h:mq d q j) (hq:¬q+j<0) (hl:¬(d.length:Int)+q>20):oL d q m=jL (qS m (d.take (d.length-j)++List.replicate (q+j).toNat 48)):=by
 have h1:=h.z;have h2:=h.q;unfold oL;rw[if_neg (by omega),if_neg hl];rcases d7 0 j with k|k
 . rw[show q+j=0 by omega,show((d.length:Int)+min q 0).toNat=d.length-j by omega,show q.toNat=0 by omega];rfl
 . have:j=0:=by omega
   subst this;rw[show((d.length:Int)+min q 0).toNat=d.length-0 by omega,show q+((0:Nat):Int) =q by omega]
theorem QB(s:gA) (hp:s.length<=60000000):OK 134 ([.str s]) ([]) (.tuple [.int .i64 (ki s).1,.int .i64 (ki s).2]) (none):=by
 refine aq (C:=rz [(11,AH),(129,AX),(155,EP),(156,F9),(157,Fa),(158,EU)] [(3,[.cell 1 1 1])]) (ar ⟨JK,JY,TF,U1,U2,TL,trivial⟩) (fn:=Tryz.f134) fun hw hs=>?_;have hok:=X3 s;have hen:=Pf s;repeat'((conv=>whnf);first|apply af|apply aK|((first|apply av|apply gI)<;>intro h))
 all_goals try conv=>whnf
 all_goals try(refine ae.mk ?_;try dsimp only)
 all_goals (try simp only[aV,gM,gN] at*)
 all_goals try refine stay ?_
 . exact⟨trivial,hok,by decide,by show s.length<=_;omega⟩
 . exact⟨trivial,X4 hok⟩
 . exact⟨hen.1 ‹_›,by omega⟩
 . have:=DM (hen.1 ‹_›);omega
 . have:=DM (hen.1 ‹_›);rw[an];omega
 . rw[show ki s=(0,0) by unfold ki;rw[if_pos (hen.1 ‹_›),if_pos ‹_›]];refine ab.mk [] ?_<;>(repeat' first|trivial)
 . have hn:=hen.1 ‹_›;have hwi:ki s=oL (jP ((bV s 0).w++(bV s 0).b)) (fq (bV s 0).p-(bV s 0).b.length) (dj s 0 45 45):=by unfold ki;rw[if_pos hn,if_neg ‹_›]
   rw[hwi];have hl:=DM hn;have hp0:=Xg (bV s 0).p;have ht:=Z8 ((bV s 0).w++(bV s 0).b);rw[an] at ht;have hz:=ZL ‹_› (Z7 ‹_›);have hq0:IntKind.i64.wrap (fq (bV s 0).p-(bV s 0).b.length) =fq (bV s 0).p-(bV s 0).b.length:=by rw[bX];omega
   rw[hq0];have hq1:-1199511627776<=fq (bV s 0).p-(bV s 0).b.length/\fq (bV s 0).p-(bV s 0).b.length<=1099511627776:=by omega
   generalize jP ((bV s 0).w++(bV s 0).b) =d at*;generalize fq (bV s 0).p-(bV s 0).b.length=q at*;generalize dj s 0 45 45=m at*;generalize (bV s 0).w=w at*;generalize (bV s 0).b=b at*;refine aZ.mk Nat (mq d q) (fun j=>⟨82,[(6,.ptr 3 0),(7,.str (d.take (d.length-j)))],[.dead,.dead,.dead,.cells [.bool m,.str w,.str b,.int .i64 (q+j)]],[2]⟩) (fun j=>d.length-j) [] 0 ⟨bu _,.inl rfl⟩ ?_ (fun j hI _ _=>?_)
   . apply ay<;>(repeat' first|trivial|apply ah|apply eF|apply aN|apply jI|apply cT)
     . exact List.take_length.symm
     . exact(Int.add_zero q).symm
   have hz1:=hI.z;have hq2:=hI.q;have hdl:(d.take (d.length-j)).length=d.length-j:=by rw[d8];omega
   have hw1:IntKind.i64.wrap (((d.take (d.length-j)).length:Int)-1) =((d.length-j-1:Nat):Int):=by rw[bX,hdl];omega
   have hw2:IntKind.i64.wrap (q+j+1) =q+j+1:=by rw[bX];omega
   have hw3:¬q+j<0->(IntKind.i64.wrap (((d.take (d.length-j)).length:Int)+if 1099511627776<q+j then 1099511627776 else q+j)>20↔(d.length:Int)+q>20):=fun h=>by
    rw[bX,hdl];split<;>constructor<;>intro k<;>omega
   repeat'((conv=>whnf);first|apply af|(apply av<;>intro h)|with_reducible refine lG ?_ fun hc=>?_)
   all_goals try conv=>whnf
   all_goals try(refine ae.mk ?_;try dsimp only)
   all_goals (try simp only[hw1,hw2,Int.toNat_natCast] at*)
   all_goals first|refine stay ?_|omega|skip
   all_goals (try(exfalso;omega))
   . refine⟨[],j+1,hI.next hz ‹_› (by omega),?_,by omega⟩;apply ay<;>(repeat' first|trivial|apply ah|apply eF|apply aN|apply jI|apply cT)
     all_goals first
      |(rw[List.take_take,show min (d.length-j-1) (d.length-j) =d.length-(j+1) by omega])
      |omega
   . rw[hI.kind hz ‹_› (by omega)];refine ab.mk [] ?_<;>(repeat' first|trivial)
   . rw[hI.big (by omega) ((hw3 (by omega)).1 ‹_›)];refine ab.mk [] ?_<;>(repeat' first|trivial)
   . have hb:=fun k=>‹¬IntKind.i64.wrap _>20› ((hw3 (by omega)).2 k)
     rw[hI.read (by omega) hb];generalize d.take (d.length-j) =D at*;refine aZ.mk Nat (fun k=>k<=(q+j).toNat) (fun k=>⟨82,[(6,.ptr 3 0),(7,.str (D++List.replicate k 48))],[.dead,.dead,.dead,.cells [.bool m,.str w,.str b,.int .i64 (q+j-k)]],[2]⟩) (fun k=>(q+j).toNat-k) [] 0 (bu _) ?_ (fun k hk _ _=>?_)
     . apply ay<;>(repeat' first|trivial|apply ah|apply eF|apply aN|apply jI|apply cT)
       . exact(List.append_nil D).symm
       . exact(Int.sub_zero _).symm
     have hrl:(D++List.replicate k (48:UInt8)).length=D.length+k:=by rw[an,List.length_replicate]
     repeat'((conv=>whnf);first|apply af|((first|apply av|apply fF)<;>intro h))
     all_goals try conv=>whnf
     all_goals try(refine ae.mk ?_;try dsimp only)
     all_goals (try simp only[aV,gM,gN] at*)
     all_goals first|refine stay ?_|omega|(simp(discharger:=omega) [-List.getD_eq_getElem?_getD,wR]<;>omega)|skip
     . refine⟨[],k+1,by omega,?_,by omega⟩;apply ay<;>(repeat' first|trivial|apply ah|apply eF|apply aN|apply jI|apply cT)
       all_goals first
        |(rw[eg,<-List.replicate_succ'])
        |(simp(discharger:=omega) only[wR];omega)
     . have em:=‹m=true›
       rw[<-show k=(q+j).toNat by omega,show∀l,qS m l=45::l from fun l=>by unfold qS;rw[if_pos em]];refine ab.mk [] ?_<;>(repeat' first|trivial)
     . have em:=‹m=false›
       rw[<-show k=(q+j).toNat by omega,show∀l,qS m l=l from fun l=>by unfold qS;rw[if_neg (by rw[em];decide)]];refine ab.mk [] ?_<;>(repeat' first|trivial)
 . rw[show ki s=(0,3) by unfold ki;rw[if_neg (fun k=>absurd (hen.2 k) ‹_›)]];refine ab.mk [] ?_<;>(repeat' first|trivial)
def Fb:Sm:=fun args σ=>match args,σ with
 |[.str s],[]=>some (s.length<=60000000,.tuple [.int .i64 (ki s).1,.int .i64 (ki s).2],none)
 |_,_=>none
theorem U3:ax 134 Fb:=by
 intro args sg pre x r he hp;unfold Fb at he;split at he<;>cases he
 . exact QB (hp:=hp) ..
theorem Ga{c:Cu} (hc:c.live) (h:c.aE=0):nQ c.next.2/\c.next.2.t.length<=4*c.s.length:=by
 obtain⟨_,_,_,_,hn⟩:=bD hc h;have h2:c.cg.2.k≠0:=by
  unfold Cu.aE at h;split at h
  . rename_i q;exact absurd h q
  . split at h
    . cases h
    . rename_i q;rw[<-hn];exact q
 rw[hn];exact⟨VO hc.1 h2,VN hc.1⟩
structure lR(d m:Nat) (x:It):Prop where
 t:TT d x.1 x.2
 n:rl m x.1
def VTT(d:Nat):Prop:=∀(m:Nat) (c:Cu) (key:gA),c.live->c.aE=0->4*c.s.length<=m->key.length<=m->(gv d c.next.2 key c.next.1).1=0->∃x,lR d m ((gv d c.next.2 key c.next.1).2.1,x)/\aS ((gv d c.next.2 key c.next.1).2.1,x) =key
theorem J4{d:Nat} (hv:VTT d) {m:Nat}:∀(n:Nat) (c:Cu) (acc:List Nd) (cQ:List It),c.live->c.aE=0->4*c.s.length<=m->acc=aJ cQ->(∀x∈cQ,lR d m x/\aS x=[])->(ic (gv d) n c.next.2 c.next.1 acc).1=0->
   ∃l,(ic (gv d) n c.next.2 c.next.1 acc).2.1=aJ l/\∀x∈l,lR d m x/\aS x=[]
 |0,_,_,_,_,_,_,_,_,h=>by rw[ic] at h;cases h
 |n+1,c,acc,cQ,hc,h0,hm,ha,hi,h=>by
   rw[ic] at h⊢;obtain⟨t1,t2,_⟩:=bD hc h0;by_cases h1:(gv d c.next.2 [] c.next.1).1≠0
   . rw[if_pos h1] at h;exact absurd h h1
   rw[if_neg h1] at h⊢;have f1:=j0 d c.next.2 [] c.next.1 t1 (by omega);obtain⟨x,hx,hk⟩:=hv m c [] hc h0 hm (bu _) (by omega);have hi2:∀y∈cQ++[((gv d c.next.2 [] c.next.1).2.1,x)],lR d m y/\aS y=[]:=fun y hy=>by
    rcases List.mem_append.1 hy with hy|hy
    . exact hi y hy
    . rw[List.mem_singleton] at hy;rw[hy];exact⟨hx,hk⟩
   have ha2:acc++(gv d c.next.2 [] c.next.1).2.1=aJ (cQ++[((gv d c.next.2 [] c.next.1).2.1,x)]):=by
    rw[tZ,ha];show _=_++(_++[]);rw[List.append_nil]
   by_cases h2:(gv d c.next.2 [] c.next.1).2.2.aE≠0
   . rw[if_pos h2] at h;exact absurd h h2
   rw[if_neg h2] at h⊢;obtain⟨l1,l2,_⟩:=bD f1.live (by omega);have fs:=f1.s;by_cases h3:(gv d c.next.2 [] c.next.1).2.2.next.2.k.toNat=93
   . rw[if_pos h3];exact⟨_,ha2,hi2⟩
   rw[if_neg h3] at h⊢;by_cases h4:(gv d c.next.2 [] c.next.1).2.2.next.2.k.toNat≠44
   . rw[if_pos h4] at h;cases h
   rw[if_neg h4] at h⊢;by_cases h5:(gv d c.next.2 [] c.next.1).2.2.next.1.aE≠0
   . rw[if_pos h5] at h;exact absurd h h5
   rw[if_neg h5] at h⊢;exact J4 hv n _ _ _ l1 (by omega) (by rw[l2,fs,t2];exact hm) ha2 hi2 h
theorem Jc{d:Nat} (hv:VTT d) {m:Nat}:∀(n:Nat) (c:Cu) (ks:List gA) (acc:List Nd) (cQ:List It),c.live->c.aE=0->4*c.s.length<=m->acc=aJ cQ->ks=cQ.map aS->ks.Nodup->(∀x∈cQ,lR d m x/\cG (aS x))->(ie (gv d) n c.next.2 c.next.1 ks acc).1=0->
   ∃l,(ie (gv d) n c.next.2 c.next.1 ks acc).2.1=aJ l/\(l.map aS).Nodup/\∀x∈l,lR d m x/\cG (aS x)
 |0,_,_,_,_,_,_,_,_,_,_,_,h=>by rw[ie] at h;cases h
 |n+1,c,ks,acc,cQ,hc,h0,hm,ha,hks,hnd,hi,h=>by
   rw[ie] at h⊢;obtain⟨t1,t2,_⟩:=bD hc h0;by_cases a0:fk c.next.2 c.next.1 ks≠0
   . rw[if_pos a0] at h;exact absurd h a0
   rw[if_neg a0] at h⊢;obtain⟨m1,m2,m3,m4,m5⟩:=zO (t:=c.next.2) (ks:=ks) t1 (by omega);obtain⟨a1,a2,_⟩:=bD t1 m3;obtain⟨b1,b2,_⟩:=bD a1 m5;by_cases h1:(bK (gv d) c.next.2 c.next.1).1≠0
   . rw[if_pos h1] at h;exact absurd h h1
   rw[if_neg h1] at h⊢;obtain⟨r1,r2⟩:=Ga hc h0;have f1:Fit c.next.1.next.1.next.1 (bK (gv d) c.next.2 c.next.1):=j0 d _ _ _ b1 (show(bK (gv d) c.next.2 c.next.1).1=0 by omega);obtain⟨x,hx,hk⟩:=hv m c.next.1.next.1 c.next.2.t a1 m5 (by rw[a2,t2];exact hm) (by omega) (show(bK (gv d) c.next.2 c.next.1).1=0 by omega);have hx:lR d m ((bK (gv d) c.next.2 c.next.1).2.1,x):=hx;have hk:aS ((bK (gv d) c.next.2 c.next.1).2.1,x) =c.next.2.t:=hk;have htx:cG c.next.2.t:=by
    rcases r1 with ⟨_,q⟩|⟨q,_⟩|⟨q,_⟩|⟨q,_⟩
    . exact q
    . rw[q] at m1;exact absurd m1 (by decide)
    . have q:c.next.2.k.toNat=123\/c.next.2.k.toNat=125\/c.next.2.k.toNat=91\/c.next.2.k.toNat=93\/c.next.2.k.toNat=58\/c.next.2.k.toNat=44:=of_decide_eq_true q;omega
    . rcases q with q|q|q<;>(rw[q] at m1;exact absurd m1 (by decide))
   have hi2:∀y∈cQ++[((bK (gv d) c.next.2 c.next.1).2.1,x)],lR d m y/\cG (aS y):=fun y hy=>by
    rcases List.mem_append.1 hy with hy|hy
    . exact hi y hy
    . rw[List.mem_singleton] at hy;rw[hy];exact⟨hx,by rw[hk];exact htx⟩
   have ha2:acc++(bK (gv d) c.next.2 c.next.1).2.1=aJ (cQ++[((bK (gv d) c.next.2 c.next.1).2.1,x)]):=by
    rw[tZ,ha];show _=_++(_++[]);rw[List.append_nil]
   have hks2:ks++[c.next.2.t]=(cQ++[((bK (gv d) c.next.2 c.next.1).2.1,x)]).map aS:=by
    rw[fo,hks];show _=_++[aS _];rw[hk]
   have hnd2:(ks++[c.next.2.t]).Nodup:=by
    refine List.nodup_append.2 ⟨hnd,by simp,?_⟩;intro a ha b hb e;rw[List.mem_singleton] at hb;rw[<-hb,<-e] at m2;exact m2 ha
   by_cases h2:(bK (gv d) c.next.2 c.next.1).2.2.aE≠0
   . rw[if_pos h2] at h;exact absurd h h2
   rw[if_neg h2] at h⊢;obtain⟨l1,l2,_⟩:=bD f1.live (by omega);have fs:=f1.s;by_cases h3:(bK (gv d) c.next.2 c.next.1).2.2.next.2.k.toNat=125
   . rw[if_pos h3];exact⟨_,ha2,by rw[<-hks2];exact hnd2,hi2⟩
   rw[if_neg h3] at h⊢;by_cases h4:(bK (gv d) c.next.2 c.next.1).2.2.next.2.k.toNat≠44
   . rw[if_pos h4] at h;cases h
   rw[if_neg h4] at h⊢;by_cases h5:(bK (gv d) c.next.2 c.next.1).2.2.next.1.aE≠0
   . rw[if_pos h5] at h;exact absurd h h5
   rw[if_neg h5] at h⊢;exact Jc hv n _ _ _ _ l1 (by omega) (by rw[l2,fs,b2,a2,t2];exact hm) ha2 hks2 hnd2 hi2 h
theorem Lh{m:Nat} {l:List It} (h:∀x∈l,rl m x.1):rl m (aJ l):=fun z hz=>by
 obtain⟨x,hx,hz⟩:=wC hz;exact h x hx z hz
theorem KH{d m:Nat} {t:Tk} {key:gA} (h:nQ t) (hl:fI t.k=true) (h1:t.t.length<=m) (h2:key.length<=m):∃x,lR d m ([⟨t.k,key,t.t,1⟩],x)/\aS (([⟨t.k,key,t.t,1⟩]:List Nd),x) =key:=
 ⟨_,⟨.leaf d t.k key t.t h hl,fun z hz=>by rw[List.mem_singleton] at hz;rw[hz];exact⟨h2,h1⟩⟩,rfl⟩
theorem CX:∀d,VTT d
 |0=>fun m c key hc h0 hm hk h=>by
   obtain⟨r1,r2⟩:=Ga hc h0;rw[gv] at h⊢;by_cases h1:c.next.2.k.toNat=123\/c.next.2.k.toNat=91
   . rw[if_pos h1] at h;cases h
   rw[if_neg h1] at h⊢;by_cases h2:fI c.next.2.k=true
   . rw[if_pos h2];exact KH r1 h2 (by omega) hk
   . rw[if_neg h2] at h;cases h
 |d+1=>fun m c key hc h0 hm hk h=>by
   obtain⟨r1,r2⟩:=Ga hc h0;obtain⟨t1,t2,_⟩:=bD hc h0;have hnk:=DH hc h0;have hsg:c.next.2.k.toNat=123\/c.next.2.k.toNat=91->c.next.2.t=[]:=fun q=>by
    rcases hnk with ⟨_,e⟩|⟨_,e⟩
    . exact e
    . rw[EE q] at e;cases e
   rw[gv] at h⊢;by_cases h1:c.next.2.k.toNat=123
   . rw[if_pos h1] at h⊢;have e1:c.next.2.k=123:=UInt8.toNat_inj.1 (by rw[h1];rfl);rw[hsg (.inl h1),e1];have key1:∃l,(bG (gv d) c.next.1).2.1=aJ l/\(l.map aS).Nodup/\∀x∈l,lR d m x/\cG (aS x):=by
      have h:(bG (gv d) c.next.1).1=0:=h;unfold bG at h⊢;by_cases a1:c.next.1.aE≠0
      . rw[if_pos a1] at h;exact absurd h a1
      rw[if_neg a1] at h⊢;by_cases a2:c.next.1.next.2.k.toNat=125
      . rw[if_pos a2];exact⟨[],rfl,by simp,fun _ hx=>by cases hx⟩
      rw[if_neg a2] at h⊢;exact Jc (CX d) _ _ [] [] [] t1 (by omega) (by rw[t2];exact hm) rfl rfl (by simp) (fun _ hx=>by cases hx) h
     obtain⟨l,q1,q2,q3⟩:=key1;show∃x,lR (d+1) m (⟨123,key,[],((bG (gv d) c.next.1).2.1.length:Int)+1⟩::(bG (gv d) c.next.1).2.1,x)/\key=key;rw[q1];refine⟨_,⟨.obj d key l (fun x hx=>(q3 x hx).1.t) q2 (fun x hx=>(q3 x hx).2),fun z hz=>?_⟩,rfl⟩;rcases List.mem_cons.1 hz with rfl|hz
     . exact⟨hk,bu _⟩
     . exact Lh (fun x hx=>(q3 x hx).1.n) z hz
   rw[if_neg h1] at h⊢;by_cases h2:c.next.2.k.toNat=91
   . rw[if_pos h2] at h⊢;have e1:c.next.2.k=91:=UInt8.toNat_inj.1 (by rw[h2];rfl);rw[hsg (.inr h2),e1];have key1:∃l,(bH (gv d) c.next.1).2.1=aJ l/\∀x∈l,lR d m x/\aS x=[]:=by
      have h:(bH (gv d) c.next.1).1=0:=h;unfold bH at h⊢;by_cases a1:c.next.1.aE≠0
      . rw[if_pos a1] at h;exact absurd h a1
      rw[if_neg a1] at h⊢;by_cases a2:c.next.1.next.2.k.toNat=93
      . rw[if_pos a2];exact⟨[],rfl,fun _ hx=>by cases hx⟩
      rw[if_neg a2] at h⊢;exact J4 (CX d) _ _ [] [] t1 (by omega) (by rw[t2];exact hm) rfl (fun _ hx=>by cases hx) h
     obtain⟨l,q1,q3⟩:=key1;show∃x,lR (d+1) m (⟨91,key,[],((bH (gv d) c.next.1).2.1.length:Int)+1⟩::(bH (gv d) c.next.1).2.1,x)/\key=key;rw[q1];refine⟨_,⟨.pg d key l (fun x hx=>(q3 x hx).1.t) (fun x hx=>(q3 x hx).2),fun z hz=>?_⟩,rfl⟩;rcases List.mem_cons.1 hz with rfl|hz
     . exact⟨hk,bu _⟩
     . exact Lh (fun x hx=>(q3 x hx).1.n) z hz
   rw[if_neg h2] at h⊢;by_cases h3:fI c.next.2.k=true
   . rw[if_pos h3];exact KH r1 h3 (by omega) hk
   . rw[if_neg h3] at h;cases h
theorem Nf{s:gA} (hl:s.length<=60000000) (h:dR s=0):∃x,TT 32 (dS s) x/\rl (4*s.length) (dS s)/\(kJ (dS s)).key=[]:=by
 have hc:(Cu.new s).live:=⟨⟨bu _,cb _⟩,rfl,hl⟩
 have e:dS s=(gv 32 (Cu.new s).next.2 [] (Cu.new s).next.1).2.1:=by unfold dS;rw[if_pos h]
 unfold dR at h;by_cases h1:(Cu.new s).aE≠0
 . rw[if_pos h1] at h;exact absurd h h1
 rw[if_neg h1] at h;by_cases h2:(gv 32 (Cu.new s).next.2 [] (Cu.new s).next.1).1≠0
 . rw[if_pos h2] at h;exact absurd h h2
 obtain⟨x,hx,hk⟩:=CX 32 (4*s.length) (.new s) [] hc (by omega) (cb _) (bu _) (by omega);rw[e];exact⟨x,hx.t,hx.n,hk⟩
def p0(L:List Nd) (k:Int):gA:=if k<0 then[] else(L.getD k.toNat default).t
def gH(k e:Int):Int:=if k<0 then e else 0
def rT(k:Int):Int:=if k<0 then 0 else k
def oZ(L:List Nd) (k:Int):List Nat:=if k<0 then[] else bA L k
def nN(l:List V) (k:Int):Prop:=gK l/\gT (al l)/\k<(al l).length
theorem Qn(c:Bool) (l:List V) (k:Int) (hp:nN l k/\0<=k):OK 131 ([.int .i64 k,.ptr 0 0]) ([.cells [.list c 4 l]]) (.tuple [.str ((al l).getD k.toNat default).t,.int .i64 0]) (none):=by
 refine aq (C:=cx []) (ar trivial) (fn:=Tryz.f131) fun hw hs=>?_;obtain⟨hp,h0⟩:=hp;obtain⟨hN,hl,hk⟩:=hp;obtain⟨L,rfl,eL⟩:=pG hN;rw[eL] at hl hk⊢;have hml:(L.map aW).length=L.length:=aA _;repeat'((conv=>whnf);first|apply af|with_reducible apply kH)
 all_goals try conv=>whnf
 all_goals try(refine ae.mk ?_;try dsimp only)
 all_goals (try simp only[eh,eX] at*)
 all_goals first|refine stay ?_|trivial|omega|skip
 refine ab.mk [] ?_<;>(repeat' first|trivial)
def F3:Sm:=fun args σ=>match args,σ with
 |[.int .i64 k,.ptr 0 0],[.cells [.list c 4 l]]=>some (nN l k/\0<=k,.tuple [.str ((al l).getD k.toNat default).t,.int .i64 0],none)
 |_,_=>none
theorem TV:ax 131 F3:=by
 intro args sg pre x r he hp;unfold F3 at he;split at he<;>cases he
 . exact Qn (hp:=hp) ..
theorem Qk(k:Int) (hp:True):OK 98 ([.int .i64 k]) ([]) (.tuple [.int .i64 k,.int .i64 0]) (none):=by
 refine aq (C:=cx []) (ar trivial) (fn:=Tryz.f98) fun hw hs=>?_;all_goals try conv=>whnf
 all_goals try(refine ae.mk ?_;try dsimp only)
 all_goals try refine stay ?_
 refine ab.mk [] ?_<;>(repeat' first|trivial)
def AR:Sm:=fun args σ=>match args,σ with
 |[.int .i64 k],[]=>some (True,.tuple [.int .i64 k,.int .i64 0],none)
 |_,_=>none
theorem JU:ax 98 AR:=by
 intro args sg pre x r he hp;unfold AR at he;split at he<;>cases he
 . exact Qk (hp:=hp) ..
theorem Qi(c:Bool) (l:List V) (k:Int) (hp:gK l/\gT (al l)):OK 100 ([.int .i64 k,.ptr 0 0]) ([.cells [.list c 4 l]]) (.tuple [.buf 1,.int .i64 0]) (some [.cells [.list c 4 l],.buf 1 0 ((bA (al l) k).map nI)]):=by
 refine aq (C:=cx [(53,uW)]) (ar ⟨zt,trivial⟩) (fn:=Tryz.f100) fun hw hs=>?_;obtain⟨hN,hl⟩:=hp;repeat'((conv=>whnf);apply af)
 all_goals try conv=>whnf
 all_goals try(refine ae.mk ?_;try dsimp only)
 all_goals (try simp only[eh,eX] at*)
 all_goals first|refine stay ?_|trivial|skip
 refine ab.mk [] ?_<;>(repeat' first|trivial)
def F2:Sm:=fun args σ=>match args,σ with
 |[.int .i64 k,.ptr 0 0],[.cells [.list c 4 l]]=>some (gK l/\gT (al l),.tuple [.buf 1,.int .i64 0],some [.cells [.list c 4 l],.buf 1 0 ((bA (al l) k).map nI)])
 |_,_=>none
theorem TU:ax 100 F2:=by
 intro args sg pre x r he hp;unfold F2 at he;split at he<;>cases he
 . exact Qi (hp:=hp) ..
theorem Qh(c:Bool) (l:List V) (k e:Int) (hp:nN l k):OK 130 ([.int .i64 k,.int .i64 e,.func (.func 131) [] [.ptr 0 0]]) ([.cells [.list c 4 l]]) (.agg [.str (p0 (al l) k),.bool (decide (k>=0)),.int .i64 (gH k e)]) (none):=by
 refine aq (C:=cx [(131,F3)]) (ar ⟨TV,trivial⟩) (fn:=Tryz.f130) fun hw hs=>?_;unfold p0 gH;repeat'((conv=>whnf);first|apply af|(apply av<;>intro h))
 all_goals try conv=>whnf
 all_goals try(refine ae.mk ?_;try dsimp only)
 all_goals try refine stay ?_
 . rw[if_pos (by omega),if_pos (by omega),decide_eq_false (by omega)];refine ab.mk [] ?_<;>(repeat' first|trivial)
 . exact⟨hp,by omega⟩
 . rw[if_neg (by omega),if_neg (by omega),decide_eq_true (by omega)];refine ab.mk [] ?_<;>(repeat' first|trivial)
def F1:Sm:=fun args σ=>match args,σ with
 |[.int .i64 k,.int .i64 e,.func (.func 131) [] [.ptr 0 0]],[.cells [.list c 4 l]]=>some (nN l k,.agg [.str (p0 (al l) k),.bool (decide (k>=0)),.int .i64 (gH k e)],none)
 |_,_=>none
theorem TS:ax 130 F1:=by
 intro args sg pre x r he hp;unfold F1 at he;split at he<;>cases he
 . exact Qh (hp:=hp) ..
theorem Qg(c:Bool) (l:List V) (k e:Int) (hp:nN l k):OK 99 ([.int .i64 k,.int .i64 e,.func (.func 100) [] [.ptr 0 0]]) ([.cells [.list c 4 l]]) (.agg [.buf 1,.bool (decide (k>=0)),.int .i64 (gH k e)]) (some [.cells [.list c 4 l],.buf 1 0 ((oZ (al l) k).map nI)]):=by
 refine aq (C:=cx [(100,F2)]) (ar ⟨TU,trivial⟩) (fn:=Tryz.f99) fun hw hs=>?_;unfold oZ gH;repeat'((conv=>whnf);first|apply af|(apply av<;>intro h))
 all_goals try conv=>whnf
 all_goals try(refine ae.mk ?_;try dsimp only)
 all_goals (try simp only[eh,eX] at*)
 all_goals try refine stay ?_
 . rw[if_pos (by omega),if_pos (by omega),decide_eq_false (by omega)];refine ab.mk [.cell 1 0 1,.swap 1 2] ?_<;>(repeat' first|trivial)
 . exact⟨hp.1,hp.2.1⟩
 . rw[if_neg (by omega),if_neg (by omega),decide_eq_true (by omega)];refine ab.mk [.swap 1 2] ?_<;>(repeat' first|trivial)
def F0:Sm:=fun args σ=>match args,σ with
 |[.int .i64 k,.int .i64 e,.func (.func 100) [] [.ptr 0 0]],[.cells [.list c 4 l]]=>some (nN l k,.agg [.buf 1,.bool (decide (k>=0)),.int .i64 (gH k e)],some [.cells [.list c 4 l],.buf 1 0 ((oZ (al l) k).map nI)])
 |_,_=>none
theorem TR:ax 99 F0:=by
 intro args sg pre x r he hp;unfold F0 at he;split at he<;>cases he
 . exact Qg (hp:=hp) ..
theorem E4(L:List Nd) (q:Int) (key:gA) (a b:Int):(aT L q key a b).1<L.length:=by
 rcases E3 L q key a b with h|h<;>omega
theorem Qo(c:Bool) (l:List V) (q:Int) (key:gA) (hp:gK l/\gT (al l)):OK 92 ([.list c 4 l,.int .i64 q,.str key]) ([]) (.agg [.str (p0 (al l) (aT (al l) q key 115 115).1),.bool (decide ((aT (al l) q key 115 115).1>=0)),.int .i64 (gH (aT (al l) q key 115 115).1 (aT (al l) q key 115 115).2)]) (none):=by
 refine aq (C:=cx [(96,uR),(130,F1)]) (ar ⟨zn,TS,trivial⟩) (fn:=Tryz.f92) fun hw hs=>?_;obtain⟨hN,hp⟩:=hp;repeat'((conv=>whnf);apply af)
 all_goals try conv=>whnf
 all_goals try(refine ae.mk ?_;try dsimp only)
 all_goals first|refine stay ?_|trivial|skip
 . exact⟨hN,hp,E4 _ _ _ _ _⟩
 . refine ab.mk [] ?_<;>(repeat' first|trivial)
def AU:Sm:=fun args σ=>match args,σ with
 |[.list c 4 l,.int .i64 q,.str key],[]=>some (gK l/\gT (al l),.agg [.str (p0 (al l) (aT (al l) q key 115 115).1),.bool (decide ((aT (al l) q key 115 115).1>=0)),.int .i64 (gH (aT (al l) q key 115 115).1 (aT (al l) q key 115 115).2)],none)
 |_,_=>none
theorem JV:ax 92 AU:=by
 intro args sg pre x r he hp;unfold AU at he;split at he<;>cases he
 . exact Qo (hp:=hp) ..
theorem Qj(c:Bool) (l:List V) (q:Int) (key:gA) (hp:gK l/\gT (al l)):OK 51 ([.list c 4 l,.int .i64 q,.str key]) ([]) (.agg [.buf 0,.bool (decide ((aT (al l) q key 91 91).1>=0)),.int .i64 (gH (aT (al l) q key 91 91).1 (aT (al l) q key 91 91).2)]) (some [.buf 1 0 ((oZ (al l) (aT (al l) q key 91 91).1).map nI)]):=by
 refine aq (C:=cx [(96,uR),(99,F0)]) (ar ⟨zn,TR,trivial⟩) (fn:=Tryz.f51) fun hw hs=>?_;obtain⟨hN,hp⟩:=hp;repeat'((conv=>whnf);apply af)
 all_goals try conv=>whnf
 all_goals try(refine ae.mk ?_;try dsimp only)
 all_goals (try simp only[eh,eX] at*)
 all_goals first|refine stay ?_|trivial|skip
 . exact⟨hN,hp,E4 _ _ _ _ _⟩
 . refine ab.mk [.swap 0 2] ?_<;>(repeat' first|trivial)
def AQ:Sm:=fun args σ=>match args,σ with
 |[.list c 4 l,.int .i64 q,.str key],[]=>some (gK l/\gT (al l),.agg [.buf 0,.bool (decide ((aT (al l) q key 91 91).1>=0)),.int .i64 (gH (aT (al l) q key 91 91).1 (aT (al l) q key 91 91).2)],some [.buf 1 0 ((oZ (al l) (aT (al l) q key 91 91).1).map nI)])
 |_,_=>none
theorem JT:ax 51 AQ:=by
 intro args sg pre x r he hp;unfold AQ at he;split at he<;>cases he
 . exact Qj (hp:=hp) ..
def nW(L:List Nd) (k:Int):Int×Int:=ki (L.getD k.toNat default).t
def rW(L:List Nd) (k:Int):Int:=if k<0 then 0 else if(nW L k).2≠0 then 0 else(nW L k).1
def rV(L:List Nd) (k:Int):Bool:=if k<0 then false else decide ((nW L k).2=0)
def ql(L:List Nd) (k e:Int):Int:=if k<0 then e else(nW L k).2
theorem Qp(c:Bool) (l:List V) (k:Int) (hp:nN l k/\0<=k):OK 133 ([.int .i64 k,.ptr 0 0]) ([.cells [.list c 4 l]]) (.tuple [.int .i64 (nW (al l) k).1,.int .i64 (nW (al l) k).2]) (none):=by
 refine aq (C:=cx [(134,Fb)]) (ar ⟨U3,trivial⟩) (fn:=Tryz.f133) fun hw hs=>?_;obtain⟨hp,h0⟩:=hp;obtain⟨hN,hl,hk⟩:=hp;obtain⟨L,rfl,eL⟩:=pG hN;rw[eL] at hl hk⊢;have hml:(L.map aW).length=L.length:=aA _;have hn:=xl hl (a:=k.toNat) (by omega);unfold nW;repeat'((conv=>whnf);first|apply af|with_reducible apply kH)
 all_goals try conv=>whnf
 all_goals try(refine ae.mk ?_;try dsimp only)
 all_goals (try simp only[eh,eX] at*)
 all_goals first|refine stay ?_|trivial|omega|skip
 refine ab.mk [] ?_<;>(repeat' first|trivial)
def AW:Sm:=fun args σ=>match args,σ with
 |[.int .i64 k,.ptr 0 0],[.cells [.list c 4 l]]=>some (nN l k/\0<=k,.tuple [.int .i64 (nW (al l) k).1,.int .i64 (nW (al l) k).2],none)
 |_,_=>none
theorem JX:ax 133 AW:=by
 intro args sg pre x r he hp;unfold AW at he;split at he<;>cases he
 . exact Qp (hp:=hp) ..
theorem Qe(c:Bool) (l:List V) (k e:Int) (hp:nN l k):OK 97 ([.int .i64 k,.int .i64 e,.func (.func 133) [] [.ptr 0 0]]) ([.cells [.list c 4 l]]) (.agg [.int .i64 (rW (al l) k),.bool (rV (al l) k),.int .i64 (ql (al l) k e)]) (none):=by
 refine aq (C:=cx [(133,AW),(98,AR)]) (ar ⟨JX,JU,trivial⟩) (fn:=Tryz.f97) fun hw hs=>?_;unfold rW rV ql;repeat'((conv=>whnf);first|apply af|apply aK|(apply av<;>intro h))
 all_goals try conv=>whnf
 all_goals try(refine ae.mk ?_;try dsimp only)
 all_goals try refine stay ?_
 . rw[if_pos (by omega),if_pos (by omega),if_pos (by omega)];refine ab.mk [] ?_<;>(repeat' first|trivial)
 . exact⟨hp,by omega⟩
 . rw[if_neg (by omega),if_neg (show¬(nW _ _).2≠0 by omega),if_neg (by omega),decide_eq_true (by omega),if_neg (by omega),‹(nW _ _).2=0›];refine ab.mk [] ?_<;>(repeat' first|trivial)
 . rw[if_neg (by omega),if_pos (show(nW _ _).2≠0 by omega),if_neg (by omega),decide_eq_false (by omega),if_neg (by omega)];refine ab.mk [] ?_<;>(repeat' first|trivial)
theorem Qf(k e:Int) (hp:True):OK 97 ([.int .i64 k,.int .i64 e,.func (.func 98) [] []]) ([]) (.agg [.int .i64 (rT k),.bool (decide (k>=0)),.int .i64 (gH k e)]) (none):=by
 refine aq (C:=cx [(133,AW),(98,AR)]) (ar ⟨JX,JU,trivial⟩) (fn:=Tryz.f97) fun hw hs=>?_;unfold rT gH;repeat'((conv=>whnf);first|apply af|(apply av<;>intro h))
 all_goals try conv=>whnf
 all_goals try(refine ae.mk ?_;try dsimp only)
 all_goals try refine stay ?_
 . rw[if_pos (by omega),if_pos (by omega),decide_eq_false (by omega)];refine ab.mk [] ?_<;>(repeat' first|trivial)
 . rw[if_neg (by omega),if_neg (by omega),decide_eq_true (by omega)];refine ab.mk [] ?_<;>(repeat' first|trivial)
def AP:Sm:=fun args σ=>match args,σ with
 |[.int .i64 k,.int .i64 e,.func (.func 133) [] [.ptr 0 0]],[.cells [.list c 4 l]]=>some (nN l k,.agg [.int .i64 (rW (al l) k),.bool (rV (al l) k),.int .i64 (ql (al l) k e)],none)
 |[.int .i64 k,.int .i64 e,.func (.func 98) [] []],[]=>some (True,.agg [.int .i64 (rT k),.bool (decide (k>=0)),.int .i64 (gH k e)],none)
 |_,_=>none
theorem JS:ax 97 AP:=by
 intro args sg pre x r he hp;unfold AP at he;split at he<;>cases he
 . exact Qe (hp:=hp) ..
 . exact Qf (hp:=hp) ..
theorem Qq(c:Bool) (l:List V) (q:Int) (key:gA) (hp:gK l/\gT (al l)):OK 95 ([.list c 4 l,.int .i64 q,.str key]) ([]) (.agg [.int .i64 (rW (al l) (aT (al l) q key 110 110).1),.bool (rV (al l) (aT (al l) q key 110 110).1),.int .i64 (ql (al l) (aT (al l) q key 110 110).1 (aT (al l) q key 110 110).2)]) (none):=by
 refine aq (C:=cx [(96,uR),(97,AP)]) (ar ⟨zn,JS,trivial⟩) (fn:=Tryz.f95) fun hw hs=>?_;obtain⟨hN,hp⟩:=hp;repeat'((conv=>whnf);apply af)
 all_goals try conv=>whnf
 all_goals try(refine ae.mk ?_;try dsimp only)
 all_goals first|refine stay ?_|trivial|skip
 . exact⟨hN,hp,E4 _ _ _ _ _⟩
 . refine ab.mk [] ?_<;>(repeat' first|trivial)
def AV:Sm:=fun args σ=>match args,σ with
 |[.list c 4 l,.int .i64 q,.str key],[]=>some (gK l/\gT (al l),.agg [.int .i64 (rW (al l) (aT (al l) q key 110 110).1),.bool (rV (al l) (aT (al l) q key 110 110).1),.int .i64 (ql (al l) (aT (al l) q key 110 110).1 (aT (al l) q key 110 110).2)],none)
 |_,_=>none
theorem JW:ax 95 AV:=by
 intro args sg pre x r he hp;unfold AV at he;split at he<;>cases he
 . exact Qq (hp:=hp) ..
theorem Ql(c:Bool) (l:List V) (q:Int) (key:gA) (hp:gK l/\gT (al l)):OK 50 ([.list c 4 l,.int .i64 q,.str key]) ([]) (.agg [.int .i64 (rT (aT (al l) q key 123 123).1),.bool (decide ((aT (al l) q key 123 123).1>=0)),.int .i64 (gH (aT (al l) q key 123 123).1 (aT (al l) q key 123 123).2)]) (none):=by
 refine aq (C:=cx [(96,uR),(97,AP)]) (ar ⟨zn,JS,trivial⟩) (fn:=Tryz.f50) fun hw hs=>?_;obtain⟨hN,hp⟩:=hp;repeat'((conv=>whnf);apply af)
 all_goals try conv=>whnf
 all_goals try(refine ae.mk ?_;try dsimp only)
 all_goals first|refine stay ?_|trivial|skip
 refine ab.mk [] ?_<;>(repeat' first|trivial)
def uQ:Sm:=fun args σ=>match args,σ with
 |[.list c 4 l,.int .i64 q,.str key],[]=>some (gK l/\gT (al l),.agg [.int .i64 (rT (aT (al l) q key 123 123).1),.bool (decide ((aT (al l) q key 123 123).1>=0)),.int .i64 (gH (aT (al l) q key 123 123).1 (aT (al l) q key 123 123).2)],none)
 |_,_=>none
theorem zm:ax 50 uQ:=by
 intro args sg pre x r he hp;unfold uQ at he;split at he<;>cases he
 . exact Ql (hp:=hp) ..
end Go.Proofs.YtchllohbglebiaaGreatDoor
