/-
  A part of the proof.
-/
import Derived.Test.YtchllohbglebiaaGreatDoorJTx
set_option linter.unusedSimpArgs false
set_option linter.unusedVariables false
set_option maxHeartbeats 4000000
set_option maxRecDepth 100000
namespace Go.Proofs.YtchllohbglebiaaGreatDoor
open Go Go.VG
structure Nd where
 k:UInt8
 key:gA
 t:gA
 sz:Int
instance:Inhabited Nd:=⟨⟨0,[],[],0⟩⟩
abbrev eNc(n:Nd):List V:=[.int .u8 n.k.toNat,.str n.key,.str n.t,.int .i64 n.sz]
abbrev aW(n:Nd):V:=.agg (eNc n)
def Cu.aE(c:Cu):Int:=if c.next.1.c≠0 then c.next.1.c else if c.next.2.k=0 then 1 else 0
abbrev RT:Type:=Int×List Nd×Cu
def fI(k:UInt8):Bool:=decide (k.toNat=115\/k.toNat=110\/k.toNat=116\/k.toNat=102\/k.toNat=122)
abbrev VF:Type:=Tk->gA->Cu->RT
def ic(v:VF):Nat->Tk->Cu->List Nd->RT
 |0,_,c,_=>(1,[],c)
 |n+1,t,c,acc=>
   if(v t [] c).1≠0 then((v t [] c).1,[],c)
   else if(v t [] c).2.2.aE≠0 then((v t [] c).2.2.aE,[],c)
   else if(v t [] c).2.2.next.2.k.toNat=93 then(0,acc++(v t [] c).2.1,(v t [] c).2.2.next.1)
   else if(v t [] c).2.2.next.2.k.toNat≠44 then(3,[],c)
   else if(v t [] c).2.2.next.1.aE≠0 then((v t [] c).2.2.next.1.aE,[],c)
   else ic v n (v t [] c).2.2.next.1.next.2 (v t [] c).2.2.next.1.next.1 (acc++(v t [] c).2.1)
def bH(v:VF) (c:Cu):RT:=
 if c.aE≠0 then(c.aE,[],c) else if c.next.2.k.toNat=93 then(0,[],c.next.1) else ic v (c.next.1.e-c.next.1.p+1) c.next.2 c.next.1 []
def fk(t:Tk) (c:Cu) (ks:List gA):Int:=
 if t.k.toNat≠115 then 3 else if t.t∈ks then 8 else if c.aE≠0 then c.aE else if c.next.2.k.toNat≠58 then 3 else c.next.1.aE
def bK(v:VF) (t:Tk) (c:Cu):RT:=v c.next.1.next.2 t.t c.next.1.next.1
def ie(v:VF):Nat->Tk->Cu->List gA->List Nd->RT
 |0,_,c,_,_=>(1,[],c)
 |n+1,t,c,ks,acc=>
   if fk t c ks≠0 then(fk t c ks,[],c)
   else if(bK v t c).1≠0 then((bK v t c).1,[],c)
   else if(bK v t c).2.2.aE≠0 then((bK v t c).2.2.aE,[],c)
   else if(bK v t c).2.2.next.2.k.toNat=125 then(0,acc++(bK v t c).2.1,(bK v t c).2.2.next.1)
   else if(bK v t c).2.2.next.2.k.toNat≠44 then(3,[],c)
   else if(bK v t c).2.2.next.1.aE≠0 then((bK v t c).2.2.next.1.aE,[],c)
   else ie v n (bK v t c).2.2.next.1.next.2 (bK v t c).2.2.next.1.next.1 (ks++[t.t]) (acc++(bK v t c).2.1)
def bG(v:VF) (c:Cu):RT:=
 if c.aE≠0 then(c.aE,[],c) else if c.next.2.k.toNat=125 then(0,[],c.next.1) else ie v (c.next.1.e-c.next.1.p+1) c.next.2 c.next.1 [] []
def gv:Nat->VF
 |0,t,key,c=>if t.k.toNat=123\/t.k.toNat=91 then(33,[],c) else if fI t.k=true then(0,[⟨t.k,key,t.t,1⟩],c) else(3,[],c)
 |k+1,t,key,c=>
   if t.k.toNat=123 then((bG (gv k) c).1,⟨t.k,key,t.t,(bG (gv k) c).2.1.length+1⟩::(bG (gv k) c).2.1,(bG (gv k) c).2.2)
   else if t.k.toNat=91 then((bH (gv k) c).1,⟨t.k,key,t.t,(bH (gv k) c).2.1.length+1⟩::(bH (gv k) c).2.1,(bH (gv k) c).2.2)
   else if fI t.k=true then(0,[⟨t.k,key,t.t,1⟩],c) else(3,[],c)
def Cu.live(c:Cu):Prop:=c.ok/\c.c=0/\c.s.length<=60000000
theorem bD{c:Cu} (h:c.live) (h0:c.aE=0):c.next.1.live/\c.next.1.s=c.s/\c.next.1.e=c.e/\c.p<c.next.1.p/\c.next=c.cg:=by
 have hs:=ux h.1;unfold Cu.aE at h0;split at h0
 . rename_i h1;exact absurd h0 h1
 . rename_i h1;split at h0
   . cases h0
   . rename_i h2;have h1:c.next.1.c=0:=by omega
     have hd:c.cg.1.c=0:=by rw[<-hs.2.1];exact h1
     have he:c.next=c.cg:=Prod.ext (hs.2.2 hd) hs.1;have hn:=Ll h.1 hd;rw[he] at h2⊢;exact⟨⟨hn.1,hd,by rw[hn.2.1];exact h.2.2⟩,hn.2.1,hn.2.2.1,hn.2.2.2.2.2 h2,rfl⟩
structure Fit(c:Cu) (r:RT):Prop where
 live:r.2.2.live
 s:r.2.2.s=c.s
 e:r.2.2.e=c.e
 p:c.p<=r.2.2.p
 len:r.2.1.length<=r.2.2.p-c.p+1
def lQ(v:VF):Prop:=∀t key c,c.live->(v t key c).1=0->Fit c (v t key c)
theorem J3{v:VF} (hv:lQ v):∀(n:Nat) (t:Tk) (c c0:Cu) (acc:List Nd),c.live->c.s=c0.s->c.e=c0.e->c0.p<=c.p->acc.length<=c.p-c0.p->(ic v n t c acc).1=0->
   Fit c0 (ic v n t c acc)/\(ic v n t c acc).2.1.length<=(ic v n t c acc).2.2.p-c0.p
 |0,_,_,_,_,_,_,_,_,_,h=>by rw[ic] at h;cases h
 |n+1,t,c,c0,acc,hc,hs,he,hp,ha,h=>by
   rw[ic] at h⊢;by_cases h1:(v t [] c).1≠0
   . rw[if_pos h1] at h;exact absurd h h1
   rw[if_neg h1] at h⊢;have f1:=hv t [] c hc (by omega);by_cases h2:(v t [] c).2.2.aE≠0
   . rw[if_pos h2] at h;exact absurd h h2
   rw[if_neg h2] at h⊢;obtain⟨l1,l2,l3,l4,_⟩:=bD f1.live (by omega);have fs:=f1.s;have fe:=f1.e;have fp:=f1.p;have fl:=f1.len;by_cases h3:(v t [] c).2.2.next.2.k.toNat=93
   . rw[if_pos h3] at h⊢;have e:(acc++(v t [] c).2.1).length<=(v t [] c).2.2.next.1.p-c0.p:=by rw[an];omega
     exact⟨⟨l1,by rw[l2,fs,hs],by rw[l3,fe,he],by show c0.p<=(v t [] c).2.2.next.1.p;omega,Nat.le_trans e (Nat.le_succ _)⟩,e⟩
   rw[if_neg h3] at h⊢;by_cases h4:(v t [] c).2.2.next.2.k.toNat≠44
   . rw[if_pos h4] at h;cases h
   rw[if_neg h4] at h⊢;by_cases h5:(v t [] c).2.2.next.1.aE≠0
   . rw[if_pos h5] at h;exact absurd h h5
   rw[if_neg h5] at h⊢;obtain⟨m1,m2,m3,m4,_⟩:=bD l1 (by omega);exact J3 hv n _ _ c0 _ m1 (by rw[m2,l2,fs,hs]) (by rw[m3,l3,fe,he]) (by omega) (by rw[an];omega) h
theorem CV{v:VF} (hv:lQ v) {c:Cu} (hc:c.live) (h:(bH v c).1=0):Fit c (bH v c)/\(bH v c).2.1.length<=(bH v c).2.2.p-c.p:=by
 unfold bH at h⊢;by_cases h1:c.aE≠0
 . rw[if_pos h1] at h;exact absurd h h1
 rw[if_neg h1] at h⊢;obtain⟨l1,l2,l3,l4,_⟩:=bD hc (by omega);by_cases h3:c.next.2.k.toNat=93
 . rw[if_pos h3] at h⊢;exact⟨⟨l1,l2,l3,by show c.p<=c.next.1.p;omega,bu _⟩,bu _⟩
 rw[if_neg h3] at h⊢;exact J3 hv _ _ _ c _ l1 l2 l3 (by omega) (bu _) h
theorem zO{t:Tk} {c:Cu} {ks:List gA} (hc:c.live) (h:fk t c ks=0):t.k.toNat=115/\t.t∉ks/\c.aE=0/\c.next.2.k.toNat=58/\c.next.1.aE=0:=by
 unfold fk at h;by_cases h1:t.k.toNat≠115
 . rw[if_pos h1] at h;cases h
 rw[if_neg h1] at h;by_cases h2:t.t∈ks
 . rw[if_pos h2] at h;cases h
 rw[if_neg h2] at h;by_cases h3:c.aE≠0
 . rw[if_pos h3] at h;exact absurd h h3
 rw[if_neg h3] at h;by_cases h4:c.next.2.k.toNat≠58
 . rw[if_pos h4] at h;cases h
 rw[if_neg h4] at h;exact⟨by omega,h2,by omega,by omega,h⟩
theorem Jb{v:VF} (hv:lQ v):∀(n:Nat) (t:Tk) (c c0:Cu) (ks:List gA) (acc:List Nd),c.live->c.s=c0.s->c.e=c0.e->c0.p<=c.p->acc.length<=c.p-c0.p->(ie v n t c ks acc).1=0->
   Fit c0 (ie v n t c ks acc)/\(ie v n t c ks acc).2.1.length<=(ie v n t c ks acc).2.2.p-c0.p
 |0,_,_,_,_,_,_,_,_,_,_,h=>by rw[ie] at h;cases h
 |n+1,t,c,c0,ks,acc,hc,hs,he,hp,ha,h=>by
   rw[ie] at h⊢;by_cases h0:fk t c ks≠0
   . rw[if_pos h0] at h;exact absurd h h0
   rw[if_neg h0] at h⊢;obtain⟨_,_,q1,_,q2⟩:=zO (t:=t) (ks:=ks) hc (by omega);obtain⟨a1,a2,a3,a4,_⟩:=bD hc q1;obtain⟨b1,b2,b3,b4,_⟩:=bD a1 q2;by_cases h1:(bK v t c).1≠0
   . rw[if_pos h1] at h;exact absurd h h1
   rw[if_neg h1] at h⊢;have f1:Fit c.next.1.next.1 (bK v t c):=hv _ _ _ b1 (show(bK v t c).1=0 by omega);by_cases h2:(bK v t c).2.2.aE≠0
   . rw[if_pos h2] at h;exact absurd h h2
   rw[if_neg h2] at h⊢;obtain⟨l1,l2,l3,l4,_⟩:=bD f1.live (by omega);have fs:=f1.s;have fe:=f1.e;have fp:=f1.p;have fl:=f1.len;by_cases h3:(bK v t c).2.2.next.2.k.toNat=125
   . rw[if_pos h3] at h⊢;have e:(acc++(bK v t c).2.1).length<=(bK v t c).2.2.next.1.p-c0.p:=by rw[an];omega
     exact⟨⟨l1,by rw[l2,fs,b2,a2,hs],by rw[l3,fe,b3,a3,he],by show c0.p<=(bK v t c).2.2.next.1.p;omega,Nat.le_trans e (Nat.le_succ _)⟩,e⟩
   rw[if_neg h3] at h⊢;by_cases h4:(bK v t c).2.2.next.2.k.toNat≠44
   . rw[if_pos h4] at h;cases h
   rw[if_neg h4] at h⊢;by_cases h5:(bK v t c).2.2.next.1.aE≠0
   . rw[if_pos h5] at h;exact absurd h h5
   rw[if_neg h5] at h⊢;obtain⟨m1,m2,m3,m4,_⟩:=bD l1 (by omega);exact Jb hv n _ _ c0 _ _ m1 (by rw[m2,l2,fs,b2,a2,hs]) (by rw[m3,l3,fe,b3,a3,he]) (by omega) (by rw[an];omega) h
theorem CW{v:VF} (hv:lQ v) {c:Cu} (hc:c.live) (h:(bG v c).1=0):Fit c (bG v c)/\(bG v c).2.1.length<=(bG v c).2.2.p-c.p:=by
 unfold bG at h⊢;by_cases h1:c.aE≠0
 . rw[if_pos h1] at h;exact absurd h h1
 rw[if_neg h1] at h⊢;obtain⟨l1,l2,l3,l4,_⟩:=bD hc (by omega);by_cases h3:c.next.2.k.toNat=125
 . rw[if_pos h3] at h⊢;exact⟨⟨l1,l2,l3,by show c.p<=c.next.1.p;omega,bu _⟩,bu _⟩
 rw[if_neg h3] at h⊢;exact Jb hv _ _ _ c _ _ l1 l2 l3 (by omega) (bu _) h
theorem j0:∀k,lQ (gv k)
 |0=>fun t key c hc h=>by
   rw[gv] at h⊢;by_cases h1:t.k.toNat=123\/t.k.toNat=91
   . rw[if_pos h1] at h;cases h
   rw[if_neg h1] at h⊢;by_cases h2:fI t.k=true
   . rw[if_pos h2];exact⟨hc,rfl,rfl,cb _,by simp⟩
   . rw[if_neg h2] at h;cases h
 |k+1=>fun t key c hc h=>by
   rw[gv] at h⊢;by_cases h1:t.k.toNat=123
   . rw[if_pos h1] at h⊢;obtain⟨f,hl⟩:=CW (j0 k) hc h;exact⟨f.live,f.s,f.e,f.p,by show(_::_:List Nd).length<=_;rw[List.length_cons];show(bG (gv k) c).2.1.length+1<=(bG (gv k) c).2.2.p-c.p+1;omega⟩
   rw[if_neg h1] at h⊢;by_cases h3:t.k.toNat=91
   . rw[if_pos h3] at h⊢;obtain⟨f,hl⟩:=CV (j0 k) hc h;exact⟨f.live,f.s,f.e,f.p,by show(_::_:List Nd).length<=_;rw[List.length_cons];show(bH (gv k) c).2.1.length+1<=(bH (gv k) c).2.2.p-c.p+1;omega⟩
   rw[if_neg h3] at h⊢;by_cases h2:fI t.k=true
   . rw[if_pos h2];exact⟨hc,rfl,rfl,cb _,by simp⟩
   . rw[if_neg h2] at h;cases h
theorem Na(c:Cu):(c.next.1.c≠0/\c.aE=c.next.1.c)\/(c.next.1.c=0/\c.next.2.k.toNat=0/\c.aE=1)\/(c.next.1.c=0/\c.next.2.k.toNat≠0/\c.aE=0):=by
 unfold Cu.aE;by_cases h:c.next.1.c≠0
 . rw[if_pos h];exact .inl ⟨h,rfl⟩
 . rw[if_neg h];have h0:c.next.1.c=0:=by omega
   by_cases h2:c.next.2.k=0
   . rw[if_pos h2];exact .inr (.inl ⟨h0,by rw[h2];rfl,rfl⟩)
   . rw[if_neg h2];exact .inr (.inr ⟨h0,fun q=>h2 (UInt8.toNat_inj.1 q),rfl⟩)
theorem RX(c:Cu) (l:List V) (hp:c.ok/\c.s.length<=60000000) (hc:¬(c.aE≠0)):OK 14 ([.ptr 0 0]) ([.cells [.ptr 1 0,.buf 2],.cells (eC c),.buf 4 0 l]) (.agg (eT c.next.2)) (some [.cells [.ptr 1 0,.buf 2],.cells (eC c.next.1),.buf 4 0 l]):=by
 refine aq (C:=cx [(40,uS),(41,mV)]) (ar ⟨zo,oh,trivial⟩) (fn:=Tryz.f14) fun hw hs=>?_;have ht:=Na c;repeat'((conv=>whnf);first|apply af|apply aK|(apply av<;>intro h))
 all_goals try conv=>whnf
 all_goals try(refine ae.mk ?_;try dsimp only)
 all_goals (try simp only[aV] at*)
 all_goals first|refine stay ?_|trivial|skip
 all_goals first
  |(exfalso;omega)
  | (show ab _ _ _ _ _ _
     refine ab.mk [] ?_<;>(repeat' first|trivial)
     done)
theorem Ww(c:Cu) (l:List V) (hp:c.ok/\c.s.length<=60000000) (hc:c.aE≠0):jq 14 ([.ptr 0 0]) ([.cells [.ptr 1 0,.buf 2],.cells (eC c),.buf 4 0 l]) (.iface 52 (.int .i64 c.aE)) (some [.dead,.dead,.dead,.buf 1 0 []]):=by
 refine jA (C:=cx [(40,uS),(41,mV)]) (ar ⟨zo,oh,trivial⟩) (fn:=Tryz.f14) rfl rfl rfl rfl fun hw hs=>?_;have ht:=Na c;repeat'((conv=>whnf);first|apply af|apply fE|apply aK|(apply av<;>intro h))
 all_goals try conv=>whnf
 all_goals try(refine ae.mk ?_;try dsimp only)
 all_goals (try simp only[aV] at*)
 all_goals first|refine stay ?_|trivial|(simp(discharger:=omega) [-List.getD_eq_getElem?_getD,wR]<;>omega)|skip
 all_goals first
  | (show bC _ _ _
     (refine bC.mk [.nw,.swap 3 5] ?_<;>(repeat' first|trivial|rfl|apply ah);done)
     done)
  |(exfalso;omega)
def po:dL:=fun args σ=>match args,σ with
 |[.ptr 0 0],[.cells [.ptr 1 0,.buf 2],.cells ([.str s_c,.int .i64 (.ofNat a_c),.int .i64 (.ofNat e_c),.int .i64 c_c]),.buf 4 0 l]=>some (True/\((Cu.mk s_c a_c e_c c_c).ok/\(Cu.mk s_c a_c e_c c_c).s.length<=60000000),(Cu.mk s_c a_c e_c c_c).aE≠0,.iface 52 (.int .i64 (Cu.mk s_c a_c e_c c_c).aE),some [.dead,.dead,.dead,.buf 1 0 []],.agg (eT (Cu.mk s_c a_c e_c c_c).next.2),some [.cells [.ptr 1 0,.buf 2],.cells (eC (Cu.mk s_c a_c e_c c_c).next.1),.buf 4 0 l])
 |_,_=>none
theorem sd:dX 14 (po):=by
 intro args sg pre c u r x r2 he hp;unfold po at he;split at he<;>cases he
 . rw[dJ (hp).1];exact⟨fun hc=>⟨_,rfl,Ww (hp:=hp.2) (hc:=hc) ..⟩,fun hc=>RX (hp:=hp.2) (hc:=hc) ..⟩
theorem RV(c:Cu) (l:List V) (k:UInt8) (hp:c.ok/\c.s.length<=60000000) (hc:¬(c.aE≠0\/c.next.2.k≠k)):OK 81 ([.ptr 0 0,bv k]) ([.cells [.ptr 1 0,.buf 2],.cells (eC c),.buf 4 0 l]) (.tuple []) (some [.cells [.ptr 1 0,.buf 2],.cells (eC c.next.1),.buf 4 0 l]):=by
 refine aq (C:=gE [] [(14,po)]) (ig trivial ⟨sd,trivial⟩) (fn:=Tryz.f81) fun hw hs=>?_;have h1:c.aE=0:=Decidable.not_not.1 fun q=>hc (.inl q);have h2:c.next.2.k=k:=Decidable.not_not.1 fun q=>hc (.inr q);repeat'((conv=>whnf);first|with_reducible refine cM ?_ (fun h=>?_) fun h=>?_|apply fE|apply aK)
 all_goals try conv=>whnf
 all_goals try(refine ae.mk ?_;try dsimp only)
 all_goals (try simp only[aV] at*)
 all_goals first|refine stay ?_|trivial|skip
 all_goals first
  |(exfalso;omega)
  |(rw[h2];exact beq_self_eq_true _)
  |(rw[h2];exact bne_self_eq_false _)
  | (show ab _ _ _ _ _ _
     refine ab.mk [] ?_<;>(repeat' first|trivial)
     done)
theorem Wv(c:Cu) (l:List V) (k:UInt8) (hp:c.ok/\c.s.length<=60000000) (hc:c.aE≠0\/c.next.2.k≠k):jq 81 ([.ptr 0 0,bv k]) ([.cells [.ptr 1 0,.buf 2],.cells (eC c),.buf 4 0 l]) (.iface 52 (.int .i64 (if c.aE≠0 then c.aE else 3))) (some [.dead,.dead,.dead,.buf 1 0 []]):=by
 refine jA (C:=gE [] [(14,po)]) (ig trivial ⟨sd,trivial⟩) (fn:=Tryz.f81) rfl rfl rfl rfl fun hw hs=>?_;have hk:(c.next.2.k.toNat:Int)=k.toNat->c.next.2.k=k:=fun h=>UInt8.toNat_inj.1 (by omega);repeat'((conv=>whnf);first|with_reducible refine cM ?_ (fun h=>?_) fun h=>?_|apply af|apply fE)
 all_goals try conv=>whnf
 all_goals try(refine ae.mk ?_;try dsimp only)
 all_goals (try simp only[aV] at*)
 all_goals first|refine stay ?_|trivial|(simp(discharger:=omega) [-List.getD_eq_getElem?_getD,wR]<;>omega)|skip
 all_goals first
  | (show bC _ _ _
     first|(refine bC.mk [] ?_<;>(repeat' first|trivial|rfl|apply ah);done)|(refine bC.mk [.nw,.swap 3 3] ?_<;>(repeat' first|trivial|rfl|apply ah);done)
     done)
  | (have h2:c.next.2.k ≠ k:=hc.resolve_left (by assumption)
     refine bne_iff_ne.2 fun q=>h2 (hk q))
  |(exfalso;omega)
def Ac:dL:=fun args σ=>match args,σ with
 |[.ptr 0 0,.int .u8 n_k],[.cells [.ptr 1 0,.buf 2],.cells ([.str s_c,.int .i64 (.ofNat a_c),.int .i64 (.ofNat e_c),.int .i64 c_c]),.buf 4 0 l]=>some ((0<=n_k/\n_k<=255)/\(True/\((Cu.mk s_c a_c e_c c_c).ok/\(Cu.mk s_c a_c e_c c_c).s.length<=60000000)),(Cu.mk s_c a_c e_c c_c).aE≠0\/(Cu.mk s_c a_c e_c c_c).next.2.k≠(byte n_k),.iface 52 (.int .i64 (if(Cu.mk s_c a_c e_c c_c).aE≠0 then(Cu.mk s_c a_c e_c c_c).aE else 3)),some [.dead,.dead,.dead,.buf 1 0 []],.tuple [],some [.cells [.ptr 1 0,.buf 2],.cells (eC (Cu.mk s_c a_c e_c c_c).next.1),.buf 4 0 l])
 |_,_=>none
theorem Ks:dX 81 (Ac):=by
 intro args sg pre c u r x r2 he hp;unfold Ac at he;split at he<;>cases he
 . rw[l7 (hp).1];rw[dJ (hp.2).1];exact⟨fun hc=>⟨_,rfl,Wv (hp:=hp.2.2) (hc:=hc) ..⟩,fun hc=>RV (hp:=hp.2.2) (hc:=hc) ..⟩
theorem S0(c:Cu) (l:List V) (hp:c.ok/\c.s.length<=60000000) (hc:¬(c.next.2.k≠0\/c.next.1.c≠0)):OK 15 ([.ptr 0 0]) ([.cells [.ptr 1 0,.buf 2],.cells (eC c),.buf 4 0 l]) (.tuple []) (some [.cells [.ptr 1 0,.buf 2],.cells (eC c.next.1),.buf 4 0 l]):=by
 refine aq (C:=cx [(40,uS),(41,mV)]) (ar ⟨zo,oh,trivial⟩) (fn:=Tryz.f15) fun hw hs=>?_;have h1:c.next.2.k=0:=Decidable.not_not.1 fun q=>hc (.inl q);have h2:c.next.1.c=0:=Decidable.not_not.1 fun q=>hc (.inr q);repeat'((conv=>whnf);first|apply af|apply fE|apply aK)
 all_goals try conv=>whnf
 all_goals try(refine ae.mk ?_;try dsimp only)
 all_goals (try simp only[aV] at*)
 all_goals first|refine stay ?_|trivial|(simp(discharger:=omega) [-List.getD_eq_getElem?_getD,wR]<;>omega)|skip
 all_goals first
  |(rw[h1];rfl)
  |(rw[h2];rfl)
  |(exfalso;omega)
  | (show ab _ _ _ _ _ _
     refine ab.mk [] ?_<;>(repeat' first|trivial)
     done)
theorem Wy(c:Cu) (l:List V) (hp:c.ok/\c.s.length<=60000000) (hc:c.next.2.k≠0\/c.next.1.c≠0):jq 15 ([.ptr 0 0]) ([.cells [.ptr 1 0,.buf 2],.cells (eC c),.buf 4 0 l]) (.iface 52 (.int .i64 2)) (some [.dead,.dead,.dead,.buf 1 0 []]):=by
 refine jA (C:=cx [(40,uS),(41,mV)]) (ar ⟨zo,oh,trivial⟩) (fn:=Tryz.f15) rfl rfl rfl rfl fun hw hs=>?_;have hk:(c.next.2.k.toNat:Int)=0->c.next.2.k=0:=fun h=>UInt8.toNat_inj.1 (by show c.next.2.k.toNat=0;omega);repeat'((conv=>whnf);first|apply af|apply fE|apply aK|(apply av<;>intro h))
 all_goals try conv=>whnf
 all_goals try(refine ae.mk ?_;try dsimp only)
 all_goals (try simp only[aV] at*)
 all_goals first|refine stay ?_|trivial|skip
 all_goals first
  | (show bC _ _ _
     (refine bC.mk [.nw,.swap 3 4] ?_<;>(repeat' first|trivial|rfl|apply ah);done)
     done)
  | (have h2:c.next.1.c ≠ 0:=hc.resolve_left (fun q=>q (hk (by assumption)))
     exact bne_iff_ne.2 h2)
  |(exfalso;omega)
def E7:dL:=fun args σ=>match args,σ with
 |[.ptr 0 0],[.cells [.ptr 1 0,.buf 2],.cells ([.str s_c,.int .i64 (.ofNat a_c),.int .i64 (.ofNat e_c),.int .i64 c_c]),.buf 4 0 l]=>some (True/\((Cu.mk s_c a_c e_c c_c).ok/\(Cu.mk s_c a_c e_c c_c).s.length<=60000000),(Cu.mk s_c a_c e_c c_c).next.2.k≠0\/(Cu.mk s_c a_c e_c c_c).next.1.c≠0,.iface 52 (.int .i64 2),some [.dead,.dead,.dead,.buf 1 0 []],.tuple [],some [.cells [.ptr 1 0,.buf 2],.cells (eC (Cu.mk s_c a_c e_c c_c).next.1),.buf 4 0 l])
 |_,_=>none
theorem V1:dX 15 (E7):=by
 intro args sg pre c u r x r2 he hp;unfold E7 at he;split at he<;>cases he
 . rw[dJ (hp).1];exact⟨fun hc=>⟨_,rfl,Wy (hp:=hp.2) (hc:=hc) ..⟩,fun hc=>S0 (hp:=hp.2) (hc:=hc) ..⟩
end Go.Proofs.YtchllohbglebiaaGreatDoor
