/-
  A part of the proof.
-/
import Derived.Test.YtchllohbglebiaaGreatDoorTRc
set_option linter.unusedSimpArgs false
set_option linter.unusedVariables false
set_option maxHeartbeats 4000000
set_option maxRecDepth 100000
namespace Go.Proofs.YtchllohbglebiaaGreatDoor
open Go Go.VG
abbrev Sx:Type:=List Tk×Int
def nG:Nat->Cu->Sx
 |0,_=>([],0)
 |n+1,c=>if c.cg.1.c≠0 then([],c.cg.1.c) else if c.cg.2.k=0 then([],0) else(c.cg.2::(nG n c.cg.1).1,(nG n c.cg.1).2)
def c6(c:Cu):Sx:=nG (c.e-c.p+1) c
def iw(s:Sx):Int:=if s.1.length>0 then 0 else if s.2=0 then 1 else s.2
def bS(s:Sx):Tk:=s.1.getD 0 default
def bB(s:Sx):Sx:=(s.1.drop 1,s.2)
theorem Nb:∀(n m:Nat) (c:Cu),c.ok->c.e-c.p+1<=n->c.e-c.p+1<=m->nG n c=nG m c
 |0,_,_,_,h,_=>absurd h (by omega)
 |_+1,0,_,_,_,h=>absurd h (by omega)
 |n+1,m+1,c,hk,hn,hm=>by
   rw[nG,nG];by_cases h1:c.cg.1.c≠0
   . rw[if_pos h1,if_pos h1]
   rw[if_neg h1,if_neg h1];by_cases h2:c.cg.2.k=0
   . rw[if_pos h2,if_pos h2]
   rw[if_neg h2,if_neg h2];have hd:=Ll hk (by omega);have hp:=hd.2.2.2.2.2 h2;have hp2:=hd.1.1;rw[Nb n m c.cg.1 hd.1 (by rw[hd.2.2.1];omega) (by rw[hd.2.2.1];omega)]
theorem G4{c:Cu} (h:c.live) (h0:c.aE=0):c6 c=(c.next.2::(c6 c.next.1).1,(c6 c.next.1).2):=by
 obtain⟨l,hs,he,hp,hn⟩:=bD h h0;have h1:c.cg.1.c=0:=by rw[<-hn];exact l.2.1
 have h2:c.cg.2.k≠0:=by
  unfold Cu.aE at h0;split at h0
  . rename_i q;exact absurd h0 q
  . split at h0
    . cases h0
    . rename_i q;rw[<-hn];exact q
 have hl:=l.1.1;conv=>lhs;unfold c6;rw[nG,if_neg (by omega),if_neg h2]
 unfold c6;rw[hn];rw[hn] at hl hp he;rw[Nb (c.e-c.p) (c.cg.1.e-c.cg.1.p+1) c.cg.1 (by rw[<-hn];exact l.1) (by omega) (by omega)]
theorem MP{c:Cu} (h:c.live) (h0:c.aE≠0):(c6 c).1=[]/\iw (c6 c) =c.aE:=by
 have hs:=ux h.1;unfold Cu.aE at h0⊢;unfold c6;rw[nG];by_cases h1:c.next.1.c≠0
 . have h2:c.cg.1.c≠0:=by rw[<-hs.2.1];exact h1
   rw[if_pos h1,if_pos h2];refine⟨rfl,?_⟩;unfold iw;rw[if_neg (by simp),if_neg h2,hs.2.1]
 . have h2:¬c.cg.1.c≠0:=by rw[<-hs.2.1];exact h1
   rw[if_neg h1] at h0⊢;rw[if_neg h2];by_cases h3:c.next.2.k=0
   . rw[if_pos h3,if_pos (by rw[<-hs.1];exact h3)];exact⟨rfl,rfl⟩
   . rw[if_neg h3] at h0;exact absurd rfl h0
theorem mW{c:Cu} (h:c.live):iw (c6 c) =c.aE:=by
 by_cases h0:c.aE=0
 . rw[G4 h h0,h0];unfold iw;rw[if_pos (by simp)]
 . exact(MP h h0).2
theorem qX{c:Cu} (h:c.live) (h0:c.aE=0):bS (c6 c) =c.next.2/\bB (c6 c) =c6 c.next.1:=by
 rw[G4 h h0];exact⟨rfl,rfl⟩
abbrev RD:Type:=Int×List Nd×Sx
abbrev VD:Type:=gA->Sx->RD
def uh(s:Sx) (ks:List gA):Int:=if iw s≠0 then iw s else if(bS s).k.toNat≠115 then 3 else if(bS s).t∈ks then 8 else 0
def yz(s:Sx):Int:=if iw s≠0 then iw s else if(bS s).k.toNat≠58 then 3 else 0
def pV(en:Nat) (r:RD):Int:=if iw r.2.2≠0 then iw r.2.2 else if(bS r.2.2).k.toNat=en then 0 else if(bS r.2.2).k.toNat≠44 then 3 else 0
def nR(v:VD):Nat->Sx->List Nd->RD
 |0,s,_=>(1,[],s)
 |n+1,s,acc=>
   if(v [] s).1≠0 then((v [] s).1,[],s)
   else if pV 93 (v [] s)≠0 then(pV 93 (v [] s),[],bB (v [] s).2.2)
   else if(bS (v [] s).2.2).k.toNat=93 then(0,acc++(v [] s).2.1,bB (v [] s).2.2)
   else nR v n (bB (v [] s).2.2) (acc++(v [] s).2.1)
def nS(v:VD):Nat->Sx->List gA->List Nd->RD
 |0,s,_,_=>(1,[],s)
 |n+1,s,ks,acc=>
   if uh s ks≠0 then(uh s ks,[],s)
   else if yz (bB s)≠0 then(yz (bB s),[],bB (bB s))
   else if(v (bS s).t (bB (bB s))).1≠0 then((v (bS s).t (bB (bB s))).1,[],bB (bB s))
   else if pV 125 (v (bS s).t (bB (bB s)))≠0 then(pV 125 (v (bS s).t (bB (bB s))),[],bB (v (bS s).t (bB (bB s))).2.2)
   else if(bS (v (bS s).t (bB (bB s))).2.2).k.toNat=125 then(0,acc++(v (bS s).t (bB (bB s))).2.1,bB (v (bS s).t (bB (bB s))).2.2)
   else nS v n (bB (v (bS s).t (bB (bB s))).2.2) (ks++[(bS s).t]) (acc++(v (bS s).t (bB (bB s))).2.1)
def mC(v:VD) (en:Nat) (s:Sx):RD:=
 if iw s=0/\(bS s).k.toNat=en then(0,[],bB s) else if en=125 then nS v (s.1.length+1) s [] [] else nR v (s.1.length+1) s []
def iV:Nat->VD
 |0,key,s=>if iw s≠0 then(iw s,[],s) else if(bS s).k.toNat=123\/(bS s).k.toNat=91 then(33,[],s) else if ec (bS s).k=true then(3,[],s) else(0,[⟨(bS s).k,key,(bS s).t,1⟩],bB s)
 |k+1,key,s=>
   if iw s≠0 then(iw s,[],s)
   else if(bS s).k.toNat=123\/(bS s).k.toNat=91 then
    ((mC (iV k) ((bS s).k.toNat+2) (bB s)).1,⟨(bS s).k,key,[],(mC (iV k) ((bS s).k.toNat+2) (bB s)).2.1.length+1⟩::(mC (iV k) ((bS s).k.toNat+2) (bB s)).2.1,(mC (iV k) ((bS s).k.toNat+2) (bB s)).2.2)
   else if ec (bS s).k=true then(3,[],s) else(0,[⟨(bS s).k,key,(bS s).t,1⟩],bB s)
structure eM(r:RT) (d:RD):Prop where
 e:d.1=r.1
 l:r.1=0->d.2.1=r.2.1
 c:r.1=0->d.2.2=c6 r.2.2
theorem eM.mF{k:Int} {l l':List Nd} {c:Cu} {s:Sx} (h:k≠0):eM (k,l,c) (k,l',s):=⟨rfl,fun q=>absurd q h,fun q=>absurd q h⟩
theorem eM.err{r:RT} {d:RD} (h:d.1=r.1) (h0:r.1≠0):eM r d:=⟨h,fun q=>absurd q h0,fun q=>absurd q h0⟩
def pM(vd:VD):Prop:=∀key s,(vd key s).1=0->(vd key s).2.2.1.length+1<=s.1.length
theorem Bn{s:Sx} (h:iw s=0):0<s.1.length:=by
 unfold iw at h;split at h
 . assumption
 . split at h
   . cases h
   . contradiction
theorem nF(s:Sx):(bB s).1.length=s.1.length-1:=by show(s.1.drop 1).length=_;rw[d9]
theorem HO{vd:VD} (hv:pM vd):∀(n:Nat) (s:Sx) (acc:List Nd),(nR vd n s acc).1=0->(nR vd n s acc).2.2.1.length<=s.1.length
 |0,_,_,h=>by rw[nR] at h;cases h
 |n+1,s,acc,h=>by
   rw[nR] at h⊢;by_cases h1:(vd [] s).1≠0
   . rw[if_pos h1] at h;exact absurd h h1
   rw[if_neg h1] at h⊢;have q1:=hv [] s (by omega);by_cases h2:pV 93 (vd [] s)≠0
   . rw[if_pos h2] at h;exact absurd h h2
   rw[if_neg h2] at h⊢;have q2:=nF (vd [] s).2.2;by_cases h3:(bS (vd [] s).2.2).k.toNat=93
   . rw[if_pos h3];show(bB (vd [] s).2.2).1.length<=_;omega
   rw[if_neg h3] at h⊢;have:=HO hv n _ _ h;omega
theorem HP{vd:VD} (hv:pM vd):∀(n:Nat) (s:Sx) (ks:List gA) (acc:List Nd),(nS vd n s ks acc).1=0->(nS vd n s ks acc).2.2.1.length<=s.1.length
 |0,_,_,_,h=>by rw[nS] at h;cases h
 |n+1,s,ks,acc,h=>by
   rw[nS] at h⊢;by_cases h0:uh s ks≠0
   . rw[if_pos h0] at h;exact absurd h h0
   rw[if_neg h0] at h⊢;by_cases h4:yz (bB s)≠0
   . rw[if_pos h4] at h;exact absurd h h4
   rw[if_neg h4] at h⊢;by_cases h1:(vd (bS s).t (bB (bB s))).1≠0
   . rw[if_pos h1] at h;exact absurd h h1
   rw[if_neg h1] at h⊢;have q1:=hv (bS s).t (bB (bB s)) (by omega);have q3:=nF s;have q4:=nF (bB s);by_cases h2:pV 125 (vd (bS s).t (bB (bB s)))≠0
   . rw[if_pos h2] at h;exact absurd h h2
   rw[if_neg h2] at h⊢;have q2:=nF (vd (bS s).t (bB (bB s))).2.2;by_cases h3:(bS (vd (bS s).t (bB (bB s))).2.2).k.toNat=125
   . rw[if_pos h3];show(bB (vd (bS s).t (bB (bB s))).2.2).1.length<=_;omega
   rw[if_neg h3] at h⊢;have:=HP hv n _ _ _ h;omega
theorem P6{vd:VD} (hv:pM vd) {en:Nat} {s:Sx} (h:(mC vd en s).1=0):(mC vd en s).2.2.1.length<=s.1.length:=by
 unfold mC at h⊢;by_cases h1:iw s=0/\(bS s).k.toNat=en
 . rw[if_pos h1];have:=nF s;show(bB s).1.length<=_;omega
 rw[if_neg h1] at h⊢;by_cases h2:en=125
 . rw[if_pos h2] at h⊢;exact HP hv _ _ _ _ h
 . rw[if_neg h2] at h⊢;exact HO hv _ _ _ h
theorem Cv:∀k,pM (iV k)
 |0=>fun key s h=>by
   rw[iV] at h⊢;by_cases h1:iw s≠0
   . rw[if_pos h1] at h;exact absurd h h1
   rw[if_neg h1] at h⊢;have h0:=Bn (s:=s) (by omega);by_cases h2:(bS s).k.toNat=123\/(bS s).k.toNat=91
   . rw[if_pos h2] at h;cases h
   rw[if_neg h2] at h⊢;by_cases h3:ec (bS s).k=true
   . rw[if_pos h3] at h;cases h
   rw[if_neg h3];have:=nF s;show(bB s).1.length+1<=_;omega
 |k+1=>fun key s h=>by
   rw[iV] at h⊢;by_cases h1:iw s≠0
   . rw[if_pos h1] at h;exact absurd h h1
   rw[if_neg h1] at h⊢;have h0:=Bn (s:=s) (by omega);have hr:=nF s;by_cases h2:(bS s).k.toNat=123\/(bS s).k.toNat=91
   . rw[if_pos h2] at h⊢;have:=P6 (Cv k) h;show(mC (iV k) ((bS s).k.toNat+2) (bB s)).2.2.1.length+1<=_;omega
   rw[if_neg h2] at h⊢;by_cases h3:ec (bS s).k=true
   . rw[if_pos h3] at h;cases h
   rw[if_neg h3];show(bB s).1.length+1<=_;omega
def SmV(v:VF) (vd:VD):Prop:=∀c key,c.live->c.aE=0->eM (v c.next.2 key c.next.1) (vd key (c6 c))
def ErV(vd:VD):Prop:=∀key s,iw s≠0->(vd key s).1=iw s
theorem Ct:∀k,ErV (iV k)
 |0=>fun key s h=>by rw[iV,if_pos h]
 |k+1=>fun key s h=>by rw[iV,if_pos h]
theorem L1{v:VF} {vd:VD} (hf:lQ v) (hl:pM vd) (he:ErV vd) (hv:SmV v vd):∀(n m:Nat) (b:Cu) (acc:List Nd),b.live->b.aE=0->b.next.1.e-b.next.1.p+1<=n->(c6 b).1.length+1<=m->
   eM (ic v n b.next.2 b.next.1 acc) (nR vd m (c6 b) acc)
 |0,_,_,_,_,_,h,_=>absurd h (by omega)
 |_+1,0,_,_,_,_,_,h=>absurd h (by omega)
 |n+1,m+1,b,acc,hb,h0,hn,hm=>by
   obtain⟨a1,a2,a3,a4,_⟩:=bD hb h0;have hs:=hv b [] hb h0;have hlen:=hl [] (c6 b);rw[ic,nR];by_cases h1:(v b.next.2 [] b.next.1).1≠0
   . rw[if_pos h1,if_pos (show(vd [] (c6 b)).1≠0 by rw[hs.e];exact h1)];exact eM.err hs.e h1
   rw[if_neg h1,if_neg (show¬(vd [] (c6 b)).1≠0 by rw[hs.e];exact h1)];have h1':(v b.next.2 [] b.next.1).1=0:=by omega
   have f:=hf b.next.2 [] b.next.1 a1 h1';have hc:=hs.c h1';have hll:=hs.l h1';have hlen:=hlen (by rw[hs.e];exact h1');generalize v b.next.2 [] b.next.1=r at*;generalize vd [] (c6 b) =d at*;have hq:=mW f.live;unfold pV;rw[hc];rw[hc] at hlen;rw[hq];by_cases h2:r.2.2.aE≠0
   . rw[if_pos h2,if_pos h2,if_pos h2];exact eM.mF h2
   have h2':r.2.2.aE=0:=by omega
   obtain⟨t1,t2⟩:=qX f.live h2';obtain⟨l1,l2,l3,l4,_⟩:=bD f.live h2';rw[if_neg h2,if_neg h2,t1,t2];by_cases h3:r.2.2.next.2.k.toNat=93
   . rw[if_pos h3,if_pos h3,if_neg (show¬(0:Int)≠0 by simp),if_pos h3,hll];exact⟨rfl,fun _=>rfl,fun _=>rfl⟩
   rw[if_neg h3,if_neg h3,if_neg h3];by_cases h4:r.2.2.next.2.k.toNat≠44
   . rw[if_pos h4,if_pos h4,if_pos (by decide)];exact eM.mF (by decide)
   rw[if_neg h4,if_neg h4,if_neg (show¬(0:Int)≠0 by simp)];have hsl:=nF (c6 r.2.2);rw[t2] at hsl;have hpos:=Bn (s:=c6 r.2.2) (by rw[hq];exact h2');have fp:=f.p;have fe:=f.e;have fs:=f.s;by_cases h5:r.2.2.next.1.aE≠0
   . rw[if_pos h5];obtain⟨m',rfl⟩:∃m',m=m'+1:=⟨m-1,by omega⟩
     have hx:=mW l1;have hx2:=he [] (c6 r.2.2.next.1) (by rw[hx];exact h5);rw[nR,if_pos (by rw[hx2,hx];exact h5)];exact eM.err (by rw[hx2,hx]) h5
   rw[if_neg h5];rw[hll];obtain⟨m1,m2,m3,m4,_⟩:=bD l1 (by omega);have hpe:=m1.1.1;rw[m3,l3,fe] at hpe;exact L1 hf hl he hv n m _ _ l1 (by omega) (by rw[m3,l3,fe];omega) (by omega)
theorem LB{v:VF} {vd:VD} (hf:lQ v) (hl:pM vd) (he:ErV vd) (hv:SmV v vd):∀(n m:Nat) (b:Cu) (ks:List gA) (acc:List Nd),b.live->b.aE=0->b.next.1.e-b.next.1.p+1<=n->(c6 b).1.length+1<=m->
   eM (ie v n b.next.2 b.next.1 ks acc) (nS vd m (c6 b) ks acc)
 |0,_,_,_,_,_,_,h,_=>absurd h (by omega)
 |_+1,0,_,_,_,_,_,_,h=>absurd h (by omega)
 |n+1,m+1,b,ks,acc,hb,h0,hn,hm=>by
   obtain⟨a1,a2,a3,a4,_⟩:=bD hb h0;obtain⟨t1,t2⟩:=qX hb h0;have hsb:=mW hb;have hsc:=mW a1;rw[ie,nS];unfold fk uh;rw[hsb,if_neg (show¬b.aE≠0 by omega),t1,t2];by_cases g1:b.next.2.k.toNat≠115
   . rw[if_pos g1,if_pos g1,if_pos (by decide),if_pos (by decide)];exact eM.mF (by decide)
   rw[if_neg g1,if_neg g1];by_cases g2:b.next.2.t∈ks
   . rw[if_pos g2,if_pos g2,if_pos (by decide),if_pos (by decide)];exact eM.mF (by decide)
   rw[if_neg g2,if_neg g2,if_neg (show¬(0:Int)≠0 by simp)];unfold yz;rw[hsc];by_cases g3:b.next.1.aE≠0
   . rw[if_pos g3,if_pos g3,if_pos g3,if_pos g3];exact eM.mF g3
   obtain⟨u1,u2⟩:=qX a1 (by omega);obtain⟨c1,c2,c3,c4,_⟩:=bD a1 (by omega);rw[if_neg g3,if_neg g3,u1,u2];by_cases g4:b.next.1.next.2.k.toNat≠58
   . rw[if_pos g4,if_pos g4,if_pos (by decide),if_pos (by decide)];exact eM.mF (by decide)
   rw[if_neg g4,if_neg g4,if_neg (show¬(0:Int)≠0 by simp)];have hsd:=mW c1;by_cases g5:b.next.1.next.1.aE≠0
   . have hx:=he b.next.2.t (c6 b.next.1.next.1) (by rw[hsd];exact g5);rw[if_pos g5,if_pos (by rw[hx,hsd];exact g5)];exact eM.err (by rw[hx,hsd]) g5
   rw[if_neg g5];have hs:=hv b.next.1.next.1 b.next.2.t c1 (by omega);have hlen:=hl b.next.2.t (c6 b.next.1.next.1);obtain⟨d1,d2,d3,d4,_⟩:=bD c1 (by omega);have hk1:=nF (c6 b);rw[t2] at hk1;have hk2:=nF (c6 b.next.1);rw[u2] at hk2;have f:(bK v b.next.2 b.next.1).1=0->Fit b.next.1.next.1.next.1 (bK v b.next.2 b.next.1):=fun h=>hf _ _ _ d1 h;have hs:eM (bK v b.next.2 b.next.1) (vd b.next.2.t (c6 b.next.1.next.1)):=hs;by_cases h1:(bK v b.next.2 b.next.1).1≠0
   . rw[if_pos h1,if_pos (show(vd b.next.2.t (c6 b.next.1.next.1)).1≠0 by rw[hs.e];exact h1)];exact eM.err hs.e h1
   rw[if_neg h1,if_neg (show¬(vd b.next.2.t (c6 b.next.1.next.1)).1≠0 by rw[hs.e];exact h1)];have h1':(bK v b.next.2 b.next.1).1=0:=by omega
   have f:=f h1';have hc:=hs.c h1';have hll:=hs.l h1';have hlen:=hlen (by rw[hs.e];exact h1');generalize bK v b.next.2 b.next.1=r at*;generalize vd b.next.2.t (c6 b.next.1.next.1) =d at*;have hq:=mW f.live;unfold pV;rw[hc];rw[hc] at hlen;rw[hq];by_cases h2:r.2.2.aE≠0
   . rw[if_pos h2,if_pos h2,if_pos h2];exact eM.mF h2
   have h2':r.2.2.aE=0:=by omega
   obtain⟨v1,v2⟩:=qX f.live h2';obtain⟨l1,l2,l3,l4,_⟩:=bD f.live h2';rw[if_neg h2,if_neg h2,v1,v2];by_cases h3:r.2.2.next.2.k.toNat=125
   . rw[if_pos h3,if_pos h3,if_neg (show¬(0:Int)≠0 by simp),if_pos h3,hll];exact⟨rfl,fun _=>rfl,fun _=>rfl⟩
   rw[if_neg h3,if_neg h3,if_neg h3];by_cases h4:r.2.2.next.2.k.toNat≠44
   . rw[if_pos h4,if_pos h4,if_pos (by decide)];exact eM.mF (by decide)
   rw[if_neg h4,if_neg h4,if_neg (show¬(0:Int)≠0 by simp)];have hsl:=nF (c6 r.2.2);rw[v2] at hsl;have hpos:=Bn (s:=c6 r.2.2) (by rw[hq];exact h2');have fp:=f.p;have fe:=f.e;have fs:=f.s;by_cases h5:r.2.2.next.1.aE≠0
   . rw[if_pos h5];obtain⟨m',rfl⟩:∃m',m=m'+1:=⟨m-1,by omega⟩
     have hx:=mW l1;rw[nS];unfold uh;rw[hx,if_pos h5,if_pos h5];exact eM.mF h5
   rw[if_neg h5];rw[hll];obtain⟨m1,m2,m3,m4,_⟩:=bD l1 (by omega);have hpe:=m1.1.1;rw[m3,l3,fe,d3,c3] at hpe;exact LB hf hl he hv n m _ _ _ l1 (by omega) (by rw[m3,l3,fe,d3,c3];omega) (by omega)
theorem Tq{v:VF} {vd:VD} (hf:lQ v) (hl:pM vd) (he:ErV vd) (hv:SmV v vd) {c:Cu} (hc:c.live):eM (bH v c) (mC vd 93 (c6 c)):=by
 have hs:=mW hc;unfold bH mC;rw[hs];by_cases h1:c.aE≠0
 . rw[if_pos h1,if_neg (fun q=>h1 q.1),if_neg (by decide)];have hx:=he [] (c6 c) (by rw[hs];exact h1);rw[nR,if_pos (by rw[hx,hs];exact h1)];exact eM.err (by rw[hx,hs]) h1
 obtain⟨t1,t2⟩:=qX hc (by omega);rw[if_neg h1,t1,t2];by_cases h3:c.next.2.k.toNat=93
 . rw[if_pos h3,if_pos ⟨by omega,h3⟩];exact⟨rfl,fun _=>rfl,fun _=>rfl⟩
 rw[if_neg h3,if_neg (fun q=>h3 q.2),if_neg (by decide)];exact L1 hf hl he hv _ _ c [] hc (by omega) (cb _) (cb _)
theorem Ts{v:VF} {vd:VD} (hf:lQ v) (hl:pM vd) (he:ErV vd) (hv:SmV v vd) {c:Cu} (hc:c.live):eM (bG v c) (mC vd 125 (c6 c)):=by
 have hs:=mW hc;unfold bG mC;rw[hs];by_cases h1:c.aE≠0
 . rw[if_pos h1,if_neg (fun q=>h1 q.1),if_pos rfl];rw[nS];unfold uh;rw[hs,if_pos h1,if_pos h1];exact eM.err rfl h1
 obtain⟨t1,t2⟩:=qX hc (by omega);rw[if_neg h1,t1,t2];by_cases h3:c.next.2.k.toNat=125
 . rw[if_pos h3,if_pos ⟨by omega,h3⟩];exact⟨rfl,fun _=>rfl,fun _=>rfl⟩
 rw[if_neg h3,if_neg (fun q=>h3 q.2),if_pos rfl];exact LB hf hl he hv _ _ c [] [] hc (by omega) (cb _) (cb _)
theorem Jf{x:CO} {k:UInt8} (h:(held x k).2.k≠0):(held x k).2.k=k:=by
 unfold held at h⊢;dsimp only at h⊢;split
 . rfl
 . rename_i q;rw[if_neg q] at h;exact absurd rfl h
theorem NG{c:Cu} {k:UInt8} (h:(c.fv k).2.k≠0):(c.fv k).2.k=k:=by
 unfold Cu.fv at h⊢;split
 . rename_i q;rw[if_pos q] at h;exact absurd rfl h
 . rfl
theorem YX{d:Cu} (h:d.j8.2.k≠0):(ec d.j8.2.k=true/\d.j8.2.t=[])\/(fI d.j8.2.k=true/\ec d.j8.2.k=false):=by
 have leaf:∀k:UInt8,(k=115\/k=110\/k=116\/k=102\/k=122)->fI k=true/\ec k=false:=by
  intro k hk;rcases hk with rfl|rfl|rfl|rfl|rfl<;>decide
 unfold Cu.j8 at h⊢;by_cases h1:d.p=d.e
 . rw[if_pos h1] at h;exact absurd rfl h
 rw[if_neg h1] at h⊢;by_cases h2:ec d.get=true
 . rw[if_pos h2];exact .inl ⟨h2,rfl⟩
 rw[if_neg h2] at h⊢;by_cases h3:d.get.toNat=34
 . rw[if_pos h3] at h⊢;rw[Jf h];exact .inr (leaf _ (.inl rfl))
 rw[if_neg h3] at h⊢;by_cases h4:d.get.toNat=45\/bq d.get=true
 . rw[if_pos h4] at h⊢;rw[Jf h];exact .inr (leaf _ (.inr (.inl rfl)))
 rw[if_neg h4] at h⊢;by_cases h5:d.get.toNat=116\/d.get.toNat=102
 . rw[if_pos h5] at h⊢;rw[NG h];refine .inr (leaf _ ?_);rcases h5 with h5|h5
   . exact .inr (.inr (.inl (UInt8.toNat_inj.1 h5)))
   . exact .inr (.inr (.inr (.inl (UInt8.toNat_inj.1 h5))))
 rw[if_neg h5] at h⊢;by_cases h6:d.get.toNat=110
 . rw[if_pos h6] at h⊢;rw[NG h];exact .inr (leaf _ (.inr (.inr (.inr (.inr rfl)))))
 rw[if_neg h6] at h;exact absurd rfl h
theorem DH{c:Cu} (hc:c.live) (h:c.aE=0):(ec c.next.2.k=true/\c.next.2.t=[])\/(fI c.next.2.k=true/\ec c.next.2.k=false):=by
 obtain⟨l,_,_,_,hn⟩:=bD hc h;have h2:c.cg.2.k≠0:=by
  unfold Cu.aE at h;split at h
  . rename_i q;exact absurd h q
  . split at h
    . cases h
    . rename_i q;rw[<-hn];exact q
 rw[hn];unfold Cu.cg at h2⊢;rw[if_neg (show¬c.c≠0 from fun q=>q hc.2.1)] at h2⊢;exact YX h2
theorem My{k:UInt8} (h:ec k=true):fI k=false:=by
 unfold ec at h;have h:=of_decide_eq_true h;unfold fI;exact decide_eq_false (by omega)
theorem EE{k:UInt8} (h:k.toNat=123\/k.toNat=91):ec k=true:=decide_eq_true (by omega)
theorem CZ:∀k,SmV (gv k) (iV k)
 |0=>fun c key hc h0=>by
   have hs:=mW hc;obtain⟨t1,t2⟩:=qX hc h0;have hk:=DH hc h0;rw[gv,iV,hs,if_neg (show¬c.aE≠0 by omega),t1,t2];by_cases h1:c.next.2.k.toNat=123\/c.next.2.k.toNat=91
   . rw[if_pos h1,if_pos h1];exact eM.mF (by decide)
   rw[if_neg h1,if_neg h1];rcases hk with ⟨q1,q2⟩|⟨q1,q2⟩
   . rw[if_neg (by rw[My q1];decide),if_pos q1];exact eM.mF (by decide)
   . rw[if_pos q1,if_neg (by rw[q2];decide)];exact⟨rfl,fun _=>rfl,fun _=>rfl⟩
 |k+1=>fun c key hc h0=>by
   have hs:=mW hc;obtain⟨t1,t2⟩:=qX hc h0;have hk:=DH hc h0;obtain⟨a1,_⟩:=bD hc h0;rw[gv,iV,hs,if_neg (show¬c.aE≠0 by omega),t1,t2];have ho:=Ts (j0 k) (Cv k) (Ct k) (CZ k) a1;have hl:=Tq (j0 k) (Cv k) (Ct k) (CZ k) a1;by_cases h1:c.next.2.k.toNat=123
   . rw[if_pos h1,if_pos (.inl h1),h1];rcases hk with ⟨_,q2⟩|⟨_,q2⟩
     . refine⟨ho.e,fun h=>?_,fun h=>ho.c h⟩;show _::_=_::_;rw[ho.l h,q2]
     . rw[EE (.inl h1)] at q2;cases q2
   rw[if_neg h1];by_cases h2:c.next.2.k.toNat=91
   . rw[if_pos h2,if_pos (.inr h2),h2];rcases hk with ⟨_,q2⟩|⟨_,q2⟩
     . refine⟨hl.e,fun h=>?_,fun h=>hl.c h⟩;show _::_=_::_;rw[hl.l h,q2]
     . rw[EE (.inr h2)] at q2;cases q2
   rw[if_neg h2,if_neg (show¬(c.next.2.k.toNat=123\/c.next.2.k.toNat=91) from fun q=>q.elim h1 h2)];rcases hk with ⟨q1,q2⟩|⟨q1,q2⟩
   . rw[if_neg (by rw[My q1];decide),if_pos q1];exact eM.mF (by decide)
   . rw[if_pos q1,if_neg (by rw[q2];decide)];exact⟨rfl,fun _=>rfl,fun _=>rfl⟩
def dR(s:gA):Int:=
 if(Cu.new s).aE≠0 then(Cu.new s).aE
 else if(gv 32 (Cu.new s).next.2 [] (Cu.new s).next.1).1≠0 then(gv 32 (Cu.new s).next.2 [] (Cu.new s).next.1).1
 else if(gv 32 (Cu.new s).next.2 [] (Cu.new s).next.1).2.2.next.2.k≠0\/(gv 32 (Cu.new s).next.2 [] (Cu.new s).next.1).2.2.next.1.c≠0 then 2 else 0
def dS(s:gA):List Nd:=if dR s=0 then(gv 32 (Cu.new s).next.2 [] (Cu.new s).next.1).2.1 else[]
def tE(s:gA):Int:=
 if(iV 32 [] (c6 (.new s))).1≠0 then(iV 32 [] (c6 (.new s))).1
 else if(iV 32 [] (c6 (.new s))).2.2.1.length>0\/(iV 32 [] (c6 (.new s))).2.2.2≠0 then 2 else 0
def yI(s:gA):List Nd:=if tE s=0 then(iV 32 [] (c6 (.new s))).2.1 else[]
theorem MO{c:Cu} (h:c.live):(c.next.2.k≠0\/c.next.1.c≠0)↔((c6 c).1.length>0\/(c6 c).2≠0):=by
 by_cases h0:c.aE=0
 . rw[G4 h h0];have hk:c.next.2.k≠0:=by
    unfold Cu.aE at h0;split at h0
    . rename_i q;exact absurd h0 q
    . split at h0
      . cases h0
      . assumption
   exact⟨fun _=>.inl (by simp),fun _=>.inl hk⟩
 . have hs:=ux h.1;obtain⟨h1,_⟩:=MP h h0;rw[h1];unfold Cu.aE at h0;by_cases h2:c.next.1.c≠0
   . refine⟨fun _=>.inr ?_,fun _=>.inr h2⟩;unfold c6;rw[nG,if_pos (by rw[<-hs.2.1];exact h2),<-hs.2.1];exact h2
   . rw[if_neg h2] at h0;have hk:c.next.2.k=0:=by
      by_cases q:c.next.2.k=0
      . exact q
      . rw[if_neg q] at h0;exact absurd rfl h0
     refine⟨fun q=>?_,fun q=>?_⟩
     . rcases q with q|q
       . exact absurd hk q
       . exact absurd q h2
     . rcases q with q|q
       . simp at q
       . exfalso;apply q;unfold c6;rw[nG,if_neg (by rw[<-hs.2.1];exact h2),if_pos (by rw[<-hs.1];exact hk)]
theorem By{s:gA} (h:s.length<=60000000):tE s=dR s/\yI s=dS s:=by
 have hc:(Cu.new s).live:=⟨⟨bu _,cb _⟩,rfl,h⟩
 have hs:=mW hc;have key:tE s=dR s/\(dR s=0->(iV 32 [] (c6 (.new s))).2.1=(gv 32 (Cu.new s).next.2 [] (Cu.new s).next.1).2.1):=by
  unfold tE dR;by_cases h1:(Cu.new s).aE≠0
  . have hx:=Ct 32 [] (c6 (.new s)) (by rw[hs];exact h1);rw[if_pos h1,if_pos (by rw[hx,hs];exact h1),hx,hs];exact⟨rfl,fun q=>absurd q h1⟩
  rw[if_neg h1];have hv:=CZ 32 (.new s) [] hc (by omega);obtain⟨a1,_⟩:=bD hc (by omega);by_cases h2:(gv 32 (Cu.new s).next.2 [] (Cu.new s).next.1).1≠0
  . rw[if_pos h2,if_pos (by rw[hv.e];exact h2)];exact⟨hv.e,fun q=>absurd q h2⟩
  have h2':(gv 32 (Cu.new s).next.2 [] (Cu.new s).next.1).1=0:=by omega
  rw[if_neg h2,if_neg (by rw[hv.e];exact h2),hv.c h2'];have f:=j0 32 _ [] _ a1 h2';refine⟨?_,fun _=>hv.l h2'⟩;by_cases h3:(gv 32 (Cu.new s).next.2 [] (Cu.new s).next.1).2.2.next.2.k≠0\/(gv 32 (Cu.new s).next.2 [] (Cu.new s).next.1).2.2.next.1.c≠0
  . rw[if_pos h3,if_pos ((MO f.live).1 h3)]
  . rw[if_neg h3,if_neg (fun q=>h3 ((MO f.live).2 q))]
 refine⟨key.1,?_⟩;unfold yI dS;rw[key.1];by_cases h0:dR s=0
 . rw[if_pos h0,if_pos h0,key.2 h0]
 . rw[if_neg h0,if_neg h0]
end Go.Proofs.YtchllohbglebiaaGreatDoor
