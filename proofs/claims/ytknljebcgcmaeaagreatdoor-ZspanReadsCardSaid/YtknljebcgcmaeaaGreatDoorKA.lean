/-
  A part of the proof.
-/
import Derived.Test.YtknljebcgcmaeaaGreatDoorKD
import Derived.Test.YtknljebcgcmaeaaGreatDoorJTw
set_option linter.unusedSimpArgs false
set_option linter.unusedVariables false
set_option maxHeartbeats 4000000
set_option maxRecDepth 100000
namespace Go.Proofs.YtknljebcgcmaeaaGreatDoor
open Go Go.VG
abbrev Sx:Type:=List Tk×Int
def jw:Nat->Cu->Sx
 |0,_=>([],0)
 |n+1,c=>if c.bB.1.c≠0 then([],c.bB.1.c) else if c.bB.2.k=0 then([],0) else(c.bB.2::(jw n c.bB.1).1,(jw n c.bB.1).2)
def bM(c:Cu):Sx:=jw (c.e-c.p+1) c
def aL(s:Sx):Int:=if s.1.length>0 then 0 else if s.2=0 then 1 else s.2
def ax(s:Sx):Tk:=s.1.getD 0 default
def au(s:Sx):Sx:=(s.1.drop 1,s.2)
theorem N0:∀(n m:Nat) (c:Cu),c.ok->c.e-c.p+1<=n->c.e-c.p+1<=m->jw n c=jw m c
 |0,_,_,_,h,_=>absurd h (by omega)
 |_+1,0,_,_,_,h=>absurd h (by omega)
 |n+1,m+1,c,hk,hn,hm=>by
   rw[jw,jw];by_cases h1:c.bB.1.c≠0
   . rw[if_pos h1,if_pos h1]
   rw[if_neg h1,if_neg h1];by_cases h2:c.bB.2.k=0
   . rw[if_pos h2,if_pos h2]
   rw[if_neg h2,if_neg h2];have hd:=yV hk (by omega);have hp:=hd.2.2.2.2.2 h2;have hp2:=hd.1.1;rw[N0 n m c.bB.1 hd.1 (by rw[hd.2.2.1];omega) (by rw[hd.2.2.1];omega)]
theorem G4{c:Cu} (h:c.live) (h0:c.aK=0):bM c=(c.next.2::(bM c.next.1).1,(bM c.next.1).2):=by
 obtain⟨l,hs,he,hp,hn⟩:=bQ h h0;have h1:c.bB.1.c=0:=by rw[<-hn];exact l.2.1
 have h2:c.bB.2.k≠0:=by
  unfold Cu.aK at h0;split at h0
  . rename_i q;exact absurd h0 q
  . split at h0
    . cases h0
    . rename_i q;rw[<-hn];exact q
 have hl:=l.1.1;conv=>lhs;unfold bM;rw[jw,if_neg (by omega),if_neg h2]
 unfold bM;rw[hn];rw[hn] at hl hp he;rw[N0 (c.e-c.p) (c.bB.1.e-c.bB.1.p+1) c.bB.1 (by rw[<-hn];exact l.1) (by omega) (by omega)]
theorem ML{c:Cu} (h:c.live) (h0:c.aK≠0):(bM c).1=[]/\aL (bM c) =c.aK:=by
 have hs:=yX h.1;unfold Cu.aK at h0⊢;unfold bM;rw[jw];by_cases h1:c.next.1.c≠0
 . have h2:c.bB.1.c≠0:=by rw[<-hs.2.1];exact h1
   rw[if_pos h1,if_pos h2];refine⟨rfl,?_⟩;unfold aL;rw[if_neg (by simp),if_neg h2,hs.2.1]
 . have h2:¬c.bB.1.c≠0:=by rw[<-hs.2.1];exact h1
   rw[if_neg h1] at h0⊢;rw[if_neg h2];by_cases h3:c.next.2.k=0
   . rw[if_pos h3,if_pos (by rw[<-hs.1];exact h3)];exact⟨rfl,rfl⟩
   . rw[if_neg h3] at h0;exact absurd rfl h0
theorem mj{c:Cu} (h:c.live):aL (bM c) =c.aK:=by
 by_cases h0:c.aK=0
 . rw[G4 h h0,h0];unfold aL;rw[if_pos (by simp)]
 . exact(ML h h0).2
theorem qb{c:Cu} (h:c.live) (h0:c.aK=0):ax (bM c) =c.next.2/\au (bM c) =bM c.next.1:=by
 rw[G4 h h0];exact⟨rfl,rfl⟩
abbrev RD:Type:=Int×List Nd×Sx
abbrev VD:Type:=g8->Sx->RD
def gH(s:Sx) (ks:List g8):Int:=if aL s≠0 then aL s else if(ax s).k.toNat≠115 then 3 else if(ax s).t∈ks then 8 else 0
def jm(s:Sx):Int:=if aL s≠0 then aL s else if(ax s).k.toNat≠58 then 3 else 0
def cw(en:Nat) (r:RD):Int:=if aL r.2.2≠0 then aL r.2.2 else if(ax r.2.2).k.toNat=en then 0 else if(ax r.2.2).k.toNat≠44 then 3 else 0
def gz(v:VD):Nat->Sx->List Nd->RD
 |0,s,_=>(1,[],s)
 |n+1,s,acc=>
   if(v [] s).1≠0 then((v [] s).1,[],s)
   else if cw 93 (v [] s)≠0 then(cw 93 (v [] s),[],au (v [] s).2.2)
   else if(ax (v [] s).2.2).k.toNat=93 then(0,acc++(v [] s).2.1,au (v [] s).2.2)
   else gz v n (au (v [] s).2.2) (acc++(v [] s).2.1)
def fG(v:VD):Nat->Sx->List g8->List Nd->RD
 |0,s,_,_=>(1,[],s)
 |n+1,s,ks,acc=>
   if gH s ks≠0 then(gH s ks,[],s)
   else if jm (au s)≠0 then(jm (au s),[],au (au s))
   else if(v (ax s).t (au (au s))).1≠0 then((v (ax s).t (au (au s))).1,[],au (au s))
   else if cw 125 (v (ax s).t (au (au s)))≠0 then(cw 125 (v (ax s).t (au (au s))),[],au (v (ax s).t (au (au s))).2.2)
   else if(ax (v (ax s).t (au (au s))).2.2).k.toNat=125 then(0,acc++(v (ax s).t (au (au s))).2.1,au (v (ax s).t (au (au s))).2.2)
   else fG v n (au (v (ax s).t (au (au s))).2.2) (ks++[(ax s).t]) (acc++(v (ax s).t (au (au s))).2.1)
def bK(v:VD) (en:Nat) (s:Sx):RD:=
 if aL s=0/\(ax s).k.toNat=en then(0,[],au s) else if en=125 then fG v (s.1.length+1) s [] [] else gz v (s.1.length+1) s []
def aF:Nat->VD
 |0,key,s=>if aL s≠0 then(aL s,[],s) else if(ax s).k.toNat=123\/(ax s).k.toNat=91 then(33,[],s) else if dj (ax s).k=true then(3,[],s) else(0,[⟨(ax s).k,key,(ax s).t,1⟩],au s)
 |k+1,key,s=>
   if aL s≠0 then(aL s,[],s)
   else if(ax s).k.toNat=123\/(ax s).k.toNat=91 then
    ((bK (aF k) ((ax s).k.toNat+2) (au s)).1,⟨(ax s).k,key,[],(bK (aF k) ((ax s).k.toNat+2) (au s)).2.1.length+1⟩::(bK (aF k) ((ax s).k.toNat+2) (au s)).2.1,(bK (aF k) ((ax s).k.toNat+2) (au s)).2.2)
   else if dj (ax s).k=true then(3,[],s) else(0,[⟨(ax s).k,key,(ax s).t,1⟩],au s)
structure eI(r:RT) (d:RD):Prop where
 e:d.1=r.1
 l:r.1=0->d.2.1=r.2.1
 c:r.1=0->d.2.2=bM r.2.2
theorem eI.lV{k:Int} {l l':List Nd} {c:Cu} {s:Sx} (h:k≠0):eI (k,l,c) (k,l',s):=⟨rfl,fun q=>absurd q h,fun q=>absurd q h⟩
theorem eI.err{r:RT} {d:RD} (h:d.1=r.1) (h0:r.1≠0):eI r d:=⟨h,fun q=>absurd q h0,fun q=>absurd q h0⟩
def oZ(vd:VD):Prop:=∀key s,(vd key s).1=0->(vd key s).2.2.1.length+1<=s.1.length
theorem nQ{s:Sx} (h:aL s=0):0<s.1.length:=by
 unfold aL at h;split at h
 . assumption
 . split at h
   . cases h
   . contradiction
theorem fh(s:Sx):(au s).1.length=s.1.length-1:=by show(s.1.drop 1).length=_;rw[fo]
theorem HR{vd:VD} (hv:oZ vd):∀(n:Nat) (s:Sx) (acc:List Nd),(gz vd n s acc).1=0->(gz vd n s acc).2.2.1.length<=s.1.length
 |0,_,_,h=>by rw[gz] at h;cases h
 |n+1,s,acc,h=>by
   rw[gz] at h⊢;by_cases h1:(vd [] s).1≠0
   . rw[if_pos h1] at h;exact absurd h h1
   rw[if_neg h1] at h⊢;have q1:=hv [] s (by omega);by_cases h2:cw 93 (vd [] s)≠0
   . rw[if_pos h2] at h;exact absurd h h2
   rw[if_neg h2] at h⊢;have q2:=fh (vd [] s).2.2;by_cases h3:(ax (vd [] s).2.2).k.toNat=93
   . rw[if_pos h3];show(au (vd [] s).2.2).1.length<=_;omega
   rw[if_neg h3] at h⊢;have:=HR hv n _ _ h;omega
theorem HU{vd:VD} (hv:oZ vd):∀(n:Nat) (s:Sx) (ks:List g8) (acc:List Nd),(fG vd n s ks acc).1=0->(fG vd n s ks acc).2.2.1.length<=s.1.length
 |0,_,_,_,h=>by rw[fG] at h;cases h
 |n+1,s,ks,acc,h=>by
   rw[fG] at h⊢;by_cases h0:gH s ks≠0
   . rw[if_pos h0] at h;exact absurd h h0
   rw[if_neg h0] at h⊢;by_cases h4:jm (au s)≠0
   . rw[if_pos h4] at h;exact absurd h h4
   rw[if_neg h4] at h⊢;by_cases h1:(vd (ax s).t (au (au s))).1≠0
   . rw[if_pos h1] at h;exact absurd h h1
   rw[if_neg h1] at h⊢;have q1:=hv (ax s).t (au (au s)) (by omega);have q3:=fh s;have q4:=fh (au s);by_cases h2:cw 125 (vd (ax s).t (au (au s)))≠0
   . rw[if_pos h2] at h;exact absurd h h2
   rw[if_neg h2] at h⊢;have q2:=fh (vd (ax s).t (au (au s))).2.2;by_cases h3:(ax (vd (ax s).t (au (au s))).2.2).k.toNat=125
   . rw[if_pos h3];show(au (vd (ax s).t (au (au s))).2.2).1.length<=_;omega
   rw[if_neg h3] at h⊢;have:=HU hv n _ _ _ h;omega
theorem OO{vd:VD} (hv:oZ vd) {en:Nat} {s:Sx} (h:(bK vd en s).1=0):(bK vd en s).2.2.1.length<=s.1.length:=by
 unfold bK at h⊢;by_cases h1:aL s=0/\(ax s).k.toNat=en
 . rw[if_pos h1];have:=fh s;show(au s).1.length<=_;omega
 rw[if_neg h1] at h⊢;by_cases h2:en=125
 . rw[if_pos h2] at h⊢;exact HU hv _ _ _ _ h
 . rw[if_neg h2] at h⊢;exact HR hv _ _ _ h
theorem BE:∀k,oZ (aF k)
 |0=>fun key s h=>by
   rw[aF] at h⊢;by_cases h1:aL s≠0
   . rw[if_pos h1] at h;exact absurd h h1
   rw[if_neg h1] at h⊢;have h0:=nQ (s:=s) (by omega);by_cases h2:(ax s).k.toNat=123\/(ax s).k.toNat=91
   . rw[if_pos h2] at h;cases h
   rw[if_neg h2] at h⊢;by_cases h3:dj (ax s).k=true
   . rw[if_pos h3] at h;cases h
   rw[if_neg h3];have:=fh s;show(au s).1.length+1<=_;omega
 |k+1=>fun key s h=>by
   rw[aF] at h⊢;by_cases h1:aL s≠0
   . rw[if_pos h1] at h;exact absurd h h1
   rw[if_neg h1] at h⊢;have h0:=nQ (s:=s) (by omega);have hr:=fh s;by_cases h2:(ax s).k.toNat=123\/(ax s).k.toNat=91
   . rw[if_pos h2] at h⊢;have:=OO (BE k) h;show(bK (aF k) ((ax s).k.toNat+2) (au s)).2.2.1.length+1<=_;omega
   rw[if_neg h2] at h⊢;by_cases h3:dj (ax s).k=true
   . rw[if_pos h3] at h;cases h
   rw[if_neg h3];show(au s).1.length+1<=_;omega
def SmV(v:VF) (vd:VD):Prop:=∀c key,c.live->c.aK=0->eI (v c.next.2 key c.next.1) (vd key (bM c))
def ErV(vd:VD):Prop:=∀key s,aL s≠0->(vd key s).1=aL s
theorem BD:∀k,ErV (aF k)
 |0=>fun key s h=>by rw[aF,if_pos h]
 |k+1=>fun key s h=>by rw[aF,if_pos h]
theorem L0{v:VF} {vd:VD} (hf:ll v) (hl:oZ vd) (he:ErV vd) (hv:SmV v vd):∀(n m:Nat) (b:Cu) (acc:List Nd),b.live->b.aK=0->b.next.1.e-b.next.1.p+1<=n->(bM b).1.length+1<=m->
   eI (iF v n b.next.2 b.next.1 acc) (gz vd m (bM b) acc)
 |0,_,_,_,_,_,h,_=>absurd h (by omega)
 |_+1,0,_,_,_,_,_,h=>absurd h (by omega)
 |n+1,m+1,b,acc,hb,h0,hn,hm=>by
   obtain⟨a1,a2,a3,a4,_⟩:=bQ hb h0;have hs:=hv b [] hb h0;have hlen:=hl [] (bM b);rw[iF,gz];by_cases h1:(v b.next.2 [] b.next.1).1≠0
   . rw[if_pos h1,if_pos (show(vd [] (bM b)).1≠0 by rw[hs.e];exact h1)];exact eI.err hs.e h1
   rw[if_neg h1,if_neg (show¬(vd [] (bM b)).1≠0 by rw[hs.e];exact h1)];have h1':(v b.next.2 [] b.next.1).1=0:=by omega
   have f:=hf b.next.2 [] b.next.1 a1 h1';have hc:=hs.c h1';have hll:=hs.l h1';have hlen:=hlen (by rw[hs.e];exact h1');generalize v b.next.2 [] b.next.1=r at*;generalize vd [] (bM b) =d at*;have hq:=mj f.live;unfold cw;rw[hc];rw[hc] at hlen;rw[hq];by_cases h2:r.2.2.aK≠0
   . rw[if_pos h2,if_pos h2,if_pos h2];exact eI.lV h2
   have h2':r.2.2.aK=0:=by omega
   obtain⟨t1,t2⟩:=qb f.live h2';obtain⟨l1,l2,l3,l4,_⟩:=bQ f.live h2';rw[if_neg h2,if_neg h2,t1,t2];by_cases h3:r.2.2.next.2.k.toNat=93
   . rw[if_pos h3,if_pos h3,if_neg (show¬(0:Int)≠0 by simp),if_pos h3,hll];exact⟨rfl,fun _=>rfl,fun _=>rfl⟩
   rw[if_neg h3,if_neg h3,if_neg h3];by_cases h4:r.2.2.next.2.k.toNat≠44
   . rw[if_pos h4,if_pos h4,if_pos (by decide)];exact eI.lV (by decide)
   rw[if_neg h4,if_neg h4,if_neg (show¬(0:Int)≠0 by simp)];have hsl:=fh (bM r.2.2);rw[t2] at hsl;have hpos:=nQ (s:=bM r.2.2) (by rw[hq];exact h2');have fp:=f.p;have fe:=f.e;have fs:=f.s;by_cases h5:r.2.2.next.1.aK≠0
   . rw[if_pos h5];obtain⟨m',rfl⟩:∃m',m=m'+1:=⟨m-1,by omega⟩
     have hx:=mj l1;have hx2:=he [] (bM r.2.2.next.1) (by rw[hx];exact h5);rw[gz,if_pos (by rw[hx2,hx];exact h5)];exact eI.err (by rw[hx2,hx]) h5
   rw[if_neg h5];rw[hll];obtain⟨m1,m2,m3,m4,_⟩:=bQ l1 (by omega);have hpe:=m1.1.1;rw[m3,l3,fe] at hpe;exact L0 hf hl he hv n m _ _ l1 (by omega) (by rw[m3,l3,fe];omega) (by omega)
theorem Lu{v:VF} {vd:VD} (hf:ll v) (hl:oZ vd) (he:ErV vd) (hv:SmV v vd):∀(n m:Nat) (b:Cu) (ks:List g8) (acc:List Nd),b.live->b.aK=0->b.next.1.e-b.next.1.p+1<=n->(bM b).1.length+1<=m->
   eI (iG v n b.next.2 b.next.1 ks acc) (fG vd m (bM b) ks acc)
 |0,_,_,_,_,_,_,h,_=>absurd h (by omega)
 |_+1,0,_,_,_,_,_,_,h=>absurd h (by omega)
 |n+1,m+1,b,ks,acc,hb,h0,hn,hm=>by
   obtain⟨a1,a2,a3,a4,_⟩:=bQ hb h0;obtain⟨t1,t2⟩:=qb hb h0;have hsb:=mj hb;have hsc:=mj a1;rw[iG,fG];unfold fJ gH;rw[hsb,if_neg (show¬b.aK≠0 by omega),t1,t2];by_cases g1:b.next.2.k.toNat≠115
   . rw[if_pos g1,if_pos g1,if_pos (by decide),if_pos (by decide)];exact eI.lV (by decide)
   rw[if_neg g1,if_neg g1];by_cases g2:b.next.2.t∈ks
   . rw[if_pos g2,if_pos g2,if_pos (by decide),if_pos (by decide)];exact eI.lV (by decide)
   rw[if_neg g2,if_neg g2,if_neg (show¬(0:Int)≠0 by simp)];unfold jm;rw[hsc];by_cases g3:b.next.1.aK≠0
   . rw[if_pos g3,if_pos g3,if_pos g3,if_pos g3];exact eI.lV g3
   obtain⟨u1,u2⟩:=qb a1 (by omega);obtain⟨c1,c2,c3,c4,_⟩:=bQ a1 (by omega);rw[if_neg g3,if_neg g3,u1,u2];by_cases g4:b.next.1.next.2.k.toNat≠58
   . rw[if_pos g4,if_pos g4,if_pos (by decide),if_pos (by decide)];exact eI.lV (by decide)
   rw[if_neg g4,if_neg g4,if_neg (show¬(0:Int)≠0 by simp)];have hsd:=mj c1;by_cases g5:b.next.1.next.1.aK≠0
   . have hx:=he b.next.2.t (bM b.next.1.next.1) (by rw[hsd];exact g5);rw[if_pos g5,if_pos (by rw[hx,hsd];exact g5)];exact eI.err (by rw[hx,hsd]) g5
   rw[if_neg g5];have hs:=hv b.next.1.next.1 b.next.2.t c1 (by omega);have hlen:=hl b.next.2.t (bM b.next.1.next.1);obtain⟨d1,d2,d3,d4,_⟩:=bQ c1 (by omega);have hk1:=fh (bM b);rw[t2] at hk1;have hk2:=fh (bM b.next.1);rw[u2] at hk2;have f:(c7 v b.next.2 b.next.1).1=0->Fit b.next.1.next.1.next.1 (c7 v b.next.2 b.next.1):=fun h=>hf _ _ _ d1 h;have hs:eI (c7 v b.next.2 b.next.1) (vd b.next.2.t (bM b.next.1.next.1)):=hs;by_cases h1:(c7 v b.next.2 b.next.1).1≠0
   . rw[if_pos h1,if_pos (show(vd b.next.2.t (bM b.next.1.next.1)).1≠0 by rw[hs.e];exact h1)];exact eI.err hs.e h1
   rw[if_neg h1,if_neg (show¬(vd b.next.2.t (bM b.next.1.next.1)).1≠0 by rw[hs.e];exact h1)];have h1':(c7 v b.next.2 b.next.1).1=0:=by omega
   have f:=f h1';have hc:=hs.c h1';have hll:=hs.l h1';have hlen:=hlen (by rw[hs.e];exact h1');generalize c7 v b.next.2 b.next.1=r at*;generalize vd b.next.2.t (bM b.next.1.next.1) =d at*;have hq:=mj f.live;unfold cw;rw[hc];rw[hc] at hlen;rw[hq];by_cases h2:r.2.2.aK≠0
   . rw[if_pos h2,if_pos h2,if_pos h2];exact eI.lV h2
   have h2':r.2.2.aK=0:=by omega
   obtain⟨v1,v2⟩:=qb f.live h2';obtain⟨l1,l2,l3,l4,_⟩:=bQ f.live h2';rw[if_neg h2,if_neg h2,v1,v2];by_cases h3:r.2.2.next.2.k.toNat=125
   . rw[if_pos h3,if_pos h3,if_neg (show¬(0:Int)≠0 by simp),if_pos h3,hll];exact⟨rfl,fun _=>rfl,fun _=>rfl⟩
   rw[if_neg h3,if_neg h3,if_neg h3];by_cases h4:r.2.2.next.2.k.toNat≠44
   . rw[if_pos h4,if_pos h4,if_pos (by decide)];exact eI.lV (by decide)
   rw[if_neg h4,if_neg h4,if_neg (show¬(0:Int)≠0 by simp)];have hsl:=fh (bM r.2.2);rw[v2] at hsl;have hpos:=nQ (s:=bM r.2.2) (by rw[hq];exact h2');have fp:=f.p;have fe:=f.e;have fs:=f.s;by_cases h5:r.2.2.next.1.aK≠0
   . rw[if_pos h5];obtain⟨m',rfl⟩:∃m',m=m'+1:=⟨m-1,by omega⟩
     have hx:=mj l1;rw[fG];unfold gH;rw[hx,if_pos h5,if_pos h5];exact eI.lV h5
   rw[if_neg h5];rw[hll];obtain⟨m1,m2,m3,m4,_⟩:=bQ l1 (by omega);have hpe:=m1.1.1;rw[m3,l3,fe,d3,c3] at hpe;exact Lu hf hl he hv n m _ _ _ l1 (by omega) (by rw[m3,l3,fe,d3,c3];omega) (by omega)
theorem Sr{v:VF} {vd:VD} (hf:ll v) (hl:oZ vd) (he:ErV vd) (hv:SmV v vd) {c:Cu} (hc:c.live):eI (bW v c) (bK vd 93 (bM c)):=by
 have hs:=mj hc;unfold bW bK;rw[hs];by_cases h1:c.aK≠0
 . rw[if_pos h1,if_neg (fun q=>h1 q.1),if_neg (by decide)];have hx:=he [] (bM c) (by rw[hs];exact h1);rw[gz,if_pos (by rw[hx,hs];exact h1)];exact eI.err (by rw[hx,hs]) h1
 obtain⟨t1,t2⟩:=qb hc (by omega);rw[if_neg h1,t1,t2];by_cases h3:c.next.2.k.toNat=93
 . rw[if_pos h3,if_pos ⟨by omega,h3⟩];exact⟨rfl,fun _=>rfl,fun _=>rfl⟩
 rw[if_neg h3,if_neg (fun q=>h3 q.2),if_neg (by decide)];exact L0 hf hl he hv _ _ c [] hc (by omega) (co _) (co _)
theorem Ss{v:VF} {vd:VD} (hf:ll v) (hl:oZ vd) (he:ErV vd) (hv:SmV v vd) {c:Cu} (hc:c.live):eI (bS v c) (bK vd 125 (bM c)):=by
 have hs:=mj hc;unfold bS bK;rw[hs];by_cases h1:c.aK≠0
 . rw[if_pos h1,if_neg (fun q=>h1 q.1),if_pos rfl];rw[fG];unfold gH;rw[hs,if_pos h1,if_pos h1];exact eI.err rfl h1
 obtain⟨t1,t2⟩:=qb hc (by omega);rw[if_neg h1,t1,t2];by_cases h3:c.next.2.k.toNat=125
 . rw[if_pos h3,if_pos ⟨by omega,h3⟩];exact⟨rfl,fun _=>rfl,fun _=>rfl⟩
 rw[if_neg h3,if_neg (fun q=>h3 q.2),if_pos rfl];exact Lu hf hl he hv _ _ c [] [] hc (by omega) (co _) (co _)
theorem Jg{x:CO} {k:UInt8} (h:(held x k).2.k≠0):(held x k).2.k=k:=by
 unfold held at h⊢;dsimp only at h⊢;split
 . rfl
 . rename_i q;rw[if_neg q] at h;exact absurd rfl h
theorem Nv{c:Cu} {k:UInt8} (h:(c.dQ k).2.k≠0):(c.dQ k).2.k=k:=by
 unfold Cu.dQ at h⊢;split
 . rename_i q;rw[if_pos q] at h;exact absurd rfl h
 . rfl
theorem Yv{d:Cu} (h:d.jh.2.k≠0):(dj d.jh.2.k=true/\d.jh.2.t=[])\/(gZ d.jh.2.k=true/\dj d.jh.2.k=false):=by
 have leaf:∀k:UInt8,(k=115\/k=110\/k=116\/k=102\/k=122)->gZ k=true/\dj k=false:=by
  intro k hk;rcases hk with rfl|rfl|rfl|rfl|rfl<;>decide
 unfold Cu.jh at h⊢;by_cases h1:d.p=d.e
 . rw[if_pos h1] at h;exact absurd rfl h
 rw[if_neg h1] at h⊢;by_cases h2:dj d.get=true
 . rw[if_pos h2];exact .inl ⟨h2,rfl⟩
 rw[if_neg h2] at h⊢;by_cases h3:d.get.toNat=34
 . rw[if_pos h3] at h⊢;rw[Jg h];exact .inr (leaf _ (.inl rfl))
 rw[if_neg h3] at h⊢;by_cases h4:d.get.toNat=45\/ba d.get=true
 . rw[if_pos h4] at h⊢;rw[Jg h];exact .inr (leaf _ (.inr (.inl rfl)))
 rw[if_neg h4] at h⊢;by_cases h5:d.get.toNat=116\/d.get.toNat=102
 . rw[if_pos h5] at h⊢;rw[Nv h];refine .inr (leaf _ ?_);rcases h5 with h5|h5
   . exact .inr (.inr (.inl (UInt8.toNat_inj.1 h5)))
   . exact .inr (.inr (.inr (.inl (UInt8.toNat_inj.1 h5))))
 rw[if_neg h5] at h⊢;by_cases h6:d.get.toNat=110
 . rw[if_pos h6] at h⊢;rw[Nv h];exact .inr (leaf _ (.inr (.inr (.inr (.inr rfl)))))
 rw[if_neg h6] at h;exact absurd rfl h
theorem D0{c:Cu} (hc:c.live) (h:c.aK=0):(dj c.next.2.k=true/\c.next.2.t=[])\/(gZ c.next.2.k=true/\dj c.next.2.k=false):=by
 obtain⟨l,_,_,_,hn⟩:=bQ hc h;have h2:c.bB.2.k≠0:=by
  unfold Cu.aK at h;split at h
  . rename_i q;exact absurd h q
  . split at h
    . cases h
    . rename_i q;rw[<-hn];exact q
 rw[hn];unfold Cu.bB at h2⊢;rw[if_neg (show¬c.c≠0 from fun q=>q hc.2.1)] at h2⊢;exact Yv h2
theorem Mr{k:UInt8} (h:dj k=true):gZ k=false:=by
 unfold dj at h;have h:=of_decide_eq_true h;unfold gZ;exact decide_eq_false (by omega)
theorem DM{k:UInt8} (h:k.toNat=123\/k.toNat=91):dj k=true:=decide_eq_true (by omega)
theorem Cf:∀k,SmV (gv k) (aF k)
 |0=>fun c key hc h0=>by
   have hs:=mj hc;obtain⟨t1,t2⟩:=qb hc h0;have hk:=D0 hc h0;rw[gv,aF,hs,if_neg (show¬c.aK≠0 by omega),t1,t2];by_cases h1:c.next.2.k.toNat=123\/c.next.2.k.toNat=91
   . rw[if_pos h1,if_pos h1];exact eI.lV (by decide)
   rw[if_neg h1,if_neg h1];rcases hk with ⟨q1,q2⟩|⟨q1,q2⟩
   . rw[if_neg (by rw[Mr q1];decide),if_pos q1];exact eI.lV (by decide)
   . rw[if_pos q1,if_neg (by rw[q2];decide)];exact⟨rfl,fun _=>rfl,fun _=>rfl⟩
 |k+1=>fun c key hc h0=>by
   have hs:=mj hc;obtain⟨t1,t2⟩:=qb hc h0;have hk:=D0 hc h0;obtain⟨a1,_⟩:=bQ hc h0;rw[gv,aF,hs,if_neg (show¬c.aK≠0 by omega),t1,t2];have ho:=Ss (iU k) (BE k) (BD k) (Cf k) a1;have hl:=Sr (iU k) (BE k) (BD k) (Cf k) a1;by_cases h1:c.next.2.k.toNat=123
   . rw[if_pos h1,if_pos (.inl h1),h1];rcases hk with ⟨_,q2⟩|⟨_,q2⟩
     . refine⟨ho.e,fun h=>?_,fun h=>ho.c h⟩;show _::_=_::_;rw[ho.l h,q2]
     . rw[DM (.inl h1)] at q2;cases q2
   rw[if_neg h1];by_cases h2:c.next.2.k.toNat=91
   . rw[if_pos h2,if_pos (.inr h2),h2];rcases hk with ⟨_,q2⟩|⟨_,q2⟩
     . refine⟨hl.e,fun h=>?_,fun h=>hl.c h⟩;show _::_=_::_;rw[hl.l h,q2]
     . rw[DM (.inr h2)] at q2;cases q2
   rw[if_neg h2,if_neg (show¬(c.next.2.k.toNat=123\/c.next.2.k.toNat=91) from fun q=>q.elim h1 h2)];rcases hk with ⟨q1,q2⟩|⟨q1,q2⟩
   . rw[if_neg (by rw[Mr q1];decide),if_pos q1];exact eI.lV (by decide)
   . rw[if_pos q1,if_neg (by rw[q2];decide)];exact⟨rfl,fun _=>rfl,fun _=>rfl⟩
def eO(s:g8):Int:=
 if(Cu.new s).aK≠0 then(Cu.new s).aK
 else if(gv 32 (Cu.new s).next.2 [] (Cu.new s).next.1).1≠0 then(gv 32 (Cu.new s).next.2 [] (Cu.new s).next.1).1
 else if(gv 32 (Cu.new s).next.2 [] (Cu.new s).next.1).2.2.next.2.k≠0\/(gv 32 (Cu.new s).next.2 [] (Cu.new s).next.1).2.2.next.1.c≠0 then 2 else 0
def fi(s:g8):List Nd:=if eO s=0 then(gv 32 (Cu.new s).next.2 [] (Cu.new s).next.1).2.1 else[]
def jY(s:g8):Int:=
 if(aF 32 [] (bM (.new s))).1≠0 then(aF 32 [] (bM (.new s))).1
 else if(aF 32 [] (bM (.new s))).2.2.1.length>0\/(aF 32 [] (bM (.new s))).2.2.2≠0 then 2 else 0
def ly(s:g8):List Nd:=if jY s=0 then(aF 32 [] (bM (.new s))).2.1 else[]
theorem MK{c:Cu} (h:c.live):(c.next.2.k≠0\/c.next.1.c≠0)↔((bM c).1.length>0\/(bM c).2≠0):=by
 by_cases h0:c.aK=0
 . rw[G4 h h0];have hk:c.next.2.k≠0:=by
    unfold Cu.aK at h0;split at h0
    . rename_i q;exact absurd h0 q
    . split at h0
      . cases h0
      . assumption
   exact⟨fun _=>.inl (by simp),fun _=>.inl hk⟩
 . have hs:=yX h.1;obtain⟨h1,_⟩:=ML h h0;rw[h1];unfold Cu.aK at h0;by_cases h2:c.next.1.c≠0
   . refine⟨fun _=>.inr ?_,fun _=>.inr h2⟩;unfold bM;rw[jw,if_pos (by rw[<-hs.2.1];exact h2),<-hs.2.1];exact h2
   . rw[if_neg h2] at h0;have hk:c.next.2.k=0:=by
      by_cases q:c.next.2.k=0
      . exact q
      . rw[if_neg q] at h0;exact absurd rfl h0
     refine⟨fun q=>?_,fun q=>?_⟩
     . rcases q with q|q
       . exact absurd hk q
       . exact absurd q h2
     . rcases q with q|q
       . simp at q
       . exfalso;apply q;unfold bM;rw[jw,if_neg (by rw[<-hs.2.1];exact h2),if_pos (by rw[<-hs.1];exact hk)]
theorem uA{s:g8} (h:s.length<=10000000):jY s=eO s/\ly s=fi s:=by
 have hc:(Cu.new s).live:=⟨⟨ci _,co _⟩,rfl,h⟩
 have hs:=mj hc;have key:jY s=eO s/\(eO s=0->(aF 32 [] (bM (.new s))).2.1=(gv 32 (Cu.new s).next.2 [] (Cu.new s).next.1).2.1):=by
  unfold jY eO;by_cases h1:(Cu.new s).aK≠0
  . have hx:=BD 32 [] (bM (.new s)) (by rw[hs];exact h1);rw[if_pos h1,if_pos (by rw[hx,hs];exact h1),hx,hs];exact⟨rfl,fun q=>absurd q h1⟩
  rw[if_neg h1];have hv:=Cf 32 (.new s) [] hc (by omega);obtain⟨a1,_⟩:=bQ hc (by omega);by_cases h2:(gv 32 (Cu.new s).next.2 [] (Cu.new s).next.1).1≠0
  . rw[if_pos h2,if_pos (by rw[hv.e];exact h2)];exact⟨hv.e,fun q=>absurd q h2⟩
  have h2':(gv 32 (Cu.new s).next.2 [] (Cu.new s).next.1).1=0:=by omega
  rw[if_neg h2,if_neg (by rw[hv.e];exact h2),hv.c h2'];have f:=iU 32 _ [] _ a1 h2';refine⟨?_,fun _=>hv.l h2'⟩;by_cases h3:(gv 32 (Cu.new s).next.2 [] (Cu.new s).next.1).2.2.next.2.k≠0\/(gv 32 (Cu.new s).next.2 [] (Cu.new s).next.1).2.2.next.1.c≠0
  . rw[if_pos h3,if_pos ((MK f.live).1 h3)]
  . rw[if_neg h3,if_neg (fun q=>h3 ((MK f.live).2 q))]
 refine⟨key.1,?_⟩;unfold ly fi;rw[key.1];by_cases h0:eO s=0
 . rw[if_pos h0,if_pos h0,key.2 h0]
 . rw[if_neg h0,if_neg h0]
theorem Vr{c:Cu} (h:c.bB.2.k≠0):c.bB.1.c=0:=by
 unfold Cu.bB at h⊢;by_cases h0:c.c≠0
 . rw[if_pos h0] at h;exact absurd rfl h
 rw[if_neg h0] at h⊢;have e3:({c with p:=dy dn c.ar c.p}:Cu).c=0:=by show c.c=0;omega
 generalize ({c with p:=dy dn c.ar c.p}:Cu) =d at*;have hh:∀(x:CO) (k:UInt8),(held x k).2.k≠0->(held x k).1.c=0:=fun x k h=>by
  unfold held at h⊢;by_cases z:x.1.c=0
  . exact z
  . rw[if_neg z] at h;exact absurd rfl h
 have hw:∀k,(d.dQ k).2.k≠0->(d.dQ k).1.c=0:=fun k h=>by
  unfold Cu.dQ at h⊢;by_cases z:fk d (spell k) 0≠0
  . rw[if_pos z] at h;exact absurd rfl h
  . rw[if_neg z];exact e3
 unfold Cu.jh at h⊢;repeat' split at h
 all_goals first
  |exact absurd rfl h
  |skip
 . rename_i q1 q2;rw[if_neg q1,if_pos q2];exact e3
 . rename_i q1 q2 q3;rw[if_neg q1,if_neg q2,if_pos q3];exact hh _ _ h
 . rename_i q1 q2 q3 q4;rw[if_neg q1,if_neg q2,if_neg q3,if_pos q4];exact hh _ _ h
 . rename_i q1 q2 q3 q4 q5;rw[if_neg q1,if_neg q2,if_neg q3,if_neg q4,if_pos q5];exact hw _ h
 . rename_i q1 q2 q3 q4 q5 q6;rw[if_neg q1,if_neg q2,if_neg q3,if_neg q4,if_neg q5,if_pos q6];exact hw _ h
def eD:List V->List Tk
 |[]=>[]
 |.agg [.int _ a,.str t]::r=>⟨byte a,t⟩::eD r
 |_::r=>default::eD r
@[simp] theorem Nf(l:List Tk):eD (l.map vT) =l:=by
 induction l with
 |nil=>rfl
 |cons b s ih=>
   have h:byte (b.k.toNat:Int) =b.k:=dd _;simp only[List.map_cons,vT,eT,bv,eD,ih,h]
def tP(l:List V):Prop:=l=(eD l).map vT
theorem km{l:List Tk}:tP (l.map vT):=by unfold tP;rw[Nf]
abbrev jZ(s:Sx):V:=.agg [.list false 2 (s.1.map vT),.int .i64 s.2]
theorem AH{l:List V} {e:Int} (h:tP l):V.agg [.list false 2 l,.int .i64 e]=jZ (eD l,e):=by
 show _=V.agg [.list false 2 ((eD l).map vT),.int .i64 e];rw[<-h]
def al:List V->List Nd
 |[]=>[]
 |.agg [.int _ a,.str k,.str t,.int _ n]::r=>⟨byte a,k,t,n⟩::al r
 |_::r=>default::al r
@[simp] theorem bX(l:List Nd):al (l.map aN) =l:=by
 induction l with
 |nil=>rfl
 |cons b s ih=>
   have h:byte (b.k.toNat:Int) =b.k:=dd _;simp only[List.map_cons,aN,eNc,al,ih,h]
def fE(l:List V):Prop:=l=(al l).map aN
theorem mc{l:List Nd}:fE (l.map aN):=by unfold fE;rw[bX]
abbrev iB(L:List Nd):O:=.buf 4 0 (L.map aN)
theorem YU{l:List V} (h:fE l):O.buf 4 0 l=iB (al l):=by
 show _=O.buf 4 0 ((al l).map aN);rw[<-h]
theorem N1:∀(n:Nat) (c:Cu),c.ok->(jw n c).1.length<=c.e-c.p
 |0,_,_=>ci _
 |n+1,c,hk=>by
   rw[jw];by_cases h1:c.bB.1.c≠0
   . rw[if_pos h1];exact ci _
   rw[if_neg h1];by_cases h2:c.bB.2.k=0
   . rw[if_pos h2];exact ci _
   rw[if_neg h2];have hd:=yV hk (by omega);have hp:=hd.2.2.2.2.2 h2;have hp2:=hd.1.1;have:=N1 n c.bB.1 hd.1;have e:=hd.2.2.1;show(jw n c.bB.1).1.length+1<=_;omega
def oS:List V->List g8
 |[]=>[]
 |.str t::r=>t::oS r
 |_::r=>[]::oS r
@[simp] theorem nS(l:List g8):oS (l.map V.str) =l:=by
 induction l with
 |nil=>rfl
 |cons b s ih=>simp only[List.map_cons,oS,ih]
def mR(l:List V):Prop:=l=(oS l).map V.str
theorem Lx{l:List g8}:mR (l.map V.str):=by unfold mR;rw[nS]
abbrev qy(L:List g8):O:=.buf 1 0 (L.map V.str)
theorem YS{l:List V} (h:mR l):O.buf 1 0 l=qy (oS l):=by
 show _=O.buf 1 0 ((oS l).map V.str);rw[<-h]
def Fp:Sm:=fun args σ=>match args,σ with
 |[.str s],[]=>some (s.length<=10000000,jZ (bM (.new s)),none)
 |_,_=>none
theorem U1:aq 13 Fp:=by
 intro args sg pre x r he hp;unfold Fp at he;split at he<;>cases he
 . rename_i s;refine ai (C:=cx [(46,EX),(47,Fk)]) (ak ⟨Tx,TW,trivial⟩) (fn:=Tryz.f13) fun hw hs=>?_;repeat'((conv=>whnf);apply af)
   all_goals try conv=>whnf
   all_goals try(refine ae.mk ?_;try dsimp only)
   refine aM.mk (Nat×Nat×Cu×List Tk) (fun|(i,n,c,acc) =>(i+n=s.length+1/\c.ok/\c.s=s/\c.c=0)/\c.e-c.p+1<=n/\acc.length<=c.p/\bM (.new s) =(acc++(jw n c).1,(jw n c).2))
    (fun|(i,n,c,acc) =>⟨40,[(0,.str s),(2,.ptr 0 0),(3,.ptr 1 0),(4,.buf 2),(5,.int .i64 i)],[.cells [.list true 0 [],.int .i64 0],.cells (eC c),.buf 2 0 (acc.map vT)],[2]⟩) (fun x=>x.2.1) [.tm 4 2] (0,s.length+1,.new s,[])
    ⟨⟨by omega,Lj s,rfl,rfl⟩,by show s.length-0+1<=s.length+1;omega,ci _,rfl⟩ ?_ (fun⟨i,n,c,acc⟩ ⟨⟨hin,hk,hs,h0⟩,hn,ha,he⟩ _ _=>?_)
   . apply ao<;>(repeat' first|trivial)
   obtain⟨n,rfl⟩:∃m,n=m+1:=⟨n-1,by omega⟩
   rw[jw] at he;have on:=fun h=>yV hk h;have hp1:=hk.1;have hp2:=hk.2;have hsl:c.s.length<=10000000:=by rw[hs];exact hp
   have hml:(acc.map vT).length=acc.length:=aB _;repeat'((conv=>whnf);first|apply af|apply aI|(apply aj<;>intro h))
   all_goals try conv=>whnf
   all_goals try(refine ae.mk ?_;try dsimp only)
   all_goals first|refine stay ?_|trivial|(simp only[du];omega)|skip
   all_goals (try simp only[aT] at*)
   . have z:c.bB.1.c=0:=by assumption
     have k0:c.bB.2.k=0:=UInt8.toNat_inj.1 (by show _=0;omega);rw[if_neg (by omega),if_pos k0,List.append_nil] at he;rw[he,z];refine ab.mk [.bL 2] ?_<;>(repeat' first|trivial)
   . have z:c.bB.1.c=0:=by assumption
     have k0:c.bB.2.k≠0:=fun e=>by
      exact absurd (show((c.bB.2.k.toNat:Nat):Int) =0 by rw[e];rfl) (by assumption)
     obtain⟨o1,o2,o3,o4,o5,o6⟩:=on z;have o6:=o6 k0;have o7:=o1.1;rw[if_neg (by omega),if_neg k0] at he;refine⟨[],(i+1,n,c.bB.1,acc++[c.bB.2]),⟨⟨by show i+1+n=s.length+1;omega,o1,o2.trans hs,z⟩,by show c.bB.1.e-c.bB.1.p+1<=n;omega,by show(acc++[c.bB.2]).length<=c.bB.1.p;rw[an,gt];omega,by show _=((acc++[c.bB.2])++_,_);rw[gc];exact he⟩,?_,by show n<n+1;omega⟩;apply ao<;>(repeat' first|trivial|apply ah|apply aC|apply bg)
     all_goals first
      |(first|(simp(discharger:=omega) only[wR];omega)|(simp(discharger:=omega) [-List.getD_eq_getElem?_getD,wR]<;>omega))
      |simp
   . have z:c.bB.1.c≠0:=by assumption
     rw[if_pos z,List.append_nil] at he;rw[he];refine ab.mk [.bL 2] ?_<;>(repeat' first|trivial)
   . exfalso;omega
theorem QO(s:Sx) (hp:True):OK 48 ([jZ s]) ([]) (.tuple [.agg (eT (if aL s=0 then ax s else default)),jZ (au s),.int .i64 (aL s)]) (none):=by
 refine ai (C:=cx []) (ak trivial) (fn:=Tryz.f48) fun hw hs=>?_;have hml:(s.1.map vT).length=s.1.length:=aB _;have he0:s.1.length>0->aL s=0:=fun h=>by unfold aL;rw[if_pos h]
 have he1:¬s.1.length>0->s.2=0->aL s=1:=fun h h2=>by unfold aL;rw[if_neg h,if_pos h2]
 have he2:¬s.1.length>0->¬s.2=0->aL s=s.2:=fun h h2=>by unfold aL;rw[if_neg h,if_neg h2]
 have hnil:¬s.1.length>0->s.1=[]:=fun h=>by
  cases hs:s.1 with
  |nil=>rfl
  |cons a b=>exfalso;rw[hs] at h;simp at h
 repeat'((conv=>whnf);first|apply af|(apply aj<;>intro h)|with_reducible apply ig)
 all_goals try conv=>whnf
 all_goals try(refine ae.mk ?_;try dsimp only)
 all_goals first|refine stay ?_|trivial|omega|skip
 . rw[he0 (by omega),if_pos rfl];refine ab.mk [] ?_<;>(repeat' first|trivial|apply ah|apply kT|apply fQ|apply gC|apply bV)
   show(s.1.map vT).drop 1=(s.1.drop 1).map vT;rw[List.map_drop]
 . rw[he1 (by omega) (by omega),if_neg (by decide)];unfold au;rw[hnil (by omega)];refine ab.mk [] ?_<;>(repeat' first|trivial)
 . rw[he2 (by omega) (by omega),if_neg (by omega)];unfold au;rw[hnil (by omega)];refine ab.mk [] ?_<;>(repeat' first|trivial)
def uq:Sm:=fun args σ=>match args,σ with
 |[.agg [.list false 2 l_s,.int .i64 e_s]],[]=>some (tP l_s/\(True),.tuple [.agg (eT (if aL ((eD l_s,e_s)) =0 then ax ((eD l_s,e_s)) else default)),jZ (au ((eD l_s,e_s))),.int .i64 (aL ((eD l_s,e_s)))],none)
 |_,_=>none
theorem yu:aq 48 uq:=by
 intro args sg pre x r he hp;unfold uq at he;split at he<;>cases he
 . rw[AH (hp).1];exact QO (hp:=hp.2) ..
-- #name r13within truchmanref13.within
theorem QS(k:UInt8) (key:g8) (L:List Nd) (hp:L.length<=100000000):OK 50 [bv k,.str key,.buf 0] [iB L] (.buf 1) (some [.dead,iB (⟨k,key,[],L.length+1⟩::L)]):=by
 refine ai (C:=cxl [] [13]) (Cb trivial) (fn:=Tryz.f50) fun hw hs=>?_;have hl:(L.map aN).length=L.length:=aB _;have hw1:IntKind.i64.wrap ((L.length:Int)+1) =(L.length:Int)+1:=by rw[bz];omega
 repeat'((conv=>whnf);apply af)
 all_goals try conv=>whnf
 all_goals try(refine ae.mk ?_;try dsimp only)
 all_goals (try simp only[hl,hw1] at*)
 all_goals first|refine stay ?_|(simp only[du];omega)|skip
 refine ab.mk [] ?_<;>(repeat' first|trivial)
def Fq:Sm:=fun args σ=>match args,σ with
 |[.int .u8 k,.str key,.buf 0],[.buf 4 0 l]=>some (fE l/\(0<=k/\k<=255)/\l.length<=100000000,.buf 1,some [.dead,iB (⟨byte k,key,[],l.length+1⟩::al l)])
 |_,_=>none
theorem U2:aq 50 Fq:=by
 intro args sg pre x r he hp;unfold Fq at he;split at he<;>cases he;rename_i k key l;have e:(al l).length=l.length:=by have h:=congrArg List.length hp.1;rw[aB] at h;exact h.symm
 have h:=QS (byte k) key (al l) (by rw[e];exact hp.2.2);rw[gd hp.2.1,YU hp.1,<-e];exact h
theorem QL(l:List g8) (x:g8) (hp:l.length<=100000000):OK 107 ([.buf 0,.str x]) ([qy l]) (.bool (decide (x∈l))) (none):=by
 refine ai (C:=cx []) (ak trivial) (fn:=Tryz.f107) fun hw hs=>?_;have hl:(l.map V.str).length=l.length:=aB _;all_goals try conv=>whnf
 all_goals try(refine ae.mk ?_;try dsimp only)
 all_goals try refine stay ?_
 refine aM.mk Nat (fun i=>i<=l.length/\x∉l.take i) (fun i=>⟨18,[(0,.buf 0),(1,.str x),(5,.int .i64 i)],[qy l],[]⟩) (fun i=>l.length-i) [] 0 ⟨ci _,by simp⟩ ?_ (fun i ⟨hi,hx⟩ _ _=>?_)
 . apply ao<;>(repeat' first|trivial)
 have hnx:∀h:i<l.length,l.take (i+1) =l.take i++[l[i]]:=fun h=>by rw[List.take_add_one,am h];rfl
 repeat'((conv=>whnf);first|apply af|((first|apply aj|apply dr)<;>intro h)|with_reducible apply j9)
 all_goals try conv=>whnf
 all_goals try(refine ae.mk ?_;try dsimp only)
 all_goals first|refine stay ?_|omega|skip
 . have hm:x∈l:=by
     have h:=‹l.getD i default=x›
     rw[ac,am (by omega)] at h;rw[<-h];exact List.getElem_mem _
   rw[decide_eq_true hm];refine ab.mk [] ?_<;>(repeat' first|trivial)
 . refine⟨[],i+1,⟨by omega,?_⟩,?_,by omega⟩
   . rw[hnx (by omega),List.mem_append,List.mem_singleton];rintro(q|q)
     . exact hx q
     . have h:=‹¬l.getD i default=x›
       rw[ac,am (by omega)] at h;exact h q.symm
   apply ao<;>(repeat' first|trivial|apply ah|apply aC)
   all_goals (simp(discharger:=omega) only[wR];omega)
 . have hm:¬x∈l:=by rw[gg (by omega)] at hx;exact hx
   rw[decide_eq_false hm];refine ab.mk [] ?_<;>(repeat' first|trivial)
def Ad:Sm:=fun args σ=>match args,σ with
 |[.buf 0,.str x],[.buf 1 0 l_l]=>some (mR l_l/\((oS l_l).length<=100000000),.bool (decide (x∈(oS l_l))),none)
 |_,_=>none
theorem Kf:aq 107 Ad:=by
 intro args sg pre x r he hp;unfold Ad at he;split at he<;>cases he
 . rw[YS (hp).1];exact QL (hp:=hp.2) ..
def NdV(vd:VD):Prop:=∀key s,(vd key s).1=0->(vd key s).2.1.length+(vd key s).2.2.1.length<=s.1.length
theorem HS{vd:VD} (hv:NdV vd):∀(n:Nat) (s:Sx) (acc:List Nd),(gz vd n s acc).1=0->(gz vd n s acc).2.1.length+(gz vd n s acc).2.2.1.length<=acc.length+s.1.length
 |0,s,acc,h=>by rw[gz] at h;cases h
 |n+1,s,acc,h=>by
   rw[gz] at h⊢;by_cases h1:(vd [] s).1≠0
   . rw[if_pos h1] at h;exact absurd h h1
   rw[if_neg h1] at h⊢;have hd:=hv [] s (by omega);by_cases h2:cw 93 (vd [] s)≠0
   . rw[if_pos h2] at h;exact absurd h h2
   rw[if_neg h2] at h⊢;have hr:=fh (vd [] s).2.2;by_cases h3:(ax (vd [] s).2.2).k.toNat=93
   . rw[if_pos h3];show(acc++(vd [] s).2.1).length+(au (vd [] s).2.2).1.length<=_;rw[an,hr];omega
   . rw[if_neg h3] at h⊢;have:=HS hv n _ _ h;rw[an,hr] at this;omega
theorem HV{vd:VD} (hv:NdV vd):∀(n:Nat) (s:Sx) (ks:List g8) (acc:List Nd),(fG vd n s ks acc).1=0->(fG vd n s ks acc).2.1.length+(fG vd n s ks acc).2.2.1.length<=acc.length+s.1.length
 |0,s,ks,acc,h=>by rw[fG] at h;cases h
 |n+1,s,ks,acc,h=>by
   rw[fG] at h⊢;by_cases a1:gH s ks≠0
   . rw[if_pos a1] at h;exact absurd h a1
   rw[if_neg a1] at h⊢;by_cases a2:jm (au s)≠0
   . rw[if_pos a2] at h;exact absurd h a2
   rw[if_neg a2] at h⊢;have r1:=fh s;have r2:=fh (au s);generalize hx:vd (ax s).t (au (au s)) =x at h⊢;by_cases h1:x.1≠0
   . rw[if_pos h1] at h;exact absurd h h1
   rw[if_neg h1] at h⊢;have hd:=hv (ax s).t (au (au s)) (by rw[hx];omega);rw[hx] at hd;by_cases h2:cw 125 x≠0
   . rw[if_pos h2] at h;exact absurd h h2
   rw[if_neg h2] at h⊢;have hr:=fh x.2.2;by_cases h3:(ax x.2.2).k.toNat=125
   . rw[if_pos h3];show(acc++x.2.1).length+(au x.2.2).1.length<=_;rw[an,hr];omega
   . rw[if_neg h3] at h⊢;have:=HV hv n _ _ _ h;rw[an,hr] at this;omega
theorem HQ{vd:VD} (hv:NdV vd) {en:Nat} {s:Sx} (h:(bK vd en s).1=0):(bK vd en s).2.1.length+(bK vd en s).2.2.1.length<=s.1.length:=by
 unfold bK at h⊢;split
 . have:=fh s;show 0+(au s).1.length<=_;omega
 . rename_i q;rw[if_neg q] at h;split
   . rename_i q2;rw[if_pos q2] at h;have:=HV hv _ _ _ _ h;simpa using this
   . rename_i q2;rw[if_neg q2] at h;have:=HS hv _ _ _ h;simpa using this
theorem sM:∀k,NdV (aF k)
 |0=>fun key s h=>by
   rw[aF] at h⊢;by_cases h1:aL s≠0
   . rw[if_pos h1] at h;exact absurd h h1
   rw[if_neg h1] at h⊢;have hp:=nQ (s:=s) (by omega);have hr:=fh s;split
   . rename_i q;rw[if_pos q] at h;cases h
   . rename_i q;rw[if_neg q] at h;split
     . rename_i q2;rw[if_pos q2] at h;cases h
     . show 1+(au s).1.length<=_;omega
 |k+1=>fun key s h=>by
   rw[aF] at h⊢;by_cases h1:aL s≠0
   . rw[if_pos h1] at h;exact absurd h h1
   rw[if_neg h1] at h⊢;have hp:=nQ (s:=s) (by omega);have hr:=fh s;split
   . rename_i q;rw[if_pos q] at h;have:=HQ (sM k) h;show(_::_:List Nd).length+_<=_;rw[List.length_cons];show(bK (aF k) _ (au s)).2.1.length+1+(bK (aF k) _ (au s)).2.2.1.length<=_;omega
   . rename_i q;rw[if_neg q] at h;split
     . rename_i q2;rw[if_pos q2] at h;cases h
     . show 1+(au s).1.length<=_;omega
theorem HT{vd:VD}:∀(n:Nat) (s:Sx) (acc:List Nd),(gz vd n s acc).1≠0->(gz vd n s acc).2.1=[]
 |0,s,acc,_=>by rw[gz]
 |n+1,s,acc,h=>by
   rw[gz] at h⊢;repeat' split
   all_goals first
    |rfl
    |(exfalso;simp_all;done)
    |(refine HT n _ _ ?_;simp_all)
theorem HW{vd:VD}:∀(n:Nat) (s:Sx) (ks:List g8) (acc:List Nd),(fG vd n s ks acc).1≠0->(fG vd n s ks acc).2.1=[]
 |0,s,ks,acc,_=>by rw[fG]
 |n+1,s,ks,acc,h=>by
   rw[fG] at h⊢;repeat' split
   all_goals first
    |rfl
    |(exfalso;simp_all;done)
    |(refine HW n _ _ _ ?_;simp_all)
theorem OP{vd:VD} {en:Nat} {s:Sx} (h:(bK vd en s).1≠0):(bK vd en s).2.1=[]:=by
 unfold bK at h⊢;split
 . rfl
 . rename_i q;rw[if_neg q] at h;split
   . rename_i q2;rw[if_pos q2] at h;exact HW _ _ _ _ h
   . rename_i q2;rw[if_neg q2] at h;exact HT _ _ _ h
theorem lM(s:Sx):(eD (s.1.map vT),s.2) =s:=by rw[Nf]

abbrev qc(s:Sx):List V:=[.list false 2 (s.1.map vT),.int .i64 s.2]
-- #name r13value truchmanref13.value
def nN(k:Nat):Sm:=fun args σ=>match args,σ with
 |[.agg [.list false 2 l,.int .i64 e],.str key,.int .i64 d],[]=>some (tP l/\d+k=32/\l.length<=10000000,.tuple [.buf 0,jZ (aF k key (eD l,e)).2.2,.int .i64 (aF k key (eD l,e)).1],some [iB (aF k key (eD l,e)).2.1])
 |_,_=>none
structure DL(k:Nat) (s0:Sx) (i m:Nat) (s:Sx) (acc:List Nd):Prop where
 i:i+m=s0.1.length+1
 n:s.1.length+1<=m
 a:acc.length+s.1.length<=s0.1.length
 r:bK (aF k) 93 s0=gz (aF k) m s acc
theorem QM(k:Nat) (hv:aq 14 (nN k)) (s:Sx) (d:Int) (hp:d+k=32/\s.1.length<=10000000):OK 49 [jZ s,.int .u8 93,.int .i64 d] [] (.tuple [.buf 0,jZ (bK (aF k) 93 s).2.2,.int .i64 (bK (aF k) 93 s).1]) (some [iB (bK (aF k) 93 s).2.1]):=by
 refine ai (C:=cx [(48,uq),(14,nN k),(107,Ad)]) (ak ⟨yu,hv,Kf,trivial⟩) (fn:=Tryz.f49) fun hw hs=>?_;have hml:(s.1.map vT).length=s.1.length:=aB _;have hst:¬(aL s=0/\(ax s).k.toNat=93)->bK (aF k) 93 s=gz (aF k) (s.1.length+1) s []:=fun h=>by unfold bK;rw[if_neg h,if_neg (by decide)]
 repeat'((conv=>whnf);first|apply af|(apply aj<;>intro h))
 all_goals try conv=>whnf
 all_goals try(refine ae.mk ?_;try dsimp only)
 all_goals (try simp only[lM,bX,nS,jt] at*)
 all_goals first|refine stay ?_|(exact⟨km,trivial⟩)|skip
 . have h0:=‹aL s=0›
   have hr:bK (aF k) 93 s=(0,[],au s):=by
    unfold bK;rw[if_pos ⟨h0,by have h:=‹_=(93:Int)›;rw[if_pos h0] at h;omega⟩]
   rw[hr]
   (refine ab.mk [.tm 6 4,.swap 0 4] ?_<;>(repeat' first|trivial|rfl|refine And.intro ?_ ?_))
 . have h0:=‹aL s=0›
   have hst:=hst fun q=>by have h:=‹¬_=(93:Int)›;rw[if_pos h0] at h;have:=q.2;omega
   refine aM.mk (Nat×Nat×Sx×List Nd×Tk) (fun x=>DL k s x.1 x.2.1 x.2.2.1 x.2.2.2.1) (fun x=>⟨129,[(1,.int .u8 93),(2,.int .i64 d),(3,.ptr 0 0),(6,.list true 0 []),(7,.ptr 1 0),(9,.buf 4),(10,.buf 5),(11,.ptr 2 0),(12,.ptr 3 0),(14,.int .i64 s.1.length),(15,.int .i64 x.1)],[.cells (qc x.2.2.1),.cells [.list true 0 [],.int .i64 0],.cells (eT x.2.2.2.2),.cells (qc (au s)),iB x.2.2.2.1,qy []],[4,5]⟩) (fun x=>x.2.1) [.tm 9 4,.tm 10 1] (0,s.1.length+1,s,[],(if aL s=0 then ax s else default)) ⟨by show 0+(s.1.length+1) =_;omega,co _,by show 0+s.1.length<=_;omega,hst⟩ ?_ (fun⟨i,n,s',acc,tk⟩ hI _ _=>?_)
   . apply ao<;>(repeat' first|trivial|apply ah|apply aC)
     all_goals (simp only[lM,hml];done)
   obtain⟨i1,i2,i3,i4⟩:=hI;dsimp only at i1 i2 i3 i4;obtain⟨n,rfl⟩:∃m,n=m+1:=⟨n-1,by omega⟩
   rw[gz] at i4;have nd:=sM k [] s';have hml':(s'.1.map vT).length=s'.1.length:=aB _;have hma:(acc.map aN).length=acc.length:=aB _;have hmv:((aF k [] s').2.1.map aN).length=(aF k [] s').2.1.length:=aB _;repeat'((conv=>whnf);first|apply af|apply aI|(apply aj<;>intro h))
   all_goals try conv=>whnf
   all_goals try(refine ae.mk ?_;try dsimp only)
   all_goals (try simp only[lM,bX,nS,jt] at*)
   all_goals first|refine stay ?_|(exact⟨km,trivial⟩)|omega|skip
   . exact⟨km,hp.1,by rw[hml'];omega⟩
   all_goals (try(exfalso;omega))
   all_goals generalize aF k [] s'=r at*
   all_goals (try have b1:aL r.2.2=0:=by assumption)
   all_goals (try rw[if_pos b1] at*)
   . have b0:r.1=0:=by assumption
     have b3:(ax r.2.2).k.toNat=93:=by omega
     have hb:cw 93 r=0:=by unfold cw;rw[if_neg (by omega),if_pos b3]
     rw[if_neg (by omega),if_neg (by omega),if_pos b3] at i4;rw[i4];refine ab.mk [.swap 0 4] ?_<;>(repeat' first|trivial|apply ah|apply bg)
     exact(gq ..).symm
   . have b0:r.1=0:=by assumption
     have b3:¬(ax r.2.2).k.toNat=93:=by omega
     have b4:¬(ax r.2.2).k.toNat≠44:=by omega
     have hb:cw 93 r=0:=by unfold cw;rw[if_neg (by omega),if_neg b3,if_neg b4]
     rw[if_neg (by omega),if_neg (by omega),if_neg b3] at i4;have hp0:=nQ b1;have hr:=fh r.2.2;have nd:=nd b0;refine⟨[],(i+1,n,au r.2.2,acc++r.2.1,ax r.2.2),⟨by show i+1+n=_;omega,by show(au r.2.2).1.length+1<=n;omega,by show(acc++r.2.1).length+(au r.2.2).1.length<=_;rw[an];omega,i4⟩,?_,Nat.lt_succ_self n⟩;apply ao<;>(repeat' first|trivial|apply ah|apply aC|apply bg)
     all_goals first
      |(first|(simp(discharger:=omega) only[wR];omega)|(simp(discharger:=omega) [-List.getD_eq_getElem?_getD,wR]<;>omega))
      |exact(gq ..).symm
   . have b0:r.1=0:=by assumption
     have hb:cw 93 r=3:=by unfold cw;rw[if_neg (by omega),if_neg (by omega),if_pos (by omega)]
     rw[if_neg (by omega),hb,if_pos (by decide)] at i4;rw[i4]
     (refine ab.mk [.tm 6 4,.swap 0 8] ?_<;>(repeat' first|trivial|rfl|refine And.intro ?_ ?_))
   . have b0:r.1=0:=by assumption
     have b1:aL r.2.2≠0:=by assumption
     have hb:cw 93 r=aL r.2.2:=by unfold cw;rw[if_pos b1]
     rw[if_neg (by omega),hb,if_pos b1] at i4;rw[i4]
     (refine ab.mk [.tm 6 4,.swap 0 8] ?_<;>(repeat' first|trivial|rfl|refine And.intro ?_ ?_))
   . have b0:r.1≠0:=by assumption
     rw[if_pos b0] at i4;rw[i4]
     (refine ab.mk [.tm 6 4,.swap 0 8] ?_<;>(repeat' first|trivial|rfl|refine And.intro ?_ ?_))
 . have hst:=hst fun q=>‹¬aL s=0› q.1;refine aM.mk (Nat×Nat×Sx×List Nd×Tk) (fun x=>DL k s x.1 x.2.1 x.2.2.1 x.2.2.2.1) (fun x=>⟨129,[(1,.int .u8 93),(2,.int .i64 d),(3,.ptr 0 0),(6,.list true 0 []),(7,.ptr 1 0),(9,.buf 4),(10,.buf 5),(11,.ptr 2 0),(12,.ptr 3 0),(14,.int .i64 s.1.length),(15,.int .i64 x.1)],[.cells (qc x.2.2.1),.cells [.list true 0 [],.int .i64 0],.cells (eT x.2.2.2.2),.cells (qc (au s)),iB x.2.2.2.1,qy []],[4,5]⟩) (fun x=>x.2.1) [.tm 9 4,.tm 10 1] (0,s.1.length+1,s,[],(if aL s=0 then ax s else default)) ⟨by show 0+(s.1.length+1) =_;omega,co _,by show 0+s.1.length<=_;omega,hst⟩ ?_ (fun⟨i,n,s',acc,tk⟩ hI _ _=>?_)
   . apply ao<;>(repeat' first|trivial|apply ah|apply aC)
     all_goals (simp only[lM,hml];done)
   obtain⟨i1,i2,i3,i4⟩:=hI;dsimp only at i1 i2 i3 i4;obtain⟨n,rfl⟩:∃m,n=m+1:=⟨n-1,by omega⟩
   rw[gz] at i4;have nd:=sM k [] s';have hml':(s'.1.map vT).length=s'.1.length:=aB _;have hma:(acc.map aN).length=acc.length:=aB _;have hmv:((aF k [] s').2.1.map aN).length=(aF k [] s').2.1.length:=aB _;repeat'((conv=>whnf);first|apply af|apply aI|(apply aj<;>intro h))
   all_goals try conv=>whnf
   all_goals try(refine ae.mk ?_;try dsimp only)
   all_goals (try simp only[lM,bX,nS,jt] at*)
   all_goals first|refine stay ?_|(exact⟨km,trivial⟩)|omega|skip
   . exact⟨km,hp.1,by rw[hml'];omega⟩
   all_goals (try(exfalso;omega))
   all_goals generalize aF k [] s'=r at*
   all_goals (try have b1:aL r.2.2=0:=by assumption)
   all_goals (try rw[if_pos b1] at*)
   . have b0:r.1=0:=by assumption
     have b3:(ax r.2.2).k.toNat=93:=by omega
     have hb:cw 93 r=0:=by unfold cw;rw[if_neg (by omega),if_pos b3]
     rw[if_neg (by omega),if_neg (by omega),if_pos b3] at i4;rw[i4];refine ab.mk [.swap 0 4] ?_<;>(repeat' first|trivial|apply ah|apply bg)
     exact(gq ..).symm
   . have b0:r.1=0:=by assumption
     have b3:¬(ax r.2.2).k.toNat=93:=by omega
     have b4:¬(ax r.2.2).k.toNat≠44:=by omega
     have hb:cw 93 r=0:=by unfold cw;rw[if_neg (by omega),if_neg b3,if_neg b4]
     rw[if_neg (by omega),if_neg (by omega),if_neg b3] at i4;have hp0:=nQ b1;have hr:=fh r.2.2;have nd:=nd b0;refine⟨[],(i+1,n,au r.2.2,acc++r.2.1,ax r.2.2),⟨by show i+1+n=_;omega,by show(au r.2.2).1.length+1<=n;omega,by show(acc++r.2.1).length+(au r.2.2).1.length<=_;rw[an];omega,i4⟩,?_,Nat.lt_succ_self n⟩;apply ao<;>(repeat' first|trivial|apply ah|apply aC|apply bg)
     all_goals first
      |(first|(simp(discharger:=omega) only[wR];omega)|(simp(discharger:=omega) [-List.getD_eq_getElem?_getD,wR]<;>omega))
      |exact(gq ..).symm
   . have b0:r.1=0:=by assumption
     have hb:cw 93 r=3:=by unfold cw;rw[if_neg (by omega),if_neg (by omega),if_pos (by omega)]
     rw[if_neg (by omega),hb,if_pos (by decide)] at i4;rw[i4]
     (refine ab.mk [.tm 6 4,.swap 0 8] ?_<;>(repeat' first|trivial|rfl|refine And.intro ?_ ?_))
   . have b0:r.1=0:=by assumption
     have b1:aL r.2.2≠0:=by assumption
     have hb:cw 93 r=aL r.2.2:=by unfold cw;rw[if_pos b1]
     rw[if_neg (by omega),hb,if_pos b1] at i4;rw[i4]
     (refine ab.mk [.tm 6 4,.swap 0 8] ?_<;>(repeat' first|trivial|rfl|refine And.intro ?_ ?_))
   . have b0:r.1≠0:=by assumption
     rw[if_pos b0] at i4;rw[i4]
     (refine ab.mk [.tm 6 4,.swap 0 8] ?_<;>(repeat' first|trivial|rfl|refine And.intro ?_ ?_))
def s5(x:g8):Prop:=0<x.length/\(bU x 0).2=x.length
inductive fv:g8->Prop where
 |nil:fv []
 |cons (x r:g8) (h:s5 x) (k:fv r):fv (x++r)
theorem fv.append{x y:g8} (h:fv x) (k:fv y):fv (x++y):=by
 induction h with
 |nil=>exact k
 |cons x r h _ ih=>rw[gc];exact .cons x _ h ih
theorem fv.one{x:g8} (h:s5 x):fv x:=by have:=fv.cons x [] h .nil;simpa using this
theorem S4(t:g8) (i k:Nat):(t.drop i).getD k 0=t.getD (i+k) 0:=by
 rw[ac,ac,List.getElem?_drop]
theorem vF{x r:g8} {k:Nat} (h:k<x.length):(x++r).getD k 0=x.getD k 0:=by
 rw[ac,ac,d6 h]
theorem OC{t:g8} {i:Nat} (hi:i<t.length) (h:(bU t i).2≠0):s5 ((t.drop i).take (bU t i).2)/\((t.drop i).take (bU t i).2).length=(bU t i).2:=by
 have hr:=xg t i;have hl:((t.drop i).take (bU t i).2).length=(bU t i).2:=by rw[eo,fo];omega
 refine⟨⟨by omega,?_⟩,hl⟩;rw[hl];have e:=DD t i;rw[if_neg (by omega)] at e;rw[e] at h⊢;generalize t.drop i=x at*;rw[<-rD] at h⊢;have hx:0<x.length:=by
  rcases eg 0 x.length with q|q
  . exact q
  . exact absurd (by unfold er;rw[if_pos (by omega)]) h
 rcases DA x hx with k|⟨k1,k2,k3,k4⟩
 . exact absurd k h
 . rw[<-rD,DC x _ (by omega) (by omega) (by omega)]
theorem OB{b:UInt8} (h:b.toNat<128):s5 [b]:=by
 refine⟨by simp,?_⟩;rw[<-rD];unfold er;have e:([b]:g8).getD 0 0=b:=rfl;have u:bD b.toNat=1:=by unfold bD;rw[if_pos h]
 rw[e,u,if_neg (by simp),if_neg (by omega),if_neg (by simp),if_pos rfl];rfl
theorem HF{n:Int} (h0:0<=n) (h1:n<=1114111) (hs:n<55296\/57343<n):s5 (bT n):=by
 have hl:=uB n;refine⟨by omega,?_⟩;have hg:bR (bT n) =n:=by
  unfold bT;repeat' split
  all_goals
   simp only[bR,gL,List.getD_cons_zero,List.getD_cons_succ,List.length_cons,List.length_nil]
   repeat (first|rw[eK (by omega)])
  . split
    . rfl
    . have:=eK (n:=n) (by omega);omega
  . have a:=eK (n:=192+n/64) (by omega);have b:=eK (n:=128+n%64) (by omega);rw[if_neg (by omega),if_neg (by omega),if_neg (by omega),if_neg (by omega)];omega
  . have a:=eK (n:=224+n/4096) (by omega);have b:=eK (n:=128+n/64%64) (by omega);have c:=eK (n:=128+n%64) (by omega);rw[if_neg (by omega),if_neg (by omega),if_pos (by omega),if_neg (by omega),if_neg (by omega)];omega
  . have a:=eK (n:=240+n/262144) (by omega);have b:=eK (n:=128+n/4096%64) (by omega);have c:=eK (n:=128+n/64%64) (by omega);have d:=eK (n:=128+n%64) (by omega);rw[if_neg (by omega),if_pos (by omega),if_neg (by omega),if_neg (by omega),if_neg (by omega)];omega
 unfold bU;have hi:eB n=true:=(kA n).2 ⟨h0,h1,hs⟩;rw[List.drop_zero,hg,if_neg (by omega),if_neg (by rw[hi];simp;omega),if_pos (by rw[List.take_length])]
theorem P5(t:g8) (i:Nat):(eR t i).2.2=0->fv (eR t i).1:=by
  have hd:=fun j=>xP t 4 j 0 1 (by omega) (by omega) (by omega)
  have h1:=hd (i+1)
  have h2:=hd (i+5+2)
  unfold eR fg
  repeat' split
  all_goals intro h
  all_goals first
    |(exfalso;simp at h;done)
    |(exfalso;exact absurd h (by assumption))
    |skip
  . rename_i hp
    refine fv.one ?_
    show s5 (jP _)
    unfold jP
    rw[if_pos hp]
    have hv : pS (t.getD i 0) < 128 := by     unfold pS; repeat' split
                                              all_goals omega
    exact OB (by have:=eK (n:=pS (t.getD i 0)) (by omega);omega)
  . refine fv.one (HF ?_ ?_ ?_)<;>omega
  . refine fv.one (HF ?_ ?_ ?_)<;>omega
theorem Wu(t:g8) (i:Nat) (hi:i<t.length):(cA t i).2.2=0->fv (cA t i).1:=by
 unfold cA;repeat' split
 all_goals intro h
 . exact P5 t _ h
 . exfalso;simp at h
 . exfalso;simp at h
 . rename_i q;rw[List.drop_take,Nat.add_sub_cancel_left];exact fv.one (OC hi q).1
theorem Ja(t:g8):∀(n i:Nat) (o:g8),fv o->(dw t n i o).1=0->fv (dw t n i o).2.2
 |0,_,_,_,h=>by rw[dw] at h;simp at h
 |n+1,i,o,ho,h=>by
   rw[dw] at h⊢;by_cases a:t.length<=i
   . rw[if_pos a] at h;simp at h
   . rw[if_neg a] at h⊢;by_cases b:(t.getD i 0).toNat=34
     . rw[if_pos b];exact ho
     . rw[if_neg b] at h⊢;by_cases c:(cA t i).2.2≠0
       . rw[if_pos c] at h;exact absurd h c
       . rw[if_neg c] at h⊢;exact Ja t n _ _ (ho.append (Wu t i (by omega) (by omega))) h
theorem WY{c:Cu} (h0:c.c=0) (h:c.gJ.1.c=0):fv c.gJ.2:=by
 have e:∀k:Int,k≠0->(c.fail k).c≠0:=fun k hk=>by rw[jn _ h0];exact hk
 unfold Cu.gJ at h⊢;rw[if_neg (by omega)] at h⊢;by_cases a:c.p=c.e
 . rw[if_pos a] at h;exact absurd h (e 1 (by decide))
 rw[if_neg a] at h⊢;by_cases b:c.get.toNat≠34
 . rw[if_pos b] at h;exact absurd h (e 3 (by decide))
 rw[if_neg b] at h⊢;by_cases d:(dw (c.s.take c.e) (c.e-c.p) (c.p+1) []).1=0
 . rw[if_pos d];exact Ja _ _ _ _ .nil d
 . rw[if_neg d] at h;exact absurd h (e _ d)
theorem Ws(t:g8) (i:Nat):(cA t i).2.2=0->(cA t i).1.length<=4:=by
 have hr:=xg t i;unfold cA;repeat' split
 all_goals intro h
 . have:=Ih t (i+1) h;omega
 . exfalso;simp at h
 . exfalso;simp at h
 . show((t.take (i+(bU t i).2)).drop i).length<=4;rw[fo,eo];omega
theorem J7:∀(t:g8) (n i:Nat) (o:g8),(dw t n i o).2.2.length<=o.length+4*n
 |t,0,_,_=>by rw[dw];simp
 |t,n+1,i,o=>by
   rw[dw];repeat' split
   . simp
   . show o.length<=_;omega
   . simp
   . have h:=Ws t i (by omega);have:=J7 t n (cA t i).2.1.toNat (o++(cA t i).1);rw[an] at this;omega
def G3(b:UInt8):Bool:=decide (b.toNat=32\/b.toNat=9\/b.toNat=10\/b.toNat=13\/b.toNat=44\/b.toNat=93\/b.toNat=125)
theorem MJ{b:UInt8}:G3 b=true↔b.toNat=32\/b.toNat=9\/b.toNat=10\/b.toNat=13\/b.toNat=44\/b.toNat=93\/b.toNat=125:=decide_eq_true_iff
structure Ag(t:g8) (p:Nat) (u:g8) (q m:Nat):Prop where
 lt:p+m<=t.length
 lu:q+m<=u.length
 eq:∀j,j<m->t.getD (p+j) 0=u.getD (q+j) 0
 stop:q+m=u.length\/G3 (u.getD (q+m) 0) =true
section
variable {t u:g8} {p q m:Nat}
theorem X5{t:g8} {i:Nat} (h:fL t i≠i):i<t.length/\ba (t.getD i 0) =true:=by
 rcases eg i t.length with a|a
 . refine⟨a,?_⟩;cases d:ba (t.getD i 0) with
   |true=>rfl
   |false=>exact absurd (pX (.inr d)) h
 . exact absurd (pX (.inl a)) h
theorem X6{t:g8} {i:Nat} (hi:i<t.length) (h:fL t i=i):ba (t.getD i 0) =false:=by
 cases d:ba (t.getD i 0) with
 |false=>rfl
 |true=>
   have:=ua hi d;have:=(nL t (i+1)).1;omega
theorem Od{b:UInt8} (h:G3 b=true):ba b=false:=by
 rw[sG];have:=MJ.1 h;omega
theorem Ag.run(A:Ag t p u q m):∀(d j k:Nat),k-j<=d->j<=k->k<=m->fL t (p+j) =p+k->fL u (q+j) =q+k
 |d,j,k,hd,hjk,hkm,h=>by
   have hlt:=A.lt;have hlu:=A.lu;by_cases e:j=k
   . subst e;refine pX ?_;by_cases hm:j<m
     . right;rw[<-A.eq j hm];exact X6 (by omega) h
     . obtain rfl:j=m:=by omega
       rcases A.stop with s|s
       . left;omega
       . right;exact Od s
   . obtain⟨h1,h2⟩:=X5 (t:=t) (i:=p+j) (by omega);have h3:=ua h1 h2;rw[h] at h3;have h4:ba (u.getD (q+j) 0) =true:=by rw[<-A.eq j (by omega)];exact h2
     rw[ua (by omega) h4]
     match d with
     |0=>omega
     |d+1=>exact A.run d (j+1) k (by omega) (by omega) hkm h3.symm
theorem Ag.one(A:Ag t p u q m) {j a b:Nat} (hj:j<m):cC u (q+j) a b=cC t (p+j) a b:=by
 have hlt:=A.lt;have hlu:=A.lu;unfold cC;rw[A.eq j hj,decide_eq_true (show q+j<u.length by omega),decide_eq_true (show p+j<t.length by omega)]
theorem Ag.LB(A:Ag t p u q m) {a b:Nat} (ha:a≠32/\a≠9/\a≠10/\a≠13/\a≠44/\a≠93/\a≠125) (hb:b≠32/\b≠9/\b≠10/\b≠13/\b≠44/\b≠93/\b≠125):cC u (q+m) a b=false:=by
 rw[tR];rcases A.stop with s|s
 . omega
 . have:=MJ.1 s;omega
theorem Ag.pP(A:Ag t p u q m) {j k:Nat} (hj:j<=m) (hk:k<=m) (h:cS t (p+j) =(p+k,0)):j<k/\cS u (q+j) =(q+k,0):=by
 have hr:=nL t (p+j);unfold cS at h;by_cases a:fL t (p+j)>p+j
 . rw[if_pos a] at h;have h:=congrArg Prod.fst h;simp only at h;have r:=A.run (k-j) j k (co _) (by omega) hk h;refine⟨by omega,?_⟩;unfold cS;rw[if_pos (by omega),r]
 . rw[if_neg a] at h;split at h
   . have:=congrArg Prod.snd h;simp at this
   . have:=congrArg Prod.snd h;simp at this
theorem Ag.sgn(A:Ag t p u q m) {j a b:Nat} (hj:j<m):∃s,j<=s/\c5 t (p+j) a b=p+s/\c5 u (q+j) a b=q+s:=by
 unfold c5;rw[A.one hj];split
 . exact⟨j+1,by omega,rfl,rfl⟩
 . exact⟨j,co _,rfl,rfl⟩
theorem Ag.whole(A:Ag t p u q m) {k:Nat} (h0:0<m) (hk:k<=m) (h:aZ t p=(p+k,0)):aZ u q=(q+k,0):=by
 obtain⟨s,s1,s2,s3⟩:=A.sgn (j:=0) (a:=45) (b:=45) h0;have s2:c5 t p 45 45=p+s:=s2;have s3:c5 u q 45 45=q+s:=s3;have sb:c5 t p 45 45<=p+1:=by unfold c5;split<;>omega
 unfold aZ at h⊢;rw[s2] at h sb;rw[s3];by_cases c:cC t (p+s) 48 48=true
 . rw[if_pos c] at h;have h:=congrArg Prod.fst h;simp only at h;rw[if_pos (by rw[A.one (by omega)];exact c)];exact Prod.ext (by show q+s+1=q+k;omega) rfl
 . rw[if_neg c] at h;obtain⟨n1,n2⟩:=A.pP (j:=s) (by omega) hk h;rw[if_neg (by rw[A.one (by omega)];exact c)];exact n2
theorem Ag.behind(A:Ag t p u q m) {i k:Nat} (hi:i<=m) (hk:k<=m) (h:cf t (p+i,0) =(p+k,0)):i<=k/\cf u (q+i,0) =(q+k,0):=by
 unfold cf at h⊢;by_cases c:cC t (p+i) 46 46=true
 . rw[if_pos ⟨rfl,c⟩] at h;have hr:=nL t (p+i+1);have hn:cS t (p+(i+1)) =(p+k,0):=h;by_cases im:i<m
   . obtain⟨n1,n2⟩:=A.pP (j:=i+1) (by omega) hk hn;rw[if_pos ⟨rfl,by rw[A.one im];exact c⟩];exact⟨by omega,n2⟩
   . exfalso;unfold cS at hn;by_cases a:fL t (p+(i+1))>p+(i+1)
     . rw[if_pos a] at hn;have:=congrArg Prod.fst hn;simp only at this;omega
     . rw[if_neg a] at hn;split at hn<;>(have:=congrArg Prod.snd hn;simp at this)
 . rw[if_neg (fun x=>c x.2)] at h;have h:=congrArg Prod.fst h;simp only at h;obtain rfl:i=k:=by omega
   refine⟨co _,?_⟩;rw[if_neg];intro x;by_cases im:i<m
   . have:=x.2;rw[A.one im] at this;exact c this
   . obtain rfl:i=m:=by omega
     have:=x.2;rw[A.LB (by decide) (by decide)] at this;cases this
theorem Ag.pT(A:Ag t p u q m) {i:Nat} (hi:i<=m) (h:jM t (p+i,0) =(p+m,0)):jM u (q+i,0) =(q+m,0):=by
 unfold jM at h⊢;by_cases c:cC t (p+i) 101 69=true
 . rw[if_pos ⟨rfl,c⟩] at h;have hsg:∀j,j<=c5 t j 43 45:=fun j=>by unfold c5;split<;>omega
   have far:m<i+2->False:=fun hm=>by
    have hr:=hsg (p+i+1);have h:cS t (c5 t (p+i+1) 43 45) =(p+m,0):=h;unfold cS at h;by_cases a:fL t (c5 t (p+i+1) 43 45)>c5 t (p+i+1) 43 45
    . rw[if_pos a] at h;have:=congrArg Prod.fst h;simp only at this;omega
    . rw[if_neg a] at h;split at h<;>(have:=congrArg Prod.snd h;simp at this)
   have im:i+1<m:=by rcases eg (i+1) m with x|x;exact x;exact(far (by omega)).elim
   obtain⟨s,s1,s2,s3⟩:=A.sgn (j:=i+1) (a:=43) (b:=45) im;have s2:c5 t (p+i+1) 43 45=p+s:=s2;have s3:c5 u (q+i+1) 43 45=q+s:=s3;have h:cS t (c5 t (p+i+1) 43 45) =(p+m,0):=h;rw[s2] at h;have sm:s<=m:=by
    have:=hsg (p+i+1);rw[s2] at this;have sb:c5 t (p+i+1) 43 45<=p+i+1+1:=by unfold c5;split<;>omega
    rw[s2] at sb;omega
   obtain⟨n1,n2⟩:=A.pP sm (co _) h;rw[if_pos ⟨rfl,by rw[A.one (by omega)];exact c⟩];show cS u (c5 u (q+i+1) 43 45) =_;rw[s3];exact n2
 . rw[if_neg (fun x=>c x.2)] at h;have h:=congrArg Prod.fst h;simp only at h;obtain rfl:i=m:=by omega
   rw[if_neg];intro x;have:=x.2;rw[A.LB (by decide) (by decide)] at this;cases this
theorem code0{x:Nat×Int} (h:(cf t x).2=0):x.2=0:=by
 unfold cf at h;split at h
 . rename_i c;exact c.1
 . exact h
theorem code1{x:Nat×Int} (h:(jM t x).2=0):x.2=0:=by
 unfold jM at h;split at h
 . rename_i c;exact c.1
 . exact h
theorem Ag.num(A:Ag t p u q m) (h0:0<m) (h:cM t p=(p+m,0)):cM u q=(q+m,0):=by
 have hlt:=A.lt;unfold cM at h⊢;have c1:=code1 (t:=t) (x:=cf t (aZ t p)) (by rw[h]);have c0:=code0 c1;have w1:p<=(aZ t p).1:=by
  have:=rE t p 45 45 (by omega);unfold aZ;split
  . show p<=c5 t p 45 45+1;omega
  . have:=oE t _ this.2;omega
 have b1:(aZ t p).1<=(cf t (aZ t p)).1:=by
  generalize aZ t p=x at*;unfold cf;split
  . have:=(nL t (x.1+1)).1;unfold cS;repeat' split
    all_goals (dsimp only;omega)
  . exact co _
 have d1:(cf t (aZ t p)).1<=p+m:=by
  have e:(jM t (cf t (aZ t p))).1=p+m:=by rw[h]
  rw[<-e];generalize cf t (aZ t p) =x at*;unfold jM;split
  . have h1:x.1+1<=c5 t (x.1+1) 43 45:=by unfold c5;split<;>omega
    have h2:=(nL t (c5 t (x.1+1) 43 45)).1;unfold cS;repeat' split
    all_goals (dsimp only;omega)
  . exact co _
 obtain⟨k1,e1⟩:∃k,(aZ t p).1=p+k:=⟨(aZ t p).1-p,by omega⟩
 obtain⟨k2,e2⟩:∃k,(cf t (aZ t p)).1=p+k:=⟨(cf t (aZ t p)).1-p,by omega⟩
 have hw:aZ t p=(p+k1,0):=Prod.ext e1 c0;have hb:cf t (aZ t p) =(p+k2,0):=Prod.ext e2 c1;have w:=A.whole h0 (by omega) hw;rw[hw] at hb;have b:=(A.behind (i:=k1) (by omega) (by omega) hb).2;rw[w,b];rw[hw,hb] at h;exact A.pT (by omega) h
end
def isNum(x:g8):Prop:=0<x.length/\cM x 0=(x.length,0)/\((x.getD 0 0).toNat=45\/ba (x.getD 0 0) =true)
def TkR(t:Tk):Prop:=(t.k=115/\fv t.t)\/(t.k=110/\isNum t.t)\/(dj t.k=true/\t.t=[])\/((t.k=116\/t.k=102\/t.k=122)/\t.t=[])
theorem MR{t:g8} {i j k:Nat} (h:i+k<j):(sub t i j).getD k 0=t.getD (i+k) 0:=by
 unfold sub;rw[S4,getD_take h]
theorem Sy{t:g8} {i:Nat} (hi:i<=t.length) (h:(cM t i).2=0) (hf:(t.getD i 0).toNat=45\/ba (t.getD i 0) =true):isNum (sub t i (cM t i).1):=by
 have h1:=Ls t i hi h;have h2:=wj t i hi;generalize hR:cM t i=R at*;have hl:=uy (t:=t) (i:=i) h2.2;have A:Ag t i (sub t i R.1) 0 (R.1-i):=⟨by omega,by omega,fun j hj=>by rw[Nat.zero_add,MR (by omega)],.inl (by omega)⟩
 refine⟨by omega,?_,?_⟩
 . have:=A.num (by omega) (by rw[hR];exact Prod.ext (by show R.1=i+(R.1-i);omega) h);rw[this,hl,Nat.zero_add]
 . rw[MR (by omega),Nat.add_zero];exact hf
theorem Vt{c:Cu} (hk:c.ok) (h:c.bB.2.k≠0):TkR c.bB.2:=by
 have hc:=Vr h;have hl:=i7 hk;unfold Cu.bB at h hc⊢;by_cases h0:c.c≠0
 . rw[if_pos h0] at h;exact absurd rfl h
 rw[if_neg h0] at h hc⊢;have hr:=wF dn c.ar c.p;have hp:=hk.1;have hd:Cu.ok {c with p:=dy dn c.ar c.p}:=⟨by show dy dn c.ar c.p<=c.e;omega,hk.2⟩
 have e3:({c with p:=dy dn c.ar c.p}:Cu).c=0:=by show c.c=0;omega
 generalize ({c with p:=dy dn c.ar c.p}:Cu) =d at*;have hdl:=i7 hd;have hw:∀k:UInt8,(k=116\/k=102\/k=122)->(d.dQ k).2.k≠0->TkR (d.dQ k).2:=fun k hk h=>by
  unfold Cu.dQ at h⊢;by_cases z:fk d (spell k) 0≠0
  . rw[if_pos z] at h;exact absurd rfl h
  . rw[if_neg z];exact .inr (.inr (.inr ⟨hk,rfl⟩))
 unfold Cu.jh at h hc⊢;by_cases a:d.p=d.e
 . rw[if_pos a] at h;exact absurd rfl h
 rw[if_neg a] at h hc⊢;have hlt:d.p<d.e:=by have:=hd.1;omega
 by_cases b:dj d.get=true
 . rw[if_pos b];exact .inr (.inr (.inl ⟨b,rfl⟩))
 rw[if_neg b] at h hc⊢;by_cases g:d.get.toNat=34
 . rw[if_pos g] at h hc⊢;have hc:d.gJ.1.c=0:=hc;unfold held;rw[if_pos hc];exact .inl ⟨rfl,WY e3 hc⟩
 rw[if_neg g] at h hc⊢;by_cases f:d.get.toNat=45\/ba d.get=true
 . rw[if_pos f] at h hc⊢;have hc:d.jq.1.c=0:=hc;unfold held;rw[if_pos hc];unfold Cu.jq at hc⊢;rw[if_neg (by omega)] at hc⊢;by_cases z:(cM d.ar d.p).2=0
   . rw[if_neg (by omega)];have hg:d.ar.getD d.p 0=d.get:=by unfold Cu.ar;exact getD_take hlt
     have:=Sy (t:=d.ar) (i:=d.p) (by omega) z (by rw[hg];exact f);rw[MT (by have:=(wj d.ar d.p (by omega)).2;omega)] at this;exact .inr (.inl ⟨rfl,this⟩)
   . rw[if_pos z,jn _ e3] at hc;exact absurd hc z
 rw[if_neg f] at h hc⊢;by_cases w:d.get.toNat=116\/d.get.toNat=102
 . rw[if_pos w] at h⊢;refine hw _ ?_ h;rcases w with w|w
   . exact .inl (UInt8.toNat_inj.1 w)
   . exact .inr (.inl (UInt8.toNat_inj.1 w))
 rw[if_neg w] at h hc⊢;by_cases v:d.get.toNat=110
 . rw[if_pos v] at h⊢;exact hw _ (.inr (.inr rfl)) h
 rw[if_neg v] at h;exact absurd rfl h
theorem WX{c:Cu} (hk:c.ok):c.gJ.2.length<=4*c.s.length:=by
 have h1:=hk.1;have h2:=hk.2;have h3:=J7 (c.s.take c.e) (c.e-c.p) (c.p+1) [];rw[List.length_nil] at h3;unfold Cu.gJ;repeat' split
 all_goals first
  |(show(dw (c.s.take c.e) (c.e-c.p) (c.p+1) []).2.2.length<=_;omega)
  |(show([]:g8).length<=_;simp)
theorem Jh{x:CO} {k:UInt8} {n:Nat} (h:x.2.length<=n):(held x k).2.t.length<=n:=by
 unfold held;by_cases a:x.1.c=0
 . rw[if_pos a];exact h
 . rw[if_neg a];exact ci _
theorem Yw{c:Cu} (hk:c.ok):c.jh.2.t.length<=4*c.s.length:=by
 have hr:=WX hk;have hn:c.jq.2.length<=4*c.s.length:=by
  unfold Cu.jq;repeat' split
  all_goals first
   |(show([]:g8).length<=_;simp;done)
   |(show(sub _ _ _).length<=_;unfold sub;rw[fo,eo];omega)
 have hw:∀k,(c.dQ k).2.t.length<=4*c.s.length:=fun k=>by
  unfold Cu.dQ;split<;>(show([]:g8).length<=_;simp)
 unfold Cu.jh;repeat' split
 all_goals first
  |exact Jh hr
  |exact Jh hn
  |exact hw _
  |(show([]:g8).length<=_;simp)
theorem Vs{c:Cu} (hk:c.ok):c.bB.2.t.length<=4*c.s.length:=by
 unfold Cu.bB;split
 . exact ci _
 . have hr:=wF dn c.ar c.p;have hl:=i7 hk;have hp:=hk.1;exact Yw (c:={c with p:=dy dn c.ar c.p}) ⟨by show dy dn c.ar c.p<=c.e;omega,hk.2⟩
abbrev It:Type:=List Nd×g8
def hdN(L:List Nd):Nd:=L.getD 0 default
def eS:List It->List Nd
 |[]=>[]
 |x::l=>x.1++eS l
def Bp(g:It->g8):List It->Nat->g8
 |[],_=>[]
 |x::l,i=>(if i=0 then[] else[44])++(g x++Bp g l (i+1))
def valI(x:It):g8:=x.2
def memI(x:It):g8:=quote (hdN x.1).key++([58]++x.2)
def iV(x:It):g8:=(hdN x.1).key
inductive TT:Nat->List Nd->g8->Prop
 |leaf (d:Nat) (k:UInt8) (key t:g8) (h:TkR ⟨k,t⟩) (hl:gZ k=true):TT d [⟨k,key,t,1⟩] (textT ⟨k,t⟩)
 |lst (d:Nat) (key:g8) (l:List It) (h:∀x∈l,TT d x.1 x.2) (hk:∀x∈l,iV x=[]):TT (d+1) (⟨91,key,[],(eS l).length+1⟩::eS l) (91::(Bp valI l 0++[93]))
 |obj (d:Nat) (key:g8) (l:List It) (h:∀x∈l,TT d x.1 x.2) (hk:(l.map iV).Nodup) (ht:∀x∈l,fv (iV x)):TT (d+1) (⟨123,key,[],(eS l).length+1⟩::eS l) (123::(Bp memI l 0++[125]))
theorem BU:∀(l m:List It),eS (l++m) =eS l++eS m
 |[],_=>rfl
 |x::l,m=>by show x.1++eS (l++m) =(x.1++eS l)++eS m;rw[BU l m,gc]
theorem IF{l:List It} {x:It} (h:x∈l):x.1.length<=(eS l).length:=by
 induction l with
 |nil=>cases h
 |cons y l ih=>
   show x.1.length<=(y.1++eS l).length;rw[an];rcases List.mem_cons.1 h with rfl|h
   . omega
   . have:=ih h;omega
theorem BV{l:List It} {z:Nd} (h:z∈eS l):∃x∈l,z∈x.1:=by
 induction l with
 |nil=>cases h
 |cons y l ih=>
   rcases List.mem_append.1 h with h|h
   . exact⟨y,List.mem_cons_self,h⟩
   . obtain⟨x,h1,h2⟩:=ih h;exact⟨x,d8 _ h1,h2⟩
theorem TT.sz{d:Nat} {L:List Nd} {x:g8} (h:TT d L x):∀z∈L,1<=z.sz/\z.sz<=L.length:=by
 induction h with
 |leaf=>intro z hz;rw[List.mem_singleton] at hz;subst hz;exact⟨Int.le_refl 1,Int.le_refl 1⟩
 |lst d key l h hk ih=>
   intro z hz;rw[List.length_cons];rcases List.mem_cons.1 hz with rfl|hz
   . exact⟨by show 1<=((eS l).length:Int)+1;omega,by show((eS l).length:Int)+1<=_;omega⟩
   . obtain⟨y,hy,hz⟩:=BV hz;have:=ih y hy z hz;have:=IF hy;omega
 |obj d key l h hk ht ih=>
   intro z hz;rw[List.length_cons];rcases List.mem_cons.1 hz with rfl|hz
   . exact⟨by show 1<=((eS l).length:Int)+1;omega,by show((eS l).length:Int)+1<=_;omega⟩
   . obtain⟨y,hy,hz⟩:=BV hz;have:=ih y hy z hz;have:=IF hy;omega
def NbL(m:Nat) (L:List Nd):Prop:=∀z∈L,z.key.length<=m/\z.t.length<=m
def nB(L:List Nd) (e:Nat):Nat->Nat->List Nat
 |0,_=>[]
 |n+1,k=>if k<e then k::nB L e n (k+(L.getD k default).sz.toNat) else[]
def mb(L:List Nd) (a:Nat):Nat:=min L.length (a+(L.getD a default).sz.toNat)
def tD(L:List Nd) (a:Nat):List Nat:=nB L (mb L a) L.length (a+1)
def bA(L:List Nd) (a:Int):List Nat:=if 0<=a/\a<L.length then tD L a.toNat else[]
def adv(c:Cu) (n:Nat):Cu:={c with p:=c.p+n}
def gp(L:List Nd):Prop:=(∀x∈L,1<=x.sz/\x.sz<=L.length/\x.key.length<=10000000/\x.t.length<=10000000)/\L.length<=100000000
abbrev nI(k:Nat):V:=.int .i64 k
theorem oD{L:List Nd} (h:gp L) {a:Nat} (ha:a<L.length):1<=(L.getD a default).sz/\(L.getD a default).sz<=L.length/\(L.getD a default).key.length<=10000000/\(L.getD a default).t.length<=10000000:=by
 rw[ac,am ha];exact h.1 _ (List.getElem_mem ha)
theorem jQ{l:List V} (h:fE l):∃L,l=L.map aN/\al l=L:=⟨_,h,rfl⟩
theorem vQ(L:List Nd) (a:Nat):mb L a<=L.length:=Nat.min_le_left _ _
theorem JG{L:List Nd} {e:Nat}:∀(n p k:Nat),k∈nB L e n p->p<=k/\k<e
 |0,_,_,h=>by cases h
 |n+1,p,k,h=>by
   rw[nB] at h;split at h
   . rcases List.mem_cons.1 h with rfl|h
     . exact⟨co _,by assumption⟩
     . have:=JG n _ k h;omega
   . cases h
theorem UH{L:List Nd} {a k:Nat} (h:k∈tD L a):a<k/\k<L.length:=by
 have:=JG _ _ _ h;have:=vQ L a;omega
theorem JF{L:List Nd} {e:Nat}:∀(n p:Nat),(nB L e n p).length<=n
 |0,_=>co _
 |n+1,p=>by
   rw[nB];split
   . have:=JF (L:=L) (e:=e) n (p+(L.getD p default).sz.toNat);rw[List.length_cons];omega
   . exact ci _
theorem UG(L:List Nd) (a:Nat):(tD L a).length<=L.length:=JF _ _
theorem Kt{L:List Nd} {a:Nat} (h:a<L.length):bA L (a:Nat) =tD L a:=by unfold bA;rw[if_pos ⟨by omega,by omega⟩,Int.toNat_natCast]
theorem yz{L:List Nd} {q:Int} (h:q<0\/q>=L.length):bA L q=[]:=by unfold bA;rw[if_neg (by omega)]
theorem yS(l:List Nat):(l.map nI).length=l.length:=aB _
def KI(L:List Nd) (a:Nat) (x:Nat×Nat×List Nat):Prop:=(tD L a=x.2.2++nB L (mb L a) x.1 x.2.1/\mb L a-x.2.1<=x.1)/\a<x.2.1/\x.2.1<=200000001/\x.2.2.length<=x.2.1
theorem KI_0{L:List Nd} {a:Nat} (hl:L.length<=100000000) (ha:a<L.length):KI L a (L.length,a+1,[]):=⟨⟨rfl,by have:=vQ L a;show mb L a-(a+1)<=L.length;omega⟩,Nat.lt_succ_self a,by show a+1<=_;omega,ci _⟩
theorem GZ{L:List Nd} {a n k:Nat} {acc:List Nat} (h:KI L a (n,k,acc)) (hk:¬k<mb L a):tD L a=acc:=by
 obtain⟨⟨h1,h2⟩,_⟩:=h;rw[h1];show acc++nB L (mb L a) n k=acc;cases n with
 |zero=>exact List.append_nil acc
 |succ n=>rw[nB,if_neg hk,List.append_nil]
theorem H0{L:List Nd} {a n k:Nat} {acc:List Nat} (hp:gp L) (h:KI L a (n,k,acc)) (hk:k<mb L a):∃m,n=m+1/\KI L a (m,k+(L.getD k default).sz.toNat,acc++[k]):=by
 obtain⟨⟨h1,h2⟩,h3,h4,h5⟩:=h;dsimp only at h1 h2 h3 h4 h5;have hE:=vQ L a;have hn:=oD hp (a:=k) (by omega);have hl:=hp.2;obtain⟨m,rfl⟩:∃m,n=m+1:=⟨n-1,by omega⟩
 rw[nB,if_pos hk] at h1;refine⟨m,rfl,⟨?_,?_⟩,?_,?_,?_⟩
 . rw[h1,gc];rfl
 . show mb L a-(k+(L.getD k default).sz.toNat)<=m;omega
 . show a<k+(L.getD k default).sz.toNat;omega
 . show k+(L.getD k default).sz.toNat<=200000001;omega
 . show(acc++[k]).length<=k+(L.getD k default).sz.toNat;rw[an,gt];omega
def uu:Sm:=fun args σ=>match args,σ with
 |[.list c 4 l,.int .i64 q],[]=>some (fE l/\gp (al l),.buf 0,some [.buf 1 0 ((bA (al l) q).map nI)])
 |_,_=>none
theorem yx:aq 63 uu:=by
 intro args sg pre x r he hp;unfold uu at he;split at he<;>cases he
 . rename_i c l q;refine ai (C:=cx []) (ak trivial) (fn:=Tryz.f63) fun hw hs=>?_;obtain⟨hN,hp⟩:=hp;obtain⟨L,rfl,eL⟩:=jQ hN;rw[eL] at hp⊢;have hml:(L.map aN).length=L.length:=aB _;have hl:=hp.2;repeat'((conv=>whnf);first|apply af|(apply aj<;>intro h)|with_reducible apply ig)
   all_goals try conv=>whnf
   all_goals try(refine ae.mk ?_;try dsimp only)
   all_goals (try simp only[bX,dd] at*)
   all_goals first|refine stay ?_|omega|skip
   . rw[yz (by omega)];refine ab.mk [.tm 4 1] ?_<;>(repeat' first|trivial)
   . rw[yz (by omega)];refine ab.mk [.tm 4 1] ?_<;>(repeat' first|trivial)
   have hq1:0<=q:=by omega
   obtain⟨a,rfl⟩:=Int.eq_ofNat_of_zero_le hq1;have ha:a<L.length:=by omega
   have hna:=oD hp ha;have hE:=vQ L a;have hEe:mb L a=min L.length (a+(L.getD a default).sz.toNat):=rfl;rw[Kt ha];have hif:∀{k:Nat},k<L.length->(if(L.getD k default).sz<(L.length:Int) then(L.getD k default).sz else(L.length:Int))=(L.getD k default).sz:=fun hk=>by
    have:=oD hp hk;split<;>omega
   have hwa:IntKind.i64.wrap ((a:Int)+(L.getD a default).sz)=(a:Int)+(L.getD a default).sz:=by rw[bz];omega
   have hif:=hif ha;refine aM.mk (Nat×Nat×List Nat) (KI L a) (fun x=>⟨50,[(0,.list c 4 (L.map aN)),(1,.int .i64 a),(5,.buf 0),(6,.int .i64 (mb L a)),(7,.int .i64 x.2.1)],[.buf 1 0 (x.2.2.map nI)],[0]⟩) (fun x=>x.1) [.tm 5 1] (L.length,a+1,[]) (KI_0 hl ha) ?_ (fun⟨n,k,acc⟩ hI _ _=>?_)
   . apply ao<;>(repeat' first|trivial|apply ah|apply aC)
     all_goals (try simp only[hml,Int.toNat_natCast,hif,hwa])
     all_goals first
      |(show IntKind.i64.wrap (↑a+1)=((a+1:Nat):Int);(simp(discharger:=omega) only[wR];omega))
      |(rw[hEe];split<;>omega)
   have hI2:=hI.2;dsimp only at hI2;have hn:=fun h:k<L.length=>oD hp h;have hma:=yS acc;repeat'((conv=>whnf);first|apply af|(apply aj<;>intro h)|with_reducible apply j9)
   all_goals try conv=>whnf
   all_goals try(refine ae.mk ?_;try dsimp only)
   all_goals (try simp only[bX,dd] at*)
   all_goals first|refine stay ?_|omega|(simp only[du];omega)|skip
   all_goals first
    | (show ab _ _ _ _ _ _
       rw[GZ hI (by omega)];refine ab.mk [] ?_<;>(repeat' first|trivial)
       done)
    |skip
   obtain⟨m,rfl,hI'⟩:=H0 hp hI (by omega);have hn:=hn (by omega);refine⟨[],(m,k+(L.getD k default).sz.toNat,acc++[k]),hI',?_,Nat.lt_succ_self m⟩;apply ao<;>(repeat' first|trivial|apply ah|apply aC|apply bg)
   all_goals (try simp only[hml,Int.toNat_natCast])
   all_goals first
    |(rw[gq];rfl)
    | (show IntKind.i64.wrap _=((k + (L.getD k default).sz.toNat:Nat):Int)
       (repeat' split)
       all_goals (first|omega|(simp(discharger:=omega) only[wR];omega)))
def wW:Sm:=fun args σ=>match args,σ with
 |[.list c 4 l,.int .i64 q],[]=>some (fE l/\gp (al l),.buf 0,some [.buf 1 0 ((bA (al l) q).map nI)])
 |_,_=>none
theorem Cx:aq 76 wW:=by
 intro args sg pre x r he hp;unfold wW at he;split at he<;>cases he
 . rename_i c l q;refine ai (C:=cx []) (ak trivial) (fn:=Tryz.f76) fun hw hs=>?_;obtain⟨hN,hp⟩:=hp;obtain⟨L,rfl,eL⟩:=jQ hN;rw[eL] at hp⊢;have hml:(L.map aN).length=L.length:=aB _;have hl:=hp.2;repeat'((conv=>whnf);(apply aj<;>intro h))
   all_goals try conv=>whnf
   all_goals try(refine ae.mk ?_;try dsimp only)
   all_goals (try simp only[bX,dd] at*)
   all_goals try refine stay ?_
   . rw[yz (by omega)];refine ab.mk [.tm 4 1] ?_<;>(repeat' first|trivial)
   . rw[yz (by omega)];refine ab.mk [.tm 4 1] ?_<;>(repeat' first|trivial)
   have hq1:0<=q:=by omega
   obtain⟨a,rfl⟩:=Int.eq_ofNat_of_zero_le hq1;have ha:a<L.length:=by omega
   have hna:=oD hp ha;have hE:=vQ L a;have hEe:mb L a=min L.length (a+(L.getD a default).sz.toNat):=rfl;rw[Kt ha];have hif:∀{k:Nat},k<L.length->(if(L.getD k default).sz<(L.length:Int) then(L.getD k default).sz else(L.length:Int))=(L.getD k default).sz:=fun hk=>by
    have:=oD hp hk;split<;>omega
   have hwa:IntKind.i64.wrap ((a:Int)+(L.getD a default).sz)=(a:Int)+(L.getD a default).sz:=by rw[bz];omega
   have hif:=hif ha;refine aM.mk (Nat×Nat×List Nat) (KI L a) (fun x=>⟨45,[(0,.list c 4 (L.map aN)),(1,.int .i64 a),(5,.buf 0),(6,.int .i64 x.2.1)],[.buf 1 0 (x.2.2.map nI)],[0]⟩) (fun x=>x.1) [.tm 5 1] (L.length,a+1,[]) (KI_0 hl ha) ?_ (fun⟨n,k,acc⟩ hI _ _=>?_)
   . apply ao<;>(repeat' first|trivial|apply ah|apply aC)
     all_goals (try simp only[hml,Int.toNat_natCast,hif,hwa])
     all_goals first
      |(show IntKind.i64.wrap (↑a+1)=((a+1:Nat):Int);(simp(discharger:=omega) only[wR];omega))
      |(rw[hEe];split<;>omega)
   have hI2:=hI.2;dsimp only at hI2;have hn:=fun h:k<L.length=>oD hp h;have hma:=yS acc;repeat'((conv=>whnf);first|apply af|(apply aj<;>intro h)|with_reducible apply j9)
   all_goals try conv=>whnf
   all_goals try(refine ae.mk ?_;try dsimp only)
   all_goals (try simp only[bX,dd] at*)
   all_goals first|refine stay ?_|trivial|omega|(simp only[du];omega)|skip
   all_goals first
    | (show ab _ _ _ _ _ _
       rw[GZ hI (by omega)];refine ab.mk [] ?_<;>(repeat' first|trivial)
       done)
    |skip
   obtain⟨m,rfl,hI'⟩:=H0 hp hI (by omega);have hn:=hn (by omega);refine⟨[],(m,k+(L.getD k default).sz.toNat,acc++[k]),hI',?_,Nat.lt_succ_self m⟩;apply ao<;>(repeat' first|trivial|apply ah|apply aC|apply bg)
   all_goals (try simp only[hml,Int.toNat_natCast])
   all_goals first
    |(rw[gq];rfl)
    | (show IntKind.i64.wrap _=((k + (L.getD k default).sz.toNat:Nat):Int)
       (repeat' split)
       all_goals (simp(discharger:=omega) only[wR];omega))
theorem G9{c:Cu} (hc:c.live) (h:c.aK=0):TkR c.next.2/\c.next.2.t.length<=4*c.s.length:=by
 obtain⟨_,_,_,_,hn⟩:=bQ hc h;have h2:c.bB.2.k≠0:=by
  unfold Cu.aK at h;split at h
  . rename_i q;exact absurd h q
  . split at h
    . cases h
    . rename_i q;rw[<-hn];exact q
 rw[hn];exact⟨Vt hc.1 h2,Vs hc.1⟩
structure ln(d m:Nat) (x:It):Prop where
 t:TT d x.1 x.2
 n:NbL m x.1
def VTT(d:Nat):Prop:=∀(m:Nat) (c:Cu) (key:g8),c.live->c.aK=0->4*c.s.length<=m->key.length<=m->(gv d c.next.2 key c.next.1).1=0->∃x,ln d m ((gv d c.next.2 key c.next.1).2.1,x)/\iV ((gv d c.next.2 key c.next.1).2.1,x) =key
theorem J5{d:Nat} (hv:VTT d) {m:Nat}:∀(n:Nat) (c:Cu) (acc:List Nd) (its:List It),c.live->c.aK=0->4*c.s.length<=m->acc=eS its->(∀x∈its,ln d m x/\iV x=[])->(iF (gv d) n c.next.2 c.next.1 acc).1=0->
   ∃l,(iF (gv d) n c.next.2 c.next.1 acc).2.1=eS l/\∀x∈l,ln d m x/\iV x=[]
 |0,_,_,_,_,_,_,_,_,h=>by rw[iF] at h;cases h
 |n+1,c,acc,its,hc,h0,hm,ha,hi,h=>by
   rw[iF] at h⊢;obtain⟨t1,t2,_⟩:=bQ hc h0;by_cases h1:(gv d c.next.2 [] c.next.1).1≠0
   . rw[if_pos h1] at h;exact absurd h h1
   rw[if_neg h1] at h⊢;have f1:=iU d c.next.2 [] c.next.1 t1 (by omega);obtain⟨x,hx,hk⟩:=hv m c [] hc h0 hm (ci _) (by omega);have hi2:∀y∈its++[((gv d c.next.2 [] c.next.1).2.1,x)],ln d m y/\iV y=[]:=fun y hy=>by
    rcases List.mem_append.1 hy with hy|hy
    . exact hi y hy
    . rw[List.mem_singleton] at hy;rw[hy];exact⟨hx,hk⟩
   have ha2:acc++(gv d c.next.2 [] c.next.1).2.1=eS (its++[((gv d c.next.2 [] c.next.1).2.1,x)]):=by
    rw[BU,ha];show _=_++(_++[]);rw[List.append_nil]
   by_cases h2:(gv d c.next.2 [] c.next.1).2.2.aK≠0
   . rw[if_pos h2] at h;exact absurd h h2
   rw[if_neg h2] at h⊢;obtain⟨l1,l2,_⟩:=bQ f1.live (by omega);have fs:=f1.s;by_cases h3:(gv d c.next.2 [] c.next.1).2.2.next.2.k.toNat=93
   . rw[if_pos h3];exact⟨_,ha2,hi2⟩
   rw[if_neg h3] at h⊢;by_cases h4:(gv d c.next.2 [] c.next.1).2.2.next.2.k.toNat≠44
   . rw[if_pos h4] at h;cases h
   rw[if_neg h4] at h⊢;by_cases h5:(gv d c.next.2 [] c.next.1).2.2.next.1.aK≠0
   . rw[if_pos h5] at h;exact absurd h h5
   rw[if_neg h5] at h⊢;exact J5 hv n _ _ _ l1 (by omega) (by rw[l2,fs,t2];exact hm) ha2 hi2 h
theorem Jd{d:Nat} (hv:VTT d) {m:Nat}:∀(n:Nat) (c:Cu) (ks:List g8) (acc:List Nd) (its:List It),c.live->c.aK=0->4*c.s.length<=m->acc=eS its->ks=its.map iV->ks.Nodup->(∀x∈its,ln d m x/\fv (iV x))->(iG (gv d) n c.next.2 c.next.1 ks acc).1=0->
   ∃l,(iG (gv d) n c.next.2 c.next.1 ks acc).2.1=eS l/\(l.map iV).Nodup/\∀x∈l,ln d m x/\fv (iV x)
 |0,_,_,_,_,_,_,_,_,_,_,_,h=>by rw[iG] at h;cases h
 |n+1,c,ks,acc,its,hc,h0,hm,ha,hks,hnd,hi,h=>by
   rw[iG] at h⊢;obtain⟨t1,t2,_⟩:=bQ hc h0;by_cases a0:fJ c.next.2 c.next.1 ks≠0
   . rw[if_pos a0] at h;exact absurd h a0
   rw[if_neg a0] at h⊢;obtain⟨m1,m2,m3,m4,m5⟩:=yR (t:=c.next.2) (ks:=ks) t1 (by omega);obtain⟨a1,a2,_⟩:=bQ t1 m3;obtain⟨b1,b2,_⟩:=bQ a1 m5;by_cases h1:(c7 (gv d) c.next.2 c.next.1).1≠0
   . rw[if_pos h1] at h;exact absurd h h1
   rw[if_neg h1] at h⊢;obtain⟨r1,r2⟩:=G9 hc h0;have f1:Fit c.next.1.next.1.next.1 (c7 (gv d) c.next.2 c.next.1):=iU d _ _ _ b1 (show(c7 (gv d) c.next.2 c.next.1).1=0 by omega);obtain⟨x,hx,hk⟩:=hv m c.next.1.next.1 c.next.2.t a1 m5 (by rw[a2,t2];exact hm) (by omega) (show(c7 (gv d) c.next.2 c.next.1).1=0 by omega);have hx:ln d m ((c7 (gv d) c.next.2 c.next.1).2.1,x):=hx;have hk:iV ((c7 (gv d) c.next.2 c.next.1).2.1,x) =c.next.2.t:=hk;have htx:fv c.next.2.t:=by
    rcases r1 with ⟨_,q⟩|⟨q,_⟩|⟨q,_⟩|⟨q,_⟩
    . exact q
    . rw[q] at m1;exact absurd m1 (by decide)
    . have q:c.next.2.k.toNat=123\/c.next.2.k.toNat=125\/c.next.2.k.toNat=91\/c.next.2.k.toNat=93\/c.next.2.k.toNat=58\/c.next.2.k.toNat=44:=of_decide_eq_true q;omega
    . rcases q with q|q|q<;>(rw[q] at m1;exact absurd m1 (by decide))
   have hi2:∀y∈its++[((c7 (gv d) c.next.2 c.next.1).2.1,x)],ln d m y/\fv (iV y):=fun y hy=>by
    rcases List.mem_append.1 hy with hy|hy
    . exact hi y hy
    . rw[List.mem_singleton] at hy;rw[hy];exact⟨hx,by rw[hk];exact htx⟩
   have ha2:acc++(c7 (gv d) c.next.2 c.next.1).2.1=eS (its++[((c7 (gv d) c.next.2 c.next.1).2.1,x)]):=by
    rw[BU,ha];show _=_++(_++[]);rw[List.append_nil]
   have hks2:ks++[c.next.2.t]=(its++[((c7 (gv d) c.next.2 c.next.1).2.1,x)]).map iV:=by
    rw[gq,hks];show _=_++[iV _];rw[hk]
   have hnd2:(ks++[c.next.2.t]).Nodup:=by
    refine List.nodup_append.2 ⟨hnd,by simp,?_⟩;intro a ha b hb e;rw[List.mem_singleton] at hb;rw[<-hb,<-e] at m2;exact m2 ha
   by_cases h2:(c7 (gv d) c.next.2 c.next.1).2.2.aK≠0
   . rw[if_pos h2] at h;exact absurd h h2
   rw[if_neg h2] at h⊢;obtain⟨l1,l2,_⟩:=bQ f1.live (by omega);have fs:=f1.s;by_cases h3:(c7 (gv d) c.next.2 c.next.1).2.2.next.2.k.toNat=125
   . rw[if_pos h3];exact⟨_,ha2,by rw[<-hks2];exact hnd2,hi2⟩
   rw[if_neg h3] at h⊢;by_cases h4:(c7 (gv d) c.next.2 c.next.1).2.2.next.2.k.toNat≠44
   . rw[if_pos h4] at h;cases h
   rw[if_neg h4] at h⊢;by_cases h5:(c7 (gv d) c.next.2 c.next.1).2.2.next.1.aK≠0
   . rw[if_pos h5] at h;exact absurd h h5
   rw[if_neg h5] at h⊢;exact Jd hv n _ _ _ _ l1 (by omega) (by rw[l2,fs,b2,a2,t2];exact hm) ha2 hks2 hnd2 hi2 h
theorem Lf{m:Nat} {l:List It} (h:∀x∈l,NbL m x.1):NbL m (eS l):=fun z hz=>by
 obtain⟨x,hx,hz⟩:=BV hz;exact h x hx z hz
theorem KM{d m:Nat} {t:Tk} {key:g8} (h:TkR t) (hl:gZ t.k=true) (h1:t.t.length<=m) (h2:key.length<=m):∃x,ln d m ([⟨t.k,key,t.t,1⟩],x)/\iV (([⟨t.k,key,t.t,1⟩]:List Nd),x) =key:=
 ⟨_,⟨.leaf d t.k key t.t h hl,fun z hz=>by rw[List.mem_singleton] at hz;rw[hz];exact⟨h2,h1⟩⟩,rfl⟩
theorem Cc:∀d,VTT d
 |0=>fun m c key hc h0 hm hk h=>by
   obtain⟨r1,r2⟩:=G9 hc h0;rw[gv] at h⊢;by_cases h1:c.next.2.k.toNat=123\/c.next.2.k.toNat=91
   . rw[if_pos h1] at h;cases h
   rw[if_neg h1] at h⊢;by_cases h2:gZ c.next.2.k=true
   . rw[if_pos h2];exact KM r1 h2 (by omega) hk
   . rw[if_neg h2] at h;cases h
 |d+1=>fun m c key hc h0 hm hk h=>by
   obtain⟨r1,r2⟩:=G9 hc h0;obtain⟨t1,t2,_⟩:=bQ hc h0;have hnk:=D0 hc h0;have hsg:c.next.2.k.toNat=123\/c.next.2.k.toNat=91->c.next.2.t=[]:=fun q=>by
    rcases hnk with ⟨_,e⟩|⟨_,e⟩
    . exact e
    . rw[DM q] at e;cases e
   rw[gv] at h⊢;by_cases h1:c.next.2.k.toNat=123
   . rw[if_pos h1] at h⊢;have e1:c.next.2.k=123:=UInt8.toNat_inj.1 (by rw[h1];rfl);rw[hsg (.inl h1),e1];have key1:∃l,(bS (gv d) c.next.1).2.1=eS l/\(l.map iV).Nodup/\∀x∈l,ln d m x/\fv (iV x):=by
      have h:(bS (gv d) c.next.1).1=0:=h;unfold bS at h⊢;by_cases a1:c.next.1.aK≠0
      . rw[if_pos a1] at h;exact absurd h a1
      rw[if_neg a1] at h⊢;by_cases a2:c.next.1.next.2.k.toNat=125
      . rw[if_pos a2];exact⟨[],rfl,by simp,fun _ hx=>by cases hx⟩
      rw[if_neg a2] at h⊢;exact Jd (Cc d) _ _ [] [] [] t1 (by omega) (by rw[t2];exact hm) rfl rfl (by simp) (fun _ hx=>by cases hx) h
     obtain⟨l,q1,q2,q3⟩:=key1;show∃x,ln (d+1) m (⟨123,key,[],((bS (gv d) c.next.1).2.1.length:Int)+1⟩::(bS (gv d) c.next.1).2.1,x)/\key=key;rw[q1];refine⟨_,⟨.obj d key l (fun x hx=>(q3 x hx).1.t) q2 (fun x hx=>(q3 x hx).2),fun z hz=>?_⟩,rfl⟩;rcases List.mem_cons.1 hz with rfl|hz
     . exact⟨hk,ci _⟩
     . exact Lf (fun x hx=>(q3 x hx).1.n) z hz
   rw[if_neg h1] at h⊢;by_cases h2:c.next.2.k.toNat=91
   . rw[if_pos h2] at h⊢;have e1:c.next.2.k=91:=UInt8.toNat_inj.1 (by rw[h2];rfl);rw[hsg (.inr h2),e1];have key1:∃l,(bW (gv d) c.next.1).2.1=eS l/\∀x∈l,ln d m x/\iV x=[]:=by
      have h:(bW (gv d) c.next.1).1=0:=h;unfold bW at h⊢;by_cases a1:c.next.1.aK≠0
      . rw[if_pos a1] at h;exact absurd h a1
      rw[if_neg a1] at h⊢;by_cases a2:c.next.1.next.2.k.toNat=93
      . rw[if_pos a2];exact⟨[],rfl,fun _ hx=>by cases hx⟩
      rw[if_neg a2] at h⊢;exact J5 (Cc d) _ _ [] [] t1 (by omega) (by rw[t2];exact hm) rfl (fun _ hx=>by cases hx) h
     obtain⟨l,q1,q3⟩:=key1;show∃x,ln (d+1) m (⟨91,key,[],((bW (gv d) c.next.1).2.1.length:Int)+1⟩::(bW (gv d) c.next.1).2.1,x)/\key=key;rw[q1];refine⟨_,⟨.lst d key l (fun x hx=>(q3 x hx).1.t) (fun x hx=>(q3 x hx).2),fun z hz=>?_⟩,rfl⟩;rcases List.mem_cons.1 hz with rfl|hz
     . exact⟨hk,ci _⟩
     . exact Lf (fun x hx=>(q3 x hx).1.n) z hz
   rw[if_neg h2] at h⊢;by_cases h3:gZ c.next.2.k=true
   . rw[if_pos h3];exact KM r1 h3 (by omega) hk
   . rw[if_neg h3] at h;cases h
theorem YA{s:g8} (hl:s.length<=10000000) (h:eO s=0):∃x,TT 32 (fi s) x/\NbL (4*s.length) (fi s)/\(hdN (fi s)).key=[]:=by
 have hc:(Cu.new s).live:=⟨⟨ci _,co _⟩,rfl,hl⟩
 have e:fi s=(gv 32 (Cu.new s).next.2 [] (Cu.new s).next.1).2.1:=by unfold fi;rw[if_pos h]
 unfold eO at h;by_cases h1:(Cu.new s).aK≠0
 . rw[if_pos h1] at h;exact absurd h h1
 rw[if_neg h1] at h;by_cases h2:(gv 32 (Cu.new s).next.2 [] (Cu.new s).next.1).1≠0
 . rw[if_pos h2] at h;exact absurd h h2
 obtain⟨x,hx,hk⟩:=Cc 32 (4*s.length) (.new s) [] hc (by omega) (co _) (ci _) (by omega);rw[e];exact⟨x,hx.t,hx.n,hk⟩
theorem re{L:List Nd} {q:Int} {k:Nat} (h:k∈bA L q):k<L.length:=by
 unfold bA at h;split at h
 . exact(UH h).2
 . cases h
theorem rb(L:List Nd) (q:Int):(bA L q).length<=L.length:=by
 unfold bA;split
 . exact UG _ _
 . exact ci _
def lB(L:List Nd) (key:g8):List Nat->Int
 |[]=>-1
 |k::r=>if(L.getD k default).key=key then k else lB L key r
def dq(L:List Nd) (q:Int) (key:g8):Int:=if 0<=q/\q<L.length/\(L.getD q.toNat default).k.toNat=123 then lB L key (bA L q) else-1
theorem IE(L:List Nd) (key:g8):∀l:List Nat,lB L key l=-1\/∃k∈l,lB L key l=(k:Int)/\(L.getD k default).key=key
 |[]=>.inl rfl
 |k::r=>by
   rw[lB];split
   . rename_i h;exact .inr ⟨k,List.mem_cons_self,rfl,h⟩
   . rcases IE L key r with h|⟨j,h1,h2⟩
     . exact .inl h
     . exact .inr ⟨j,d8 _ h1,h2⟩
theorem BR(L:List Nd) (q:Int) (key:g8):dq L q key=-1\/∃k:Nat,dq L q key=k/\k<L.length/\(L.getD k default).key=key:=by
 unfold dq;split
 . rcases IE L key (bA L q) with h|⟨k,h1,h2,h3⟩
   . exact .inl h
   . exact .inr ⟨k,h2,re h1,h3⟩
 . exact .inl rfl
structure FI(L:List Nd) (key:g8) (ks:List Nat) (i:Nat):Prop where
 le:i<=ks.length
 e:lB L key ks=lB L key (ks.drop i)
theorem FI.at{L:List Nd} {key:g8} {ks:List Nat} {i:Nat} (h:FI L key ks i) (hi:i<ks.length):lB L key ks=if(L.getD (ks.getD i default) default).key=key then((ks.getD i default:Nat):Int) else lB L key (ks.drop (i+1)):=by
 rw[h.e,List.drop_eq_getElem_cons hi,lB];have e:ks.getD i default=ks[i]:=by rw[ac,am hi];rfl
 rw[e]
theorem FI.stop{L:List Nd} {key:g8} {ks:List Nat} {i:Nat} (h:FI L key ks i) (hi:¬i<ks.length):lB L key ks=-1:=by
 rw[h.e,List.drop_eq_nil_of_le (by omega)];rfl
def Ei:Sm:=fun args σ=>match args,σ with
 |[.list c 4 l,.int .i64 q,.str key],[]=>some (fE l/\gp (al l),.int .i64 (dq (al l) q key),none)
 |_,_=>none
theorem SU:aq 163 Ei:=by
 intro args sg pre x r he hp;unfold Ei at he;split at he<;>cases he
 . rename_i c l q key;refine ai (C:=cx [(63,uu)]) (ak ⟨yx,trivial⟩) (fn:=Tryz.f163) fun hw hs=>?_;obtain⟨hN,hp⟩:=hp;obtain⟨L,rfl,eL⟩:=jQ hN;rw[eL] at hp⊢;have hml:(L.map aN).length=L.length:=aB _;have hl:=hp.2;have hkl:=rb L q;have hkm:=yS (bA L q);have hkk:∀i,i<(bA L q).length->(bA L q).getD i default<L.length:=fun i h=>by
    rw[ac,am h];exact re (List.getElem_mem h)
   have hno:¬(0<=q/\q<L.length/\(L.getD q.toNat default).k.toNat=123)->dq L q key=-1:=fun h=>by unfold dq;rw[if_neg h]
   have hyes:0<=q/\q<L.length/\(L.getD q.toNat default).k.toNat=123->dq L q key=lB L key (bA L q):=fun h=>by unfold dq;rw[if_pos h]
   repeat'((conv=>whnf);first|apply af|apply aI|(apply aj<;>intro h)|with_reducible apply ig)
   all_goals try conv=>whnf
   all_goals try(refine ae.mk ?_;try dsimp only)
   all_goals (try simp only[bX,dd] at*)
   all_goals first|refine stay ?_|trivial|omega|skip
   . rw[hno (by omega)];refine ab.mk [] ?_<;>(repeat' first|trivial)
   . rw[hno (by omega)];refine ab.mk [] ?_<;>(repeat' first|trivial)
   . rw[hyes (by omega)];refine aM.mk Nat (FI L key (bA L q)) (fun i=>⟨42,[(0,.list c 4 (L.map aN)),(2,.str key),(27,.buf 0),(28,.int .i64 (bA L q).length),(29,.int .i64 i)],[.buf 1 0 ((bA L q).map nI)],[]⟩) (fun i=>(bA L q).length-i) [] 0 ⟨ci _,rfl⟩ ?_ (fun i hI _ _=>?_)
     . apply ao<;>(repeat' first|trivial|apply ah|apply aC)
       all_goals (simp only[hkm];done)
     have hle:=hI.le;have hkk:=hkk i;repeat'((conv=>whnf);first|apply af|((first|apply aj|apply dr)<;>intro h)|with_reducible apply j9)
     all_goals try conv=>whnf
     all_goals try(refine ae.mk ?_;try dsimp only)
     all_goals (try simp only[bX,dd] at*)
     all_goals first|refine stay ?_|omega|skip
     . rw[hI.at (by omega),if_pos (by assumption)];refine ab.mk [] ?_<;>(repeat' first|trivial)
     . refine⟨[],i+1,⟨by omega,by rw[hI.at (by omega),if_neg (by assumption)]⟩,?_,by omega⟩;apply ao<;>(repeat' first|trivial|apply ah|apply aC)
       all_goals (simp(discharger:=omega) only[wR];omega)
     . rw[hI.stop (by omega)];refine ab.mk [] ?_<;>(repeat' first|trivial)
   . rw[hno (by omega)];refine ab.mk [] ?_<;>(repeat' first|trivial)
def Fs:Sm:=fun args σ=>match args,σ with
 |[.list c 4 l,.int .i64 q,.str key],[]=>some (fE l/\gp (al l),.int .i64 (dq (al l) q key),none)
 |_,_=>none
theorem U3:aq 127 Fs:=by
 intro args sg pre x r he hp;unfold Fs at he;split at he<;>cases he
 . rename_i c l q key;refine ai (C:=cx [(76,wW)]) (ak ⟨Cx,trivial⟩) (fn:=Tryz.f127) fun hw hs=>?_;obtain⟨hN,hp⟩:=hp;obtain⟨L,rfl,eL⟩:=jQ hN;rw[eL] at hp⊢;have hml:(L.map aN).length=L.length:=aB _;have hl:=hp.2;have hkl:=rb L q;have hkm:=yS (bA L q);have hkk:∀i,i<(bA L q).length->(bA L q).getD i default<L.length:=fun i h=>by
    rw[ac,am h];exact re (List.getElem_mem h)
   have hno:¬(0<=q/\q<L.length/\(L.getD q.toNat default).k.toNat=123)->dq L q key=-1:=fun h=>by unfold dq;rw[if_neg h]
   have hyes:0<=q/\q<L.length/\(L.getD q.toNat default).k.toNat=123->dq L q key=lB L key (bA L q):=fun h=>by unfold dq;rw[if_pos h]
   repeat'((conv=>whnf);first|apply af|apply aI|(apply aj<;>intro h)|with_reducible apply ig)
   all_goals try conv=>whnf
   all_goals try(refine ae.mk ?_;try dsimp only)
   all_goals (try simp only[bX,dd] at*)
   all_goals first|refine stay ?_|trivial|omega|skip
   . rw[hno (by omega)];refine ab.mk [] ?_<;>(repeat' first|trivial)
   . rw[hno (by omega)];refine ab.mk [] ?_<;>(repeat' first|trivial)
   . rw[hyes (by omega)];refine aM.mk Nat (FI L key (bA L q)) (fun i=>⟨48,[(0,.list c 4 (L.map aN)),(2,.str key),(7,.buf 0),(8,.int .i64 i)],[.buf 1 0 ((bA L q).map nI)],[]⟩) (fun i=>(bA L q).length-i) [] 0 ⟨ci _,rfl⟩ ?_ (fun i hI _ _=>?_)
     . apply ao<;>(repeat' first|trivial)
       all_goals (simp only[hkm];done)
     have hle:=hI.le;have hkk:=hkk i;repeat'((conv=>whnf);first|apply af|((first|apply aj|apply dr)<;>intro h)|with_reducible apply j9)
     all_goals try conv=>whnf
     all_goals try(refine ae.mk ?_;try dsimp only)
     all_goals (try simp only[bX,dd] at*)
     all_goals first|refine stay ?_|omega|skip
     . rw[hI.at (by omega),if_pos (by assumption)];refine ab.mk [] ?_<;>(repeat' first|trivial)
     . refine⟨[],i+1,⟨by omega,by rw[hI.at (by omega),if_neg (by assumption)]⟩,?_,by omega⟩;apply ao<;>(repeat' first|trivial|apply ah|apply aC)
       all_goals (simp(discharger:=omega) only[wR];omega)
     . rw[hI.stop (by omega)];refine ab.mk [] ?_<;>(repeat' first|trivial)
   . rw[hno (by omega)];refine ab.mk [] ?_<;>(repeat' first|trivial)
def bp(L:List Nd) (q:Int) (key:g8) (a b:Int):Int×Int:=
 if dq L q key<0\/(L.getD (dq L q key).toNat default).k.toNat=122 then(-1,0)
 else if((L.getD (dq L q key).toNat default).k.toNat:Int) =a\/((L.getD (dq L q key).toNat default).k.toNat:Int) =b then(dq L q key,0) else(-1,7)
theorem tW(L:List Nd) (q:Int) (key:g8) (a b:Int):(bp L q key a b).1=-1\/(0<=(bp L q key a b).1/\(bp L q key a b).1<L.length/\(bp L q key a b).2=0/\(((L.getD (bp L q key a b).1.toNat default).k.toNat:Int) =a\/((L.getD (bp L q key a b).1.toNat default).k.toNat:Int) =b)):=by
 unfold bp;rcases BR L q key with h|⟨k,h1,h2,h3⟩
 . rw[if_pos (.inl (by omega))];exact .inl rfl
 . rw[h1];split
   . exact .inl rfl
   . split
     . refine .inr ⟨Int.natCast_nonneg _,by show(k:Int)<_;omega,rfl,by assumption⟩
     . exact .inl rfl
def uj:Sm:=fun args σ=>match args,σ with
 |[.list c 4 l,.int .i64 q,.str key,.int .u8 a,.int .u8 b],[]=>some (fE l/\gp (al l),.tuple [.int .i64 (bp (al l) q key a b).1,.int .i64 (bp (al l) q key a b).2],none)
 |_,_=>none
theorem yn:aq 112 uj:=by
 intro args sg pre x r he hp;unfold uj at he;split at he<;>cases he
 . rename_i c l q key a b;refine ai (C:=cx [(163,Ei)]) (ak ⟨SU,trivial⟩) (fn:=Tryz.f112) fun hw hs=>?_;obtain⟨hN,hp⟩:=hp;obtain⟨L,rfl,eL⟩:=jQ hN;rw[eL] at hp⊢;have hml:(L.map aN).length=L.length:=aB _;have hl:=hp.2;have hon:dq L q key=-1\/(0<=dq L q key/\dq L q key<L.length):=by
    rcases BR L q key with h|⟨k,h1,h2,h3⟩
    . exact .inl h
    . exact .inr ⟨by omega,by omega⟩
   have hpk:bp L q key a b=if dq L q key<0\/(L.getD (dq L q key).toNat default).k.toNat=122 then(-1,0) else if((L.getD (dq L q key).toNat default).k.toNat:Int) =a\/((L.getD (dq L q key).toNat default).k.toNat:Int) =b then(dq L q key,0) else(-1,7):=rfl
   rw[hpk];clear hpk;repeat'((conv=>whnf);first|apply af|apply aI|(apply aj<;>intro h)|with_reducible apply ig)
   all_goals try conv=>whnf
   all_goals try(refine ae.mk ?_;try dsimp only)
   all_goals (try simp only[bX] at*)
   all_goals generalize dq L q key=f at*
   all_goals first|refine stay ?_|trivial|omega|skip
   all_goals
    repeat (first|rw[if_pos (by omega)]|rw[if_neg (by omega)])
    refine ab.mk [] ?_<;>(repeat' first|trivial)
def rK:Sm:=fun args σ=>match args,σ with
 |[.list c 4 l,.int .i64 q,.str key,.int .u8 a,.int .u8 b],[]=>some (fE l/\gp (al l),.tuple [.int .i64 (bp (al l) q key a b).1,.int .i64 (bp (al l) q key a b).2],none)
 |_,_=>none
theorem vN:aq 75 rK:=by
 intro args sg pre x r he hp;unfold rK at he;split at he<;>cases he
 . rename_i c l q key a b;refine ai (C:=cx [(127,Fs)]) (ak ⟨U3,trivial⟩) (fn:=Tryz.f75) fun hw hs=>?_;obtain⟨hN,hp⟩:=hp;obtain⟨L,rfl,eL⟩:=jQ hN;rw[eL] at hp⊢;have hml:(L.map aN).length=L.length:=aB _;have hl:=hp.2;have hon:dq L q key=-1\/(0<=dq L q key/\dq L q key<L.length):=by
    rcases BR L q key with h|⟨k,h1,h2,h3⟩
    . exact .inl h
    . exact .inr ⟨by omega,by omega⟩
   have hpk:bp L q key a b=if dq L q key<0\/(L.getD (dq L q key).toNat default).k.toNat=122 then(-1,0) else if((L.getD (dq L q key).toNat default).k.toNat:Int) =a\/((L.getD (dq L q key).toNat default).k.toNat:Int) =b then(dq L q key,0) else(-1,7):=rfl
   rw[hpk];clear hpk;repeat'((conv=>whnf);first|apply af|(apply aj<;>intro h)|with_reducible apply ig)
   all_goals try conv=>whnf
   all_goals try(refine ae.mk ?_;try dsimp only)
   all_goals (try simp only[bX] at*)
   all_goals generalize dq L q key=f at*
   all_goals first|refine stay ?_|trivial|omega|skip
   all_goals
    repeat (first|rw[if_pos (by omega)]|rw[if_neg (by omega)])
    refine ab.mk [] ?_<;>(repeat' first|trivial)
end Go.Proofs.YtknljebcgcmaeaaGreatDoor
