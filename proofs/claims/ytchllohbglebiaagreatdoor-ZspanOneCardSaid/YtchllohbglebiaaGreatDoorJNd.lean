/-
  A part of the proof.
-/
import Derived.Test.YtchllohbglebiaaGreatDoorJRe
set_option linter.unusedSimpArgs false
set_option linter.unusedVariables false
set_option maxHeartbeats 4000000
set_option maxRecDepth 100000
namespace Go.Proofs.YtchllohbglebiaaGreatDoor
open Go Go.VG
def bq(b:UInt8):Bool:=decide (48<=b.toNat/\b.toNat<=57)
def dP(q:UInt8->Bool) (t:gA) (i:Nat):Nat:=i+((t.drop i).takeWhile q).length
theorem Mh{q:UInt8->Bool} {t:gA} {i:Nat} (hi:i<t.length) (h:q (t.getD i 0) =true):dP q t i=dP q t (i+1):=by
 unfold dP;have e:t.drop i=t.getD i 0::t.drop (i+1):=by
  rw[List.drop_eq_getElem_cons hi,ac,am hi];rfl
 rw[e,List.takeWhile_cons,if_pos h,List.length_cons];omega
theorem xE{q:UInt8->Bool} {t:gA} {i:Nat} (h:t.length<=i\/q (t.getD i 0) =false):dP q t i=i:=by
 unfold dP;rcases d7 i t.length with hi|hi
 . have e:t.drop i=t.getD i 0::t.drop (i+1):=by
     rw[List.drop_eq_getElem_cons hi,ac,am hi];rfl
   have h:q (t.getD i 0) =false:=by rcases h with h|h;omega;exact h
   rw[e,List.takeWhile_cons,if_neg (by rw[h];decide)];rfl
 . rw[List.drop_eq_nil_of_le hi];rfl
theorem xD(q:UInt8->Bool) (t:gA) (i:Nat):i<=dP q t i/\(dP q t i<=t.length\/dP q t i=i):=by
 unfold dP;have h:=(List.takeWhile_sublist (p:=q) (l:=t.drop i)).length_le;rw[d9] at h;omega
abbrev iv(t:gA) (i:Nat):Nat:=dP bq t i
theorem uI{t:gA} {i:Nat} (hi:i<t.length) (h:bq (t.getD i 0) =true):iv t i=iv t (i+1):=Mh hi h
theorem sD{t:gA} {i:Nat} (h:t.length<=i\/bq (t.getD i 0) =false):iv t i=i:=xE h
theorem qR(t:gA) (i:Nat):i<=iv t i/\(iv t i<=t.length\/iv t i=i):=xD _ t i
def dj(t:gA) (i:Nat) (a b:Nat):Bool:=decide (i<t.length)&&decide ((t.getD i 0).toNat=a\/(t.getD i 0).toNat=b)
theorem j6{t:gA} {i a b:Nat}:dj t i a b=true↔i<t.length/\((t.getD i 0).toNat=a\/(t.getD i 0).toNat=b):=by simp[dj]
theorem A4{t:gA} {i a b:Nat}:dj t i a b=false↔¬(i<t.length/\((t.getD i 0).toNat=a\/(t.getD i 0).toNat=b)):=by
 rw[<-j6,Bool.not_eq_true]
def dG(t:gA) (i:Nat):Nat×Int:=if iv t i>i then(iv t i,0) else if i=t.length then(i,1) else(i,3)
def bL(t:gA) (i a b:Nat):Nat:=if dj t i a b=true then i+1 else i
def aP(t:gA) (i:Nat):Nat×Int:=if dj t (bL t i 45 45) 48 48=true then(bL t i 45 45+1,0) else dG t (bL t i 45 45)
def bT(t:gA) (x:Nat×Int):Nat×Int:=if x.2=0/\dj t x.1 46 46=true then dG t (x.1+1) else x
def ke(t:gA) (x:Nat×Int):Nat×Int:=if x.2=0/\dj t x.1 101 69=true then dG t (bL t (x.1+1) 43 45) else x
def sub(t:gA) (i j:Nat):gA:=(t.take j).drop i
def cE(t:gA) (i:Nat):Nat×Int:=ke t (bT t (aP t i))
def Cu.has(c:Cu):Prop:=c.c=0/\c.p<c.e
instance (c:Cu):Decidable c.has:=by unfold Cu.has;infer_instance
def Cu.iW(c:Cu) (s:gA):Bool:=decide (c.has/\c.aw∈s)
def Cu.mD(c:Cu) (s:gA):Cu:=if c.iW s=true then c.byte else c
def Cu.nV(c:Cu) (s:gA):gA:=if c.iW s=true then[c.aw] else[]
def fT:Nat->Cu->gA->Cu×gA
 |0,c,o=>(c.byte,o++[c.aw])
 |n+1,c,o=>if bq c.byte.aw=true then fT n c.byte (o++[c.aw]) else(c.byte,o++[c.aw])
termination_by n => n
def Cu.aY(c:Cu):Cu×gA:=if bq c.aw=true then fT (c.e-c.p) c [] else((if c.left>0 then c.fail 3 else c).byte,[])
abbrev CO:=Cu×gA
def CO.fD(x:CO) (s:gA):CO:=(x.1.mD s,x.2++x.1.nV s)
def CO.aY(x:CO):CO:=(x.1.aY.1,x.2++x.1.aY.2)
def CO.whole(x:CO):CO:=if(x.fD [45]).1.iW [48]=true then(x.fD [45]).fD [48] else((x.fD [45]).fD [48]).aY
def CO.behind(x:CO):CO:=if x.1.iW [46]=true then(x.fD [46]).aY else x.fD [46]
def CO.qM(x:CO):CO:=if x.1.iW [101,69]=true then((x.fD [101,69]).fD [43,45]).aY else x.fD [101,69]
def Cu.jj(c:Cu):CO:=CO.qM (CO.behind (CO.whole (c,[])))
structure Nx(c:Cu) (x:CO) (r:Nat×Int):Prop where
 ok:r.2=0->x.1.s=c.s/\x.1.e=c.e/\x.1.c=0/\x.1.p=r.1/\c.p<=r.1/\r.1<=c.e/\x.2=sub c.ai c.p r.1
 bad:r.2≠0->x.1.c=r.2
theorem sub_self(t:gA) (i:Nat):sub t i i=[]:=by unfold sub;rw[List.drop_eq_nil_iff,d8];omega
theorem MW{t:gA} {i j:Nat} (h:i<=j) (hj:j<t.length):sub t i (j+1) =sub t i j++[t.getD j 0]:=by
 unfold sub;rw[sM hj,List.drop_append_of_le_length (by rw[d8];omega)]
theorem xT{c d:Cu} (h1:d.s=c.s) (h2:d.e=c.e):d.ai=c.ai:=by unfold Cu.ai;rw[h1,h2]
theorem tj{d:Cu} (h:¬d.has):d.aw=0:=by unfold Cu.aw;rw[if_neg (show¬(d.c=0/\d.p<d.e) from h)]
theorem ni{d:Cu} {s:gA}:d.iW s=true↔d.has/\d.aw∈s:=by unfold Cu.iW;rw[decide_eq_true_eq]
theorem rB{x:CO} {s:gA} (h:x.1.iW s=false):x.fD s=x:=by
 unfold CO.fD Cu.mD Cu.nV;rw[h];simp
theorem Cw{x:CO} {s:gA} (h:x.1.c≠0):x.1.iW s=false:=by
 cases e:x.1.iW s with
 |false=>rfl
 |true=>exact absurd (ni.1 e).1.1 h
theorem HW{c:Cu} (hk:c.ok) {x:CO} {i:Nat} {s:gA} (h:Nx c x (i,0)) (he:x.1.iW s=true):i<c.ai.length/\c.ai.getD i 0∈s/\Nx c (x.fD s) (i+1,0):=by
 obtain⟨h1,h2,h3,h4,h5,h6,h7⟩:=h.ok rfl;simp only at h4 h5 h6 h7;obtain⟨k1,k2⟩:=ni.1 he;have hp:x.1.p<x.1.e:=k1.2;have hl:=ja hk;obtain⟨b1,b2⟩:=jf h3 hp;rw[xT h1 h2,h4] at b2;refine⟨by omega,by rw[<-b2];exact k2,⟨fun _=>?_,fun k=>absurd rfl k⟩⟩;unfold CO.fD Cu.mD Cu.nV;rw[if_pos he,if_pos he,b1];refine⟨h1,h2,h3,by show x.1.p+1=i+1;omega,by show c.p<=i+1;omega,by show i+1<=c.e;omega,?_⟩;show x.2++[x.1.aw]=sub c.ai c.p (i+1);rw[MW h5 (by omega),h7,b2]
theorem yL{c:Cu} (hk:c.ok) {x:CO} {i:Nat} {a b:UInt8} {s:gA} (hs:∀y,y∈s↔y=a\/y=b) (h:Nx c x (i,0)):x.1.iW s=dj c.ai i a.toNat b.toNat:=by
 obtain⟨h1,h2,h3,h4,h5,h6,h7⟩:=h.ok rfl;simp only at h4 h5 h6;have hl:=ja hk;cases e:x.1.iW s with
 |true=>
   obtain⟨q1,q2,_⟩:=HW hk h e;exact(j6.2 ⟨q1,((hs _).1 q2).imp (fun e=>by rw[e]) (fun e=>by rw[e])⟩).symm
 |false=>
   refine(A4.2 fun⟨q1,q2⟩=>?_).symm;have hp:x.1.p<x.1.e:=by omega
   obtain⟨_,b2⟩:=jf h3 hp;rw[xT h1 h2,h4] at b2;have:x.1.iW s=true:=ni.2 ⟨⟨h3,hp⟩,(hs _).2 (by rw[b2];exact q2.imp (fun e=>UInt8.toNat_inj.1 e) (fun e=>UInt8.toNat_inj.1 e))⟩;rw[this] at e;cases e
theorem Cm{c:Cu} (hk:c.ok):∀(n:Nat) (x:CO) (i:Nat),Nx c x (i,0)->i<c.e->bq (c.ai.getD i 0) =true->c.e-i<=n+1->Nx c (fT n x.1 x.2) (iv c.ai i,0)
 |n,x,i,h,hi,hd,hn=>by
   obtain⟨h1,h2,h3,h4,h5,h6,h7⟩:=h.ok rfl;simp only at h4 h5 h6 h7;have hl:=ja hk;obtain⟨b1,b2⟩:=jf h3 (by omega);rw[xT h1 h2,h4] at b2;have hx:Nx c (x.1.byte,x.2++[x.1.aw]) (i+1,0):=⟨fun _=>by
    rw[b1];refine⟨h1,h2,h3,by show x.1.p+1=i+1;omega,by show c.p<=i+1;omega,by show i+1<=c.e;omega,?_⟩;show x.2++[x.1.aw]=sub c.ai c.p (i+1);rw[MW h5 (by omega),h7,b2],fun k=>absurd rfl k⟩
   rw[uI (by omega) hd];have hb:x.1.byte.aw=if i+1<c.e then c.ai.getD (i+1) 0 else 0:=by
    rw[b1];split
    . rename_i q;have:=(jf (c:={x.1 with p:=x.1.p+1}) h3 (by show x.1.p+1<x.1.e;omega)).2;rw[this];show(Cu.ai {x.1 with p:=x.1.p+1}).getD (x.1.p+1) 0=_;rw[h4];exact congrArg (fun l:gA=>l.getD (i+1) 0) (xT (d:={x.1 with p:=i+1}) h1 h2)
    . exact tj fun q=>by have:x.1.p+1<x.1.e:=q.2;omega
   have stop:(c.e<=i+1\/bq (c.ai.getD (i+1) 0) =false)->Nx c (x.1.byte,x.2++[x.1.aw]) (iv c.ai (i+1),0):=fun q=>by
    rw[sD (by rcases q with q|q;exact .inl (by omega);exact .inr q)];exact hx
   match n with
   |0=>rw[fT];exact stop (.inl (by omega))
   |n+1=>
     rw[fT];by_cases q:i+1<c.e
     . rw[if_pos q] at hb;rw[hb];by_cases r:bq (c.ai.getD (i+1) 0) =true
       . rw[if_pos r];exact Cm hk n _ (i+1) hx q r (by omega)
       . rw[if_neg r];exact stop (.inr (by simpa using r))
     . rw[if_neg q] at hb;rw[hb,if_neg (by decide)];exact stop (.inl (by omega))
theorem Cn{c:Cu} (hk:c.ok) {x:CO} {i:Nat} (h:Nx c x (i,0)):Nx c x.aY (dG c.ai i):=by
 obtain⟨h1,h2,h3,h4,h5,h6,h7⟩:=h.ok rfl;simp only at h4 h5 h6 h7;have hl:=ja hk;have hp:=qR c.ai i;unfold CO.aY Cu.aY dG;by_cases q:i<c.e
 . obtain⟨b1,b2⟩:=jf h3 (by omega);rw[xT h1 h2,h4] at b2;rw[b2];by_cases r:bq (c.ai.getD i 0) =true
   . have e:=uI (by omega) r;have:=(qR c.ai (i+1)).1;rw[if_pos r,if_pos (by omega)];have g:=Cm hk (x.1.e-x.1.p) (x.1,[]) i;have g2:=Cm hk (x.1.e-x.1.p) x i h q r (by omega);have ap:∀(n:Nat) (d:Cu) (o o':gA),(fT n d (o++o')).1=(fT n d o').1/\(fT n d (o++o')).2=o++(fT n d o').2:=by
      intro n
      induction n with
      |zero=>intro d o o';rw[fT,fT];simp
      |succ n ih=>
        intro d o o';rw[fT,fT];split
        . rw[eg];exact ih _ _ _
        . simp
     obtain⟨a1,a2⟩:=ap (x.1.e-x.1.p) x.1 x.2 [];rw[List.append_nil] at a1 a2;have e3:(fT (x.1.e-x.1.p) x.1 x.2) =((fT (x.1.e-x.1.p) x.1 []).1,x.2++(fT (x.1.e-x.1.p) x.1 []).2):=Prod.ext a1 a2;rw[e3] at g2;exact g2
   . have e:=sD (t:=c.ai) (i:=i) (.inr (by simpa using r));have hleft:x.1.left>0:=by show(x.1.e:Int)-x.1.p>0;omega
     rw[if_neg r,if_pos hleft,if_neg (show¬iv c.ai i>i by omega),if_neg (show¬i=c.ai.length by omega)];refine⟨fun k=>absurd (show(3:Int) =0 from k) (by decide),fun _=>?_⟩;have hf:(x.1.fail 3).c=3:=by rw[jJ _ h3]
     show(x.1.fail 3).byte.c=3;rw[(tk (by omega)).1];exact hf
 . have e:=sD (t:=c.ai) (i:=i) (.inl (by omega));have hb:x.1.aw=0:=tj fun k=>by have:=k.2;omega
   have hleft:¬x.1.left>0:=by show¬(x.1.e:Int)-x.1.p>0;omega
   rw[hb,if_neg (show¬bq 0=true by decide),if_neg hleft,if_neg (show¬iv c.ai i>i by omega),if_pos (show i=c.ai.length by omega)];refine⟨fun k=>absurd (show(1:Int) =0 from k) (by decide),fun _=>?_⟩;show x.1.byte.c=1;rw[(ru h3 (by omega)).1]
theorem He{c:Cu} {x:CO} {r:Nat×Int} (h:Nx c x r) (k:r.2≠0):x.1.c≠0:=by rw[h.bad k];exact k
theorem vZ{c:Cu} (hk:c.ok) {x:CO} {i:Nat} {a b:UInt8} {s:gA} (hs:∀y,y∈s↔y=a\/y=b) (h:Nx c x (i,0)):Nx c (x.fD s) (bL c.ai i a.toNat b.toNat,0):=by
 have e:=yL hk hs h;unfold bL;rw[<-e];split
 . rename_i q;exact(HW hk h q).2.2
 . rename_i q;rw[rB (by simpa using q)];exact h
theorem xj(a y:UInt8):y∈[a]↔y=a\/y=a:=by simp
theorem Dz(a b y:UInt8):y∈[a,b]↔y=a\/y=b:=by simp
theorem LM{c:Cu} (hk:c.ok) (h0:c.c=0):Nx c c.jj (cE c.ai c.p):=by
 have hl:=ja hk;have s0:Nx c (c,[]) (c.p,0):=⟨fun _=>⟨rfl,rfl,h0,rfl,cb _,hk.1,(sub_self _ _).symm⟩,fun k=>absurd rfl k⟩
 have s1:=vZ hk (xj 45) s0;have w:Nx c (CO.whole (c,[])) (aP c.ai c.p):=by
  unfold CO.whole aP;have e:=yL hk (xj 48) s1;have s2:=vZ hk (xj 48) s1;unfold bL at s2;rw[e];by_cases q:dj c.ai (bL c.ai c.p 45 45) 48 48=true
  . rw[if_pos (by exact q),if_pos q];rw[if_pos (by exact q)] at s2;exact s2
  . rw[if_neg (by exact q),if_neg q];rw[if_neg (by exact q)] at s2;exact Cn hk s2
 have b:Nx c (CO.behind (CO.whole (c,[]))) (bT c.ai (aP c.ai c.p)):=by
  generalize CO.whole (c,[]) =x at*;generalize aP c.ai c.p=r at*;obtain⟨i,k⟩:=r;unfold CO.behind bT;by_cases z:k=0
  . subst z;have e:=yL hk (xj 46) w;have s2:=vZ hk (xj 46) w;unfold bL at s2;rw[e];by_cases q:dj c.ai i 46 46=true
    . rw[if_pos (by exact q),if_pos ⟨rfl,q⟩];rw[if_pos (by exact q)] at s2;exact Cn hk s2
    . rw[if_neg (by exact q),if_neg (fun t=>q t.2)];rw[if_neg (by exact q)] at s2;exact s2
  . have e:=Cw (s:=[46]) (He w z);rw[e,if_neg (by decide),if_neg (fun t=>z t.1),rB e];exact w
 unfold Cu.jj cE;generalize CO.behind (CO.whole (c,[])) =x at*;generalize bT c.ai (aP c.ai c.p) =r at*;obtain⟨i,k⟩:=r;unfold CO.qM ke;by_cases z:k=0
 . subst z;have e:=yL hk (Dz 101 69) b;have s2:=vZ hk (Dz 101 69) b;rw[e];by_cases q:dj c.ai i 101 69=true
   . rw[if_pos (by exact q),if_pos ⟨rfl,q⟩];unfold bL at s2;rw[if_pos (by exact q)] at s2;exact Cn hk (vZ hk (Dz 43 45) s2)
   . rw[if_neg (by exact q),if_neg (fun t=>q t.2)];unfold bL at s2;rw[if_neg (by exact q)] at s2;exact s2
 . have e:=Cw (s:=[101,69]) (He b z);rw[e,if_neg (by decide),if_neg (fun t=>z t.1),rB e];exact b
def dx(b:UInt8):Bool:=decide (b.toNat=32\/b.toNat=9\/b.toNat=10\/b.toNat=13)
def ec(b:UInt8):Bool:=decide (b.toNat=123\/b.toNat=125\/b.toNat=91\/b.toNat=93\/b.toNat=58\/b.toNat=44)
structure Tk where
 k:UInt8
 t:gA
instance:Inhabited Tk:=⟨⟨0,[]⟩⟩
abbrev Tk.no:Tk:=⟨0,[]⟩
def spell(k:UInt8):gA:=if k.toNat=116 then[116,114,117,101] else if k.toNat=102 then[102,97,108,115,101] else if k.toNat=122 then[110,117,108,108] else[]
def Cu.dw(c:Cu):Cu:=if c.c=0 then{c with p:=dP dx c.ai c.p} else c
def Cu.word:gA->Cu->Cu×Bool
 |[],c=>(c,true)
 |b::s,c=>if c.aw≠b then(c.byte.fail 3,false) else Cu.word s c.byte
def Cu.num(c:Cu):CO:=(c.jj.1,if c.jj.1.c=0 then c.jj.2 else[])
def held(x:CO) (k:UInt8):Cu×Tk:=(x.1,if x.1.c=0 then⟨k,x.2⟩ else .no)
def Cu.vo(c:Cu) (k:UInt8):Cu×Tk:=((c.word (spell k)).1,if(c.word (spell k)).2=true then⟨k,[]⟩ else .no)
def Cu.xR(d:Cu):Cu×Tk:=
 if¬d.has then(d,.no)
 else if ec d.aw=true then(d.byte,⟨d.aw,[]⟩)
 else if d.aw.toNat=34 then held d.read 115
 else if d.aw.toNat=45\/bq d.aw=true then held d.num 110
 else if d.aw.toNat=116 then d.vo 116
 else if d.aw.toNat=102 then d.vo 102
 else if d.aw.toNat=110 then d.vo 122
 else(d.fail 3,.no)
def Cu.next(c:Cu):Cu×Tk:=c.dw.xR
def Cu.mP(c:Cu):CO:=
 if c.c≠0 then(c,[]) else if(cE c.ai c.p).2≠0 then(c.fail (cE c.ai c.p).2,[]) else({c with p:=(cE c.ai c.p).1},sub c.s c.p (cE c.ai c.p).1)
def jG(c:Cu):gA->Nat->Int
 |[],_=>0
 |b::s,i=>if c.p+i>=c.e then 1 else if c.s.getD (c.p+i) 0≠b then 3 else jG c s (i+1)
def Cu.fv(c:Cu) (k:UInt8):Cu×Tk:=if jG c (spell k) 0≠0 then(c.fail (jG c (spell k) 0),.no) else({c with p:=c.p+(spell k).length},⟨k,[]⟩)
def Cu.j8(d:Cu):Cu×Tk:=
 if d.p=d.e then(d,.no)
 else if ec d.get=true then({d with p:=d.p+1},⟨d.get,[]⟩)
 else if d.get.toNat=34 then held d.jB 115
 else if d.get.toNat=45\/bq d.get=true then held d.mP 110
 else if d.get.toNat=116\/d.get.toNat=102 then d.fv d.get
 else if d.get.toNat=110 then d.fv 122
 else(d.fail 3,.no)
def Cu.cg(c:Cu):Cu×Tk:=if c.c≠0 then(c,.no) else({c with p:=dP dx c.ai c.p}:Cu).j8
def pN(x y:Cu×Tk):Prop:=x.2=y.2/\x.1.c=y.1.c/\(y.1.c=0->x.1=y.1)
theorem pN.refl(x:Cu×Tk):pN x x:=⟨rfl,rfl,fun _=>rfl⟩
theorem MX{c:Cu} {i j:Nat} (h:j<=c.e):sub c.ai i j=sub c.s i j:=by unfold sub Cu.ai;rw[List.take_take,Nat.min_eq_left h]
theorem qH(t:gA) (i:Nat) (h:i<=t.length):i<=(dG t i).1/\(dG t i).1<=t.length:=by
 have:=qR t i;unfold dG;repeat' split
 all_goals (constructor<;>(try dsimp only)<;>omega)
theorem sE(t:gA) (i a b:Nat) (h:i<=t.length):i<=bL t i a b/\bL t i a b<=t.length:=by
 unfold bL;split
 . rename_i q;have:=(j6.1 q).1;omega
 . omega
theorem zW(t:gA) (i:Nat) (h:i<=t.length):i<=(cE t i).1/\(cE t i).1<=t.length:=by
 have h1:=sE t i 45 45 h;have w:i<=(aP t i).1/\(aP t i).1<=t.length:=by
  unfold aP;split
  . rename_i q;have:=(j6.1 q).1;dsimp only;omega
  . have:=qH t _ h1.2;omega
 have b:i<=(bT t (aP t i)).1/\(bT t (aP t i)).1<=t.length:=by
  generalize aP t i=x at*;unfold bT;split
  . rename_i q;have:=(j6.1 q.2).1;have:=qH t (x.1+1) (by omega);omega
  . exact w
 unfold cE;generalize bT t (aP t i) =x at*;unfold ke;split
 . rename_i q;have:=(j6.1 q.2).1;have:=sE t (x.1+1) 43 45 (by omega);have:=qH t _ this.2;omega
 . exact b
theorem W5{c:Cu} (hk:c.ok):pN (held c.num 110) (held c.mP 110):=by
 unfold Cu.mP;by_cases h0:c.c=0
 . have h:=LM hk h0;rw[if_neg (by omega)];by_cases z:(cE c.ai c.p).2=0
   . obtain⟨h1,h2,h3,h4,h5,h6,h7⟩:=h.ok z;rw[if_neg (by omega)];have e1:c.jj.1={c with p:=(cE c.ai c.p).1}:=by
      generalize c.jj.1=d at*;obtain⟨ds,dp,de,dc⟩:=d;simp only at h1 h2 h3 h4;rw[h1,h2,h3,h4,<-h0]
     have e2:c.num=({c with p:=(cE c.ai c.p).1},sub c.s c.p (cE c.ai c.p).1):=by
      unfold Cu.num;rw[if_pos h3,h7,MX h6,e1]
     rw[e2];exact .refl _
   . have hb:=h.bad z;rw[if_pos z,jJ _ h0];unfold held Cu.num;rw[hb];simp only;rw[if_neg z,if_neg z];exact⟨rfl,hb,fun k=>absurd k z⟩
 . rw[if_pos h0];have hp:c.jj=(c,[]):=by
    have e:∀s,(c,([]:gA)).1.iW s=false:=fun s=>Cw h0;unfold Cu.jj;have w:CO.whole (c,[]) =(c,[]):=by
     unfold CO.whole;rw[rB (e _),e,if_neg (by decide),rB (e _)];unfold CO.aY Cu.aY;have hb:c.aw=0:=tj fun k=>h0 k.1;have hf:(if c.left>0 then c.fail 3 else c) =c:=by split;exact oY 3 h0;rfl
     show((if bq c.aw=true then _ else _:CO).1,[]++(if bq c.aw=true then _ else _:CO).2) =_;rw[hb,if_neg (by decide),hf,(tk h0).1];rfl
    have b:CO.behind (c,[]) =(c,[]):=by
     unfold CO.behind;rw[e,if_neg (by decide),rB (e _)]
    have p:CO.qM (c,[]) =(c,[]):=by
     unfold CO.qM;rw[e,if_neg (by decide),rB (e _)]
    rw[w,b,p]
   unfold held Cu.num;rw[hp];simp only;rw[if_neg h0,if_neg h0];exact⟨rfl,rfl,fun _=>rfl⟩
theorem NK{c:Cu}:∀(s:gA) (i:Nat) (d:Cu),(∀x∈s,x≠0)->On c d i->d.p<=d.e->
   (jG c s i=0->(d.word s).2=true/\On c (d.word s).1 (i+s.length))/\(jG c s i≠0->(d.word s).2=false/\(d.word s).1.c=jG c s i)
 |[],i,d,_,h,_=>by
   unfold jG Cu.word;exact⟨fun _=>⟨rfl,h⟩,fun k=>absurd rfl k⟩
 |b::s,i,d,hz,h,hd=>by
   unfold jG Cu.word;have hp:=h.p;have he:=h.e;by_cases q:c.p+i>=c.e
   . obtain⟨b1,b2⟩:=ru h.c0 (by omega);rw[if_pos q];refine⟨fun k=>absurd k (by decide),fun _=>?_⟩;by_cases hb:d.aw≠b
     . rw[if_pos hb,b1];refine⟨rfl,?_⟩;rw[oY _ (by show(1:Int)≠0;decide)]
     . rw[if_neg hb];have bb:b=0:=by rw[b2] at hb;exact(Decidable.not_not.1 hb).symm
       exact absurd bb (hz b (by simp))
   . obtain⟨b1,b2⟩:=jf h.c0 (by omega);rw[h.ai,hp] at b2;have hg:c.ai.getD (c.p+i) 0=c.s.getD (c.p+i) 0:=by unfold Cu.ai;exact getD_take (by omega)
     rw[if_neg q,b2,hg];by_cases hb:c.s.getD (c.p+i) 0≠b
     . rw[if_pos hb,if_pos hb];refine⟨fun k=>absurd k (by decide),fun _=>⟨rfl,?_⟩⟩;rw[b1];show(Cu.fail {d with p:=d.p+1} 3).c=3;rw[jJ 3 (show({d with p:=d.p+1}:Cu).c=0 from h.c0)]
     . rw[if_neg hb,if_neg hb];have:=NK s (i+1) d.byte (fun x hx=>hz x (d5 _ hx)) (by have:=h.trans (On.byte h.c0 (by omega));exact this) (by rw[b1];show d.p+1<=d.e;omega);rw[show i+(b::s).length=i+1+s.length by simp;omega];exact this
theorem YH(k:UInt8):∀x∈spell k,x≠0:=by
 unfold spell;repeat' split
 all_goals decide
theorem Gk{c:Cu} (hk:c.ok) (h0:c.c=0) (k:UInt8):pN (c.vo k) (c.fv k):=by
 have h:=NK (spell k) 0 c (YH k) ⟨rfl,rfl,h0,rfl⟩ hk.1;unfold Cu.vo Cu.fv;by_cases z:jG c (spell k) 0=0
 . obtain⟨h1,h2⟩:=h.1 z;rw[if_pos h1,if_neg (by omega)];have e:(c.word (spell k)).1={c with p:=c.p+(spell k).length}:=by
    generalize (c.word (spell k)).1=d at*;obtain⟨ds,dp,de,dc⟩:=d;obtain⟨a1,a2,a3,a4⟩:=h2;simp only[Nat.zero_add] at a1 a2 a3 a4;rw[a1,a2,a3,a4,<-h0]
   rw[e];exact .refl _
 . obtain⟨h1,h2⟩:=h.2 z;rw[if_neg (by rw[h1];decide),if_pos z,jJ _ h0];exact⟨rfl,h2,fun q=>absurd q z⟩
theorem Tf{x y:CO} {k:UInt8} (h1:x.2=y.2) (h2:x.1.c=y.1.c) (h3:y.1.c=0->x.1=y.1):pN (held x k) (held y k):=by
 refine⟨?_,h2,h3⟩;show(if x.1.c=0 then _ else _) =if y.1.c=0 then _ else _
 rw[h1,h2]
theorem Xu{c:Cu} (hk:c.ok):pN (held c.read 115) (held c.jB 115):=by
 obtain⟨h1,h2,h3⟩:=Xt hk;exact Tf h1 h2 h3
theorem YZ{d:Cu} (hk:d.ok) (h0:d.c=0):pN d.xR d.j8:=by
 unfold Cu.xR Cu.j8;by_cases q:d.p=d.e
 . rw[if_pos (fun h=>by have:=h.2;omega),if_pos q];exact .refl _
 . have hp:d.p<d.e:=by have:=hk.1;omega
   have hh:d.has:=⟨h0,hp⟩
   have hv:d.aw=d.get:=by unfold Cu.aw;rw[if_pos (show d.c=0/\d.p<d.e from hh)]
   rw[if_neg (fun h=>h hh),if_neg q,hv,(jf h0 hp).1];by_cases a:ec d.get=true
   . rw[if_pos a,if_pos a];exact .refl _
   rw[if_neg a,if_neg a];by_cases b:d.get.toNat=34
   . rw[if_pos b,if_pos b];exact Xu hk
   rw[if_neg b,if_neg b];by_cases e:d.get.toNat=45\/bq d.get=true
   . rw[if_pos e,if_pos e];exact W5 hk
   rw[if_neg e,if_neg e];by_cases f:d.get.toNat=116
   . rw[if_pos f,if_pos (.inl f),show d.get=116 from UInt8.toNat_inj.1 f];exact Gk hk h0 116
   rw[if_neg f];by_cases g:d.get.toNat=102
   . rw[if_pos g,if_pos (.inr g),show d.get=102 from UInt8.toNat_inj.1 g];exact Gk hk h0 102
   rw[if_neg g,if_neg (show¬(d.get.toNat=116\/d.get.toNat=102) by omega)];by_cases i:d.get.toNat=110
   . rw[if_pos i,if_pos i];exact Gk hk h0 122
   rw[if_neg i,if_neg i];exact .refl _
theorem Hh{c:Cu} (hk:c.ok):c.dw.ok:=by
 unfold Cu.dw;split
 . have:=xD dx c.ai c.p;have:=ja hk;have:=hk.1;exact⟨by show dP dx c.ai c.p<=c.e;omega,hk.2⟩
 . exact hk
theorem ux{c:Cu} (hk:c.ok):pN c.next c.cg:=by
 unfold Cu.next Cu.cg;have hb:=Hh hk;by_cases h0:c.c=0
 . rw[if_neg (by omega)];have e:c.dw={c with p:=dP dx c.ai c.p}:=by unfold Cu.dw;rw[if_pos h0]
   rw[e] at hb⊢;exact YZ hb h0
 . rw[if_pos h0];have e:c.dw=c:=by unfold Cu.dw;rw[if_neg h0]
   rw[e];unfold Cu.xR;rw[if_pos (fun h=>h0 h.1)];exact .refl _
end Go.Proofs.YtchllohbglebiaaGreatDoor
