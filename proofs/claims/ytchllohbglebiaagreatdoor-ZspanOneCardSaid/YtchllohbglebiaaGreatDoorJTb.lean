/-
  A part of the proof.
-/
import Derived.Test.YtchllohbglebiaaGreatDoorJRe
import Derived.Test.YtchllohbglebiaaGreatDoorKD
set_option linter.unusedSimpArgs false
set_option linter.unusedVariables false
set_option maxHeartbeats 4000000
set_option maxRecDepth 100000
namespace Go.Proofs.YtchllohbglebiaaGreatDoor
open Go Go.VG
def na(x:gA):Prop:=0<x.length/\(bW x 0).2=x.length
inductive cG:gA->Prop where
 |nil:cG []
 |cons (x r:gA) (h:na x) (k:cG r):cG (x++r)
theorem cG.append{x y:gA} (h:cG x) (k:cG y):cG (x++y):=by
 induction h with
 |nil=>exact k
 |cons x r h _ ih=>rw[eg];exact .cons x _ h ih
theorem cG.one{x:gA} (h:na x):cG x:=by have:=cG.cons x [] h .nil;simpa using this
theorem IV(t:gA) (i k:Nat):(t.drop i).getD k 0=t.getD (i+k) 0:=by
 rw[ac,ac,List.getElem?_drop]
theorem p5{x r:gA} {k:Nat} (h:k<x.length):(x++r).getD k 0=x.getD k 0:=by
 rw[ac,ac,dl h]
theorem Cf{x:gA} (h:na x):bg (x.getD 0 0).toNat=x.length/\∀j,1<=j->j<x.length->cont (x.getD j 0) =true:=by
 obtain⟨h1,h2⟩:=h;rw[<-oB] at h2;rcases Aq x h1 with k|⟨k1,k2,k3,k4⟩
 . omega
 . exact⟨by omega,fun j a b=>k4 j a (by omega)⟩
theorem OT{x r t:gA} {i:Nat} (h:na x) (e:t.drop i=x++r):bW t i=bW x 0:=by
 have hl:=congrArg List.length e;rw[d9,an] at hl;have h1:=h.1;rw[As,if_neg (by omega),e,<-oB,<-oB];have hn:=(Cf h).1;have:=Ar (x++r) x.length (by rw[p5 h1];omega) h1 (by simp);rw[List.take_left] at this;exact this.symm
theorem OU{t:gA} {i:Nat} (hi:i<t.length) (h:(bW t i).2≠0):na ((t.drop i).take (bW t i).2)/\((t.drop i).take (bW t i).2).length=(bW t i).2:=by
 have hr:=BF t i;have hl:((t.drop i).take (bW t i).2).length=(bW t i).2:=by rw[d8,d9];omega
 refine⟨⟨by omega,?_⟩,hl⟩;rw[hl];have e:=As t i;rw[if_neg (by omega)] at e;rw[e] at h⊢;generalize t.drop i=x at*;rw[<-oB] at h⊢;have hx:0<x.length:=by
  rcases d7 0 x.length with q|q
  . exact q
  . exact absurd (by unfold ez;rw[if_pos (by omega)]) h
 rcases Aq x hx with k|⟨k1,k2,k3,k4⟩
 . exact absurd k h
 . rw[<-oB,Ar x _ (by omega) (by omega) (by omega)]
theorem yy{b:UInt8} (h:b.toNat<128):na [b]:=by
 refine⟨by simp,?_⟩;rw[<-oB];unfold ez;have e:([b]:gA).getD 0 0=b:=rfl;have u:bg b.toNat=1:=by unfold bg;rw[if_pos h]
 rw[e,u,if_neg (by simp),if_neg (by omega),if_neg (by simp),if_pos rfl];rfl
theorem HC{n:Int} (h0:0<=n) (h1:n<=1114111) (hs:n<55296\/57343<n):na (cN n):=by
 have hl:=xU n;refine⟨by omega,?_⟩;have hg:jb (cN n) =n:=by
  unfold cN;repeat' split
  all_goals
   simp only[jb,r8,List.getD_cons_zero,List.getD_cons_succ,List.length_cons,List.length_nil]
   repeat (first|rw[eO (by omega)])
  . split
    . rfl
    . have:=eO (n:=n) (by omega);omega
  . have a:=eO (n:=192+n/64) (by omega);have b:=eO (n:=128+n%64) (by omega);rw[if_neg (by omega),if_neg (by omega),if_neg (by omega),if_neg (by omega)];omega
  . have a:=eO (n:=224+n/4096) (by omega);have b:=eO (n:=128+n/64%64) (by omega);have c:=eO (n:=128+n%64) (by omega);rw[if_neg (by omega),if_neg (by omega),if_pos (by omega),if_neg (by omega),if_neg (by omega)];omega
  . have a:=eO (n:=240+n/262144) (by omega);have b:=eO (n:=128+n/4096%64) (by omega);have c:=eO (n:=128+n/64%64) (by omega);have d:=eO (n:=128+n%64) (by omega);rw[if_neg (by omega),if_pos (by omega),if_neg (by omega),if_neg (by omega),if_neg (by omega)];omega
 unfold bW;have hi:fJ n=true:=(l5 n).2 ⟨h0,h1,hs⟩;rw[List.drop_zero,hg,if_neg (by omega),if_neg (by rw[hi];simp;omega),if_pos (by rw[List.take_length])]
theorem jH{t:gA} {i:Nat} {y:gA} (e:t.drop i=y) (k:Nat):t.getD (i+k) 0=y.getD k 0:=by rw[<-e,IV]
theorem Hm(b:UInt8):byte (b.toNat:Int) =b:=eX b
theorem OZ:∀b:Nat,b<32->eQ (fj (iG (b/16))) =true/\eQ (fj (iG (b%16))) =true/\16*di (fj (iG (b/16)))+di (fj (iG (b%16))) =b:=by decide
theorem Gw:eQ (fj 48) =true/\di (fj 48) =0:=by decide
theorem WX{t r:gA} {i:Nat} {b:UInt8} (hb:b.toNat<32) (e:t.drop i=[92,117,48,48,iG (b.toNat/16),iG (b.toNat%16)]++r):da t i=([b],(i:Int)+6,0):=by
 have g0:t.getD i 0=92:=jH e 0;have g1:t.getD (i+1) 0=117:=jH e 1;have g2:t.getD (i+2) 0=48:=jH e 2;have g3:t.getD (i+3) 0=48:=jH e 3;have g4:t.getD (i+4) 0=iG (b.toNat/16):=jH e 4;have g5:t.getD (i+5) 0=iG (b.toNat%16):=jH e 5;have hl:=congrArg List.length e;rw[d9] at hl;simp at hl;obtain⟨k1,k2,k3⟩:=OZ b.toNat hb;have hd:cI t 4 (i+2) 0=((b.toNat:Int),0):=by
  rw[cI,if_neg (by omega),g2,if_pos Gw.1,cI,if_neg (by omega),show i+2+1=i+3 from rfl,g3,if_pos Gw.1,cI,if_neg (by omega),show i+3+1=i+4 from rfl,g4,if_pos k1,
   cI,if_neg (by omega),show i+4+1=i+5 from rfl,g5,if_pos k2,cI,Gw.2]
  refine Prod.ext ?_ rfl;show(16*(16*(16*(16*0+((0:Nat):Int))+((0:Nat):Int))+((di (fj (iG (b.toNat/16))):Nat):Int))+((di (fj (iG (b.toNat%16))):Nat):Int)) =_;omega
 unfold da;rw[g0,if_pos (by decide)];unfold i7;rw[if_neg (by omega),g1,if_neg (by decide),hd,if_neg (by simp),if_neg (by simp;omega),if_neg (by simp;omega)];refine Prod.ext ?_ (Prod.ext (by show((i+1:Nat):Int)+5=(i:Int)+6;omega) rfl);show cN (b.toNat:Int) =[b];unfold cN;rw[if_pos (by omega),Hm]
theorem WY{t r:gA} {i:Nat} {b:UInt8} (hb:b.toNat=34\/b.toNat=92) (e:t.drop i=[92,b]++r):da t i=([b],(i:Int)+2,0):=by
 have g0:t.getD i 0=92:=jH e 0;have g1:t.getD (i+1) 0=b:=jH e 1;have hl:=congrArg List.length e;rw[d9] at hl;simp at hl;have hp:lL b=true:=by unfold lL;rw[decide_eq_true_eq];omega
 have hv:oA b=b.toNat:=by unfold oA;rw[if_pos (by omega)]
 unfold da;rw[g0,if_pos (by decide)];unfold i7;rw[if_neg (by omega),g1,if_pos (by omega),if_pos hp];refine Prod.ext ?_ (Prod.ext (by show((i+1:Nat):Int)+1=(i:Int)+2;omega) rfl);show pA b=[b];unfold pA;rw[if_pos hp,hv,Hm]
theorem X1{t r x:gA} {i:Nat} (h:na x) (h1:(x.getD 0 0).toNat≠92) (h2:32<=(x.getD 0 0).toNat) (e:t.drop i=x++r):da t i=(x,((i+x.length:Nat):Int),0):=by
 have g0:t.getD i 0=x.getD 0 0:=(jH e 0).trans (p5 h.1);have hr:=(OT h e)
 have hn:=h.2;have hp:=h.1;unfold da;rw[g0,if_neg h1,if_neg (by omega),hr,hn,if_neg (by omega)];refine Prod.ext ?_ rfl;show(t.take (i+x.length)).drop i=x;rw[List.drop_take,e,Nat.add_sub_cancel_left,List.take_left]
theorem Ei(x y:gA):eR (x++y) =eR x++eR y:=by simp[eR]
theorem Xl{x:gA} (h:∀b∈x,me b=[b]):eR x=x:=by
 induction x with
 |nil=>rfl
 |cons b x ih=>
   rw[show b::x=[b]++x from rfl,Ei,ih fun c hc=>h c (d5 _ hc)];simp[eR,h b (by simp)]
theorem M1{b:UInt8} (h1:b.toNat≠34) (h2:b.toNat≠92) (h3:32<=b.toNat):me b=[b]:=by
 unfold me;rw[if_neg (by omega),if_neg (by omega)]
theorem HD{x:gA} (h:na x) (hb:(x.getD 0 0).toNat<128):x=[x.getD 0 0]:=by
 have h1:=(Cf h).1;have:bg (x.getD 0 0).toNat=1:=by unfold bg;rw[if_pos hb]
 match x,h1.symm.trans this with
 |[b],_=>rfl
theorem OV{x:gA} (h:na x) (h1:(x.getD 0 0).toNat≠34) (h2:(x.getD 0 0).toNat≠92) (h3:32<=(x.getD 0 0).toNat):eR x=x:=by
 refine Xl fun b hb=>?_;obtain⟨j,hj,rfl⟩:=List.getElem_of_mem hb;have e:x[j]=x.getD j 0:=by rw[ac,am hj];rfl
 rw[e];by_cases hj0:j=0
 . subst hj0;exact M1 h1 h2 h3
 . have:=(kx _).1 ((Cf h).2 j (by omega) hj);exact M1 (by omega) (by omega) (by omega)
theorem T9{s:gA} (h:cG s):∀(t r o:gA) (n i:Nat),t.drop i=eR s++34::r->t.length-i+1<=n->dI t n i o=(0,i+(eR s).length+1,o++s):=by
 induction h with
 |nil=>
   intro t r o n i e hn;have hl:=congrArg List.length e;rw[d9] at hl;simp[eR] at hl;have g0:t.getD i 0=34:=jH e 0
   match n with
   |0=>omega
   |n+1=>
     rw[dI,if_neg (by omega),g0,if_pos (by decide)];simp[eR]
 |cons x s h hs ih=>
   intro t r o n i e hn;rw[Ei,eg] at e;have step:∀m:Nat,0<m->t.drop (i+m) =eR s++34::r->i<t.length->t.getD i 0≠34->da t i=(x,((i+m:Nat):Int),0)->(eR x).length=m->
      dI t n i o=(0,i+(eR (x++s)).length+1,o++(x++s)):=fun m hm hd hi h34 hp hq=>by
    match n with
    |0=>omega
    |n+1=>
      have q:(t.getD i 0).toNat≠34:=fun k=>h34 (UInt8.toNat_inj.1 (by rw[k];rfl));rw[dI,if_neg (by omega),if_neg q,hp,if_neg (by simp),show((i+m:Nat):Int).toNat=i+m from rfl,ih t r (o++x) n (i+m) hd (by omega),Ei,an,hq];refine Prod.ext rfl (Prod.ext ?_ ?_)
      . show i+m+_+1=i+(m+_)+1;omega
      . show o++x++s=_;rw[eg]
   have hdrop:t.drop (i+(eR x).length) =eR s++34::r:=by rw[<-List.drop_drop,e,List.drop_left]
   have hl:=congrArg List.length e;rw[d9,an,an] at hl;simp only[List.length_cons] at hl;by_cases hb:(x.getD 0 0).toNat=34\/(x.getD 0 0).toNat=92
   . have hx:=HD h (by omega);generalize x.getD 0 0=b at*;subst hx;have hq:eR [b]=[92,b]:=by
      show me b++[]=_;unfold me;rw[if_pos hb];rfl
     rw[hq] at hdrop e;refine step 2 (by omega) hdrop (by omega) ?_ (WY hb e) (by rw[hq];rfl);rw[show t.getD i 0=92 from jH e 0];decide
   by_cases hc:(x.getD 0 0).toNat<32
   . have hx:=HD h (by omega);generalize x.getD 0 0=b at*;subst hx;have hq:eR [b]=[92,117,48,48,iG (b.toNat/16),iG (b.toNat%16)]:=by
      show me b++[]=_;unfold me;rw[if_neg hb,if_pos hc];rfl
     rw[hq] at hdrop e;refine step 6 (by omega) hdrop (by omega) ?_ (WX hc e) (by rw[hq];rfl);rw[show t.getD i 0=92 from jH e 0];decide
   . have hq:=OV h (by omega) (by omega) (by omega);rw[hq] at hdrop e;have hp:=h.1;refine step x.length h.1 hdrop (by omega) ?_ (X1 h (by omega) (by omega) e) (by rw[hq]);rw[show t.getD i 0=x.getD 0 0 from(jH e 0).trans (p5 hp)];intro k;rw[k] at hb;exact hb (.inl rfl)
theorem Pm(t:gA) (i:Nat):(i7 t i).2.2=0->cG (i7 t i).1:=by
  have hd:=fun j=>HM t 4 j 0 1 (by omega) (by omega) (by omega)
  have h1:=hd (i+1)
  have h2:=hd (i+5+2)
  unfold i7 jz
  repeat' split
  all_goals intro h
  all_goals first
    |(exfalso;simp at h;done)
    |(exfalso;exact absurd h (by assumption))
    |skip
  . rename_i hp
    refine cG.one ?_
    show na (pA _)
    unfold pA
    rw[if_pos hp]
    have hv : oA (t.getD i 0) < 128 := by     unfold oA; repeat' split
                                              all_goals omega
    exact yy (by have:=eO (n:=oA (t.getD i 0)) (by omega);omega)
  . refine cG.one (HC ?_ ?_ ?_)<;>omega
  . refine cG.one (HC ?_ ?_ ?_)<;>omega
theorem X2(t:gA) (i:Nat) (hi:i<t.length):(da t i).2.2=0->cG (da t i).1:=by
 unfold da;repeat' split
 all_goals intro h
 . exact Pm t _ h
 . exfalso;simp at h
 . exfalso;simp at h
 . rename_i q;rw[List.drop_take,Nat.add_sub_cancel_left];exact cG.one (OU hi q).1
theorem J9(t:gA):∀(n i:Nat) (o:gA),cG o->(dI t n i o).1=0->cG (dI t n i o).2.2
 |0,_,_,_,h=>by rw[dI] at h;simp at h
 |n+1,i,o,ho,h=>by
   rw[dI] at h⊢;by_cases a:t.length<=i
   . rw[if_pos a] at h;simp at h
   . rw[if_neg a] at h⊢;by_cases b:(t.getD i 0).toNat=34
     . rw[if_pos b];exact ho
     . rw[if_neg b] at h⊢;by_cases c:(da t i).2.2≠0
       . rw[if_pos c] at h;exact absurd h c
       . rw[if_neg c] at h⊢;exact J9 t n _ _ (ho.append (X2 t i (by omega) (by omega))) h
theorem Xr{c:Cu} (h0:c.c=0) (h:c.jB.1.c=0):cG c.jB.2:=by
 have e:∀k:Int,k≠0->(c.fail k).c≠0:=fun k hk=>by rw[jJ _ h0];exact hk
 unfold Cu.jB at h⊢;rw[if_neg (by omega)] at h⊢;by_cases a:c.p=c.e
 . rw[if_pos a] at h;exact absurd h (e 1 (by decide))
 rw[if_neg a] at h⊢;by_cases b:c.get.toNat≠34
 . rw[if_pos b] at h;exact absurd h (e 3 (by decide))
 rw[if_neg b] at h⊢;by_cases d:(dI (c.s.take c.e) (c.e-c.p) (c.p+1) []).1=0
 . rw[if_pos d];exact J9 _ _ _ _ .nil d
 . rw[if_neg d] at h;exact absurd h (e _ d)
theorem WZ(t:gA) (i:Nat):(da t i).2.2=0->(da t i).1.length<=4:=by
 have hr:=BF t i;unfold da;repeat' split
 all_goals intro h
 . have:=I7 t (i+1) h;omega
 . exfalso;simp at h
 . exfalso;simp at h
 . show((t.take (i+(bW t i).2)).drop i).length<=4;rw[d9,d8];omega
theorem J6:∀(t:gA) (n i:Nat) (o:gA),(dI t n i o).2.2.length<=o.length+4*n
 |t,0,_,_=>by rw[dI];simp
 |t,n+1,i,o=>by
   rw[dI];repeat' split
   . simp
   . show o.length<=_;omega
   . simp
   . have h:=WZ t i (by omega);have:=J6 t n (da t i).2.1.toNat (o++(da t i).1);rw[an] at this;omega
def pD(b:UInt8):Bool:=decide (b.toNat=32\/b.toNat=9\/b.toNat=10\/b.toNat=13\/b.toNat=44\/b.toNat=93\/b.toNat=125)
theorem MN{b:UInt8}:pD b=true↔b.toNat=32\/b.toNat=9\/b.toNat=10\/b.toNat=13\/b.toNat=44\/b.toNat=93\/b.toNat=125:=decide_eq_true_iff
structure Ag(t:gA) (p:Nat) (u:gA) (q m:Nat):Prop where
 lt:p+m<=t.length
 lu:q+m<=u.length
 eq:∀j,j<m->t.getD (p+j) 0=u.getD (q+j) 0
 stop:q+m=u.length\/pD (u.getD (q+m) 0) =true
section
variable {t u:gA} {p q m:Nat}
theorem Xy{t:gA} {i:Nat} (h:iv t i≠i):i<t.length/\bq (t.getD i 0) =true:=by
 rcases d7 i t.length with a|a
 . refine⟨a,?_⟩;cases d:bq (t.getD i 0) with
   |true=>rfl
   |false=>exact absurd (sD (.inr d)) h
 . exact absurd (sD (.inl a)) h
theorem Xz{t:gA} {i:Nat} (hi:i<t.length) (h:iv t i=i):bq (t.getD i 0) =false:=by
 cases d:bq (t.getD i 0) with
 |false=>rfl
 |true=>
   have:=uI hi d;have:=(qR t (i+1)).1;omega
theorem Ox{b:UInt8} (h:pD b=true):bq b=false:=by
 rw[vV];have:=MN.1 h;omega
theorem Ag.run(A:Ag t p u q m):∀(d j k:Nat),k-j<=d->j<=k->k<=m->iv t (p+j) =p+k->iv u (q+j) =q+k
 |d,j,k,hd,hjk,hkm,h=>by
   have hlt:=A.lt;have hlu:=A.lu;by_cases e:j=k
   . subst e;refine sD ?_;by_cases hm:j<m
     . right;rw[<-A.eq j hm];exact Xz (by omega) h
     . obtain rfl:j=m:=by omega
       rcases A.stop with s|s
       . left;omega
       . right;exact Ox s
   . obtain⟨h1,h2⟩:=Xy (t:=t) (i:=p+j) (by omega);have h3:=uI h1 h2;rw[h] at h3;have h4:bq (u.getD (q+j) 0) =true:=by rw[<-A.eq j (by omega)];exact h2
     rw[uI (by omega) h4]
     match d with
     |0=>omega
     |d+1=>exact A.run d (j+1) k (by omega) (by omega) hkm h3.symm
theorem Ag.one(A:Ag t p u q m) {j a b:Nat} (hj:j<m):dj u (q+j) a b=dj t (p+j) a b:=by
 have hlt:=A.lt;have hlu:=A.lu;unfold dj;rw[A.eq j hj,decide_eq_true (show q+j<u.length by omega),decide_eq_true (show p+j<t.length by omega)]
theorem Ag.LH(A:Ag t p u q m) {a b:Nat} (ha:a≠32/\a≠9/\a≠10/\a≠13/\a≠44/\a≠93/\a≠125) (hb:b≠32/\b≠9/\b≠10/\b≠13/\b≠44/\b≠93/\b≠125):dj u (q+m) a b=false:=by
 rw[A4];rcases A.stop with s|s
 . omega
 . have:=MN.1 s;omega
theorem Ag.qG(A:Ag t p u q m) {j k:Nat} (hj:j<=m) (hk:k<=m) (h:dG t (p+j) =(p+k,0)):j<k/\dG u (q+j) =(q+k,0):=by
 have hr:=qR t (p+j);unfold dG at h;by_cases a:iv t (p+j)>p+j
 . rw[if_pos a] at h;have h:=congrArg Prod.fst h;simp only at h;have r:=A.run (k-j) j k (cb _) (by omega) hk h;refine⟨by omega,?_⟩;unfold dG;rw[if_pos (by omega),r]
 . rw[if_neg a] at h;split at h
   . have:=congrArg Prod.snd h;simp at this
   . have:=congrArg Prod.snd h;simp at this
theorem Ag.sgn(A:Ag t p u q m) {j a b:Nat} (hj:j<m):∃s,j<=s/\bL t (p+j) a b=p+s/\bL u (q+j) a b=q+s:=by
 unfold bL;rw[A.one hj];split
 . exact⟨j+1,by omega,rfl,rfl⟩
 . exact⟨j,cb _,rfl,rfl⟩
theorem Ag.whole(A:Ag t p u q m) {k:Nat} (h0:0<m) (hk:k<=m) (h:aP t p=(p+k,0)):aP u q=(q+k,0):=by
 obtain⟨s,s1,s2,s3⟩:=A.sgn (j:=0) (a:=45) (b:=45) h0;have s2:bL t p 45 45=p+s:=s2;have s3:bL u q 45 45=q+s:=s3;have sb:bL t p 45 45<=p+1:=by unfold bL;split<;>omega
 unfold aP at h⊢;rw[s2] at h sb;rw[s3];by_cases c:dj t (p+s) 48 48=true
 . rw[if_pos c] at h;have h:=congrArg Prod.fst h;simp only at h;rw[if_pos (by rw[A.one (by omega)];exact c)];exact Prod.ext (by show q+s+1=q+k;omega) rfl
 . rw[if_neg c] at h;obtain⟨n1,n2⟩:=A.qG (j:=s) (by omega) hk h;rw[if_neg (by rw[A.one (by omega)];exact c)];exact n2
theorem Ag.behind(A:Ag t p u q m) {i k:Nat} (hi:i<=m) (hk:k<=m) (h:bT t (p+i,0) =(p+k,0)):i<=k/\bT u (q+i,0) =(q+k,0):=by
 unfold bT at h⊢;by_cases c:dj t (p+i) 46 46=true
 . rw[if_pos ⟨rfl,c⟩] at h;have hr:=qR t (p+i+1);have hn:dG t (p+(i+1)) =(p+k,0):=h;by_cases im:i<m
   . obtain⟨n1,n2⟩:=A.qG (j:=i+1) (by omega) hk hn;rw[if_pos ⟨rfl,by rw[A.one im];exact c⟩];exact⟨by omega,n2⟩
   . exfalso;unfold dG at hn;by_cases a:iv t (p+(i+1))>p+(i+1)
     . rw[if_pos a] at hn;have:=congrArg Prod.fst hn;simp only at this;omega
     . rw[if_neg a] at hn;split at hn<;>(have:=congrArg Prod.snd hn;simp at this)
 . rw[if_neg (fun x=>c x.2)] at h;have h:=congrArg Prod.fst h;simp only at h;obtain rfl:i=k:=by omega
   refine⟨cb _,?_⟩;rw[if_neg];intro x;by_cases im:i<m
   . have:=x.2;rw[A.one im] at this;exact c this
   . obtain rfl:i=m:=by omega
     have:=x.2;rw[A.LH (by decide) (by decide)] at this;cases this
theorem Ag.qM(A:Ag t p u q m) {i:Nat} (hi:i<=m) (h:ke t (p+i,0) =(p+m,0)):ke u (q+i,0) =(q+m,0):=by
 unfold ke at h⊢;by_cases c:dj t (p+i) 101 69=true
 . rw[if_pos ⟨rfl,c⟩] at h;have hsg:∀j,j<=bL t j 43 45:=fun j=>by unfold bL;split<;>omega
   have far:m<i+2->False:=fun hm=>by
    have hr:=hsg (p+i+1);have h:dG t (bL t (p+i+1) 43 45) =(p+m,0):=h;unfold dG at h;by_cases a:iv t (bL t (p+i+1) 43 45)>bL t (p+i+1) 43 45
    . rw[if_pos a] at h;have:=congrArg Prod.fst h;simp only at this;omega
    . rw[if_neg a] at h;split at h<;>(have:=congrArg Prod.snd h;simp at this)
   have im:i+1<m:=by rcases d7 (i+1) m with x|x;exact x;exact(far (by omega)).elim
   obtain⟨s,s1,s2,s3⟩:=A.sgn (j:=i+1) (a:=43) (b:=45) im;have s2:bL t (p+i+1) 43 45=p+s:=s2;have s3:bL u (q+i+1) 43 45=q+s:=s3;have h:dG t (bL t (p+i+1) 43 45) =(p+m,0):=h;rw[s2] at h;have sm:s<=m:=by
    have:=hsg (p+i+1);rw[s2] at this;have sb:bL t (p+i+1) 43 45<=p+i+1+1:=by unfold bL;split<;>omega
    rw[s2] at sb;omega
   obtain⟨n1,n2⟩:=A.qG sm (cb _) h;rw[if_pos ⟨rfl,by rw[A.one (by omega)];exact c⟩];show dG u (bL u (q+i+1) 43 45) =_;rw[s3];exact n2
 . rw[if_neg (fun x=>c x.2)] at h;have h:=congrArg Prod.fst h;simp only at h;obtain rfl:i=m:=by omega
   rw[if_neg];intro x;have:=x.2;rw[A.LH (by decide) (by decide)] at this;cases this
theorem code0{x:Nat×Int} (h:(bT t x).2=0):x.2=0:=by
 unfold bT at h;split at h
 . rename_i c;exact c.1
 . exact h
theorem code1{x:Nat×Int} (h:(ke t x).2=0):x.2=0:=by
 unfold ke at h;split at h
 . rename_i c;exact c.1
 . exact h
theorem Ag.num(A:Ag t p u q m) (h0:0<m) (h:cE t p=(p+m,0)):cE u q=(q+m,0):=by
 have hlt:=A.lt;unfold cE at h⊢;have c1:=code1 (t:=t) (x:=bT t (aP t p)) (by rw[h]);have c0:=code0 c1;have w1:p<=(aP t p).1:=by
  have:=sE t p 45 45 (by omega);unfold aP;split
  . show p<=bL t p 45 45+1;omega
  . have:=qH t _ this.2;omega
 have b1:(aP t p).1<=(bT t (aP t p)).1:=by
  generalize aP t p=x at*;unfold bT;split
  . have:=(qR t (x.1+1)).1;unfold dG;repeat' split
    all_goals (dsimp only;omega)
  . exact cb _
 have d1:(bT t (aP t p)).1<=p+m:=by
  have e:(ke t (bT t (aP t p))).1=p+m:=by rw[h]
  rw[<-e];generalize bT t (aP t p) =x at*;unfold ke;split
  . have h1:x.1+1<=bL t (x.1+1) 43 45:=by unfold bL;split<;>omega
    have h2:=(qR t (bL t (x.1+1) 43 45)).1;unfold dG;repeat' split
    all_goals (dsimp only;omega)
  . exact cb _
 obtain⟨k1,e1⟩:∃k,(aP t p).1=p+k:=⟨(aP t p).1-p,by omega⟩
 obtain⟨k2,e2⟩:∃k,(bT t (aP t p)).1=p+k:=⟨(bT t (aP t p)).1-p,by omega⟩
 have hw:aP t p=(p+k1,0):=Prod.ext e1 c0;have hb:bT t (aP t p) =(p+k2,0):=Prod.ext e2 c1;have w:=A.whole h0 (by omega) hw;rw[hw] at hb;have b:=(A.behind (i:=k1) (by omega) (by omega) hb).2;rw[w,b];rw[hw,hb] at h;exact A.qM (by omega) h
end
def isNum(x:gA):Prop:=0<x.length/\cE x 0=(x.length,0)/\((x.getD 0 0).toNat=45\/bq (x.getD 0 0) =true)
def nQ(t:Tk):Prop:=(t.k=115/\cG t.t)\/(t.k=110/\isNum t.t)\/(ec t.k=true/\t.t=[])\/((t.k=116\/t.k=102\/t.k=122)/\t.t=[])
theorem MV{t:gA} {i j k:Nat} (h:i+k<j):(sub t i j).getD k 0=t.getD (i+k) 0:=by
 unfold sub;rw[IV,getD_take h]
theorem Tv{t:gA} {i:Nat} (hi:i<=t.length) (h:(cE t i).2=0) (hf:(t.getD i 0).toNat=45\/bq (t.getD i 0) =true):isNum (sub t i (cE t i).1):=by
 have h1:=Lu t i hi h;have h2:=zW t i hi;generalize hR:cE t i=R at*;have hl:=vb (t:=t) (i:=i) h2.2;have A:Ag t i (sub t i R.1) 0 (R.1-i):=⟨by omega,by omega,fun j hj=>by rw[Nat.zero_add,MV (by omega)],.inl (by omega)⟩
 refine⟨by omega,?_,?_⟩
 . have:=A.num (by omega) (by rw[hR];exact Prod.ext (by show R.1=i+(R.1-i);omega) h);rw[this,hl,Nat.zero_add]
 . rw[MV (by omega),Nat.add_zero];exact hf
theorem VO{c:Cu} (hk:c.ok) (h:c.cg.2.k≠0):nQ c.cg.2:=by
 have hc:=VM h;have hl:=ja hk;unfold Cu.cg at h hc⊢;by_cases h0:c.c≠0
 . rw[if_pos h0] at h;exact absurd rfl h
 rw[if_neg h0] at h hc⊢;have hr:=xD dx c.ai c.p;have hp:=hk.1;have hd:Cu.ok {c with p:=dP dx c.ai c.p}:=⟨by show dP dx c.ai c.p<=c.e;omega,hk.2⟩
 have e3:({c with p:=dP dx c.ai c.p}:Cu).c=0:=by show c.c=0;omega
 generalize ({c with p:=dP dx c.ai c.p}:Cu) =d at*;have hdl:=ja hd;have hw:∀k:UInt8,(k=116\/k=102\/k=122)->(d.fv k).2.k≠0->nQ (d.fv k).2:=fun k hk h=>by
  unfold Cu.fv at h⊢;by_cases z:jG d (spell k) 0≠0
  . rw[if_pos z] at h;exact absurd rfl h
  . rw[if_neg z];exact .inr (.inr (.inr ⟨hk,rfl⟩))
 unfold Cu.j8 at h hc⊢;by_cases a:d.p=d.e
 . rw[if_pos a] at h;exact absurd rfl h
 rw[if_neg a] at h hc⊢;have hlt:d.p<d.e:=by have:=hd.1;omega
 by_cases b:ec d.get=true
 . rw[if_pos b];exact .inr (.inr (.inl ⟨b,rfl⟩))
 rw[if_neg b] at h hc⊢;by_cases g:d.get.toNat=34
 . rw[if_pos g] at h hc⊢;have hc:d.jB.1.c=0:=hc;unfold held;rw[if_pos hc];exact .inl ⟨rfl,Xr e3 hc⟩
 rw[if_neg g] at h hc⊢;by_cases f:d.get.toNat=45\/bq d.get=true
 . rw[if_pos f] at h hc⊢;have hc:d.mP.1.c=0:=hc;unfold held;rw[if_pos hc];unfold Cu.mP at hc⊢;rw[if_neg (by omega)] at hc⊢;by_cases z:(cE d.ai d.p).2=0
   . rw[if_neg (by omega)];have hg:d.ai.getD d.p 0=d.get:=by unfold Cu.ai;exact getD_take hlt
     have:=Tv (t:=d.ai) (i:=d.p) (by omega) z (by rw[hg];exact f);rw[MX (by have:=(zW d.ai d.p (by omega)).2;omega)] at this;exact .inr (.inl ⟨rfl,this⟩)
   . rw[if_pos z,jJ _ e3] at hc;exact absurd hc z
 rw[if_neg f] at h hc⊢;by_cases w:d.get.toNat=116\/d.get.toNat=102
 . rw[if_pos w] at h⊢;refine hw _ ?_ h;rcases w with w|w
   . exact .inl (UInt8.toNat_inj.1 w)
   . exact .inr (.inl (UInt8.toNat_inj.1 w))
 rw[if_neg w] at h hc⊢;by_cases v:d.get.toNat=110
 . rw[if_pos v] at h⊢;exact hw _ (.inr (.inr rfl)) h
 rw[if_neg v] at h;exact absurd rfl h
theorem NI(d:Cu):∀(s r:gA) (i:Nat),d.s.drop (d.p+i) =s++r->d.e=d.s.length->jG d s i=0
 |[],_,_,_,_=>rfl
 |b::s,r,i,h,he=>by
   have hl:=congrArg List.length h;rw[d9] at hl;simp at hl;have h0:d.s.getD (d.p+i) 0=b:=jH h 0;unfold jG;rw[if_neg (by omega),if_neg (fun x=>x h0)];refine NI d s r (i+1) ?_ he;rw[show d.p+(i+1) =(d.p+i)+1 from rfl,<-List.drop_drop,h];rfl
theorem N2{t:Tk} (h:nQ t):0<(fP t).length/\dx ((fP t).getD 0 0) =false:=by
 obtain⟨k,x⟩:=t;rcases h with ⟨rfl,h⟩|⟨rfl,h⟩|⟨h,rfl⟩|⟨h,rfl⟩
 . exact⟨by show 0<(quote x).length;simp[quote],by show dx 34=false;decide⟩
 . obtain⟨n1,n2,n3⟩:=(show isNum x from h)
   refine⟨n1,?_⟩;show dx (x.getD 0 0) =false;rw[C8];rcases n3 with z|z
   . omega
   . have:=oP.1 z;omega
 . have hs:k.toNat=123\/k.toNat=125\/k.toNat=91\/k.toNat=93\/k.toNat=58\/k.toNat=44:=of_decide_eq_true h;have e:fP ⟨k,[]⟩=[k]:=by
    rw[show fP ⟨k,[]⟩=if k.toNat=115 then quote [] else if k.toNat=110 then[] else if ec k=true then[k] else spell k from rfl,if_neg (by omega),if_neg (by omega),if_pos h]
   rw[e];refine⟨by simp,?_⟩;show dx k=false;rw[C8];omega
 . rcases h with rfl|rfl|rfl<;>decide
theorem Z0{d:Cu} {t:Tk} {r:gA} (he:d.e=d.s.length) (h0:d.c=0) (hd:d.s.drop d.p=fP t++r) (ht:nQ t) (hs:t.k=110->r=[]\/pD (r.getD 0 0) =true):
   d.j8=({d with p:=d.p+(fP t).length},t):=by
 have hl:=congrArg List.length hd;rw[d9,an] at hl;have hpos:=(N2 ht).1;have htx:d.ai=d.s:=by unfold Cu.ai;rw[he,List.take_length]
 have hat:∀k,k<(fP t).length->d.s.getD (d.p+k) 0=(fP t).getD k 0:=fun k hk=>by rw[jH hd k,p5 hk]
 have hbat:d.s.getD (d.p+(fP t).length) 0=r.getD 0 0:=by
  rw[jH hd,ac,dt (cb _)];simp
 obtain⟨k,x⟩:=t;unfold Cu.j8;rw[if_neg (show¬d.p=d.e by omega)];have hget:d.get=d.s.getD (d.p+0) 0:=rfl;rcases ht with ⟨rfl,h⟩|⟨rfl,h⟩|⟨h,rfl⟩|⟨h,rfl⟩
 . have e:fP ⟨115,x⟩=quote x:=rfl;rw[e] at hd hat hl hbat hpos⊢;have g:d.get=34:=by rw[hget,hat 0 (by simp[quote])];rfl
   rw[g,if_neg (by decide),if_pos (by decide)];have hd1:d.s.drop (d.p+1) =eR x++34::r:=by
    rw[<-List.drop_drop,hd];simp[quote]
   have hq:=T9 h d.s r [] (d.e-d.p) (d.p+1) hd1 (by omega);have hrd:d.jB=({d with p:=d.p+(quote x).length},x):=by
    unfold Cu.jB;rw[if_neg (by omega),if_neg (by omega),if_neg (by rw[g];decide),he,List.take_length,<-he,hq,if_pos rfl];refine Prod.ext ?_ (by simp);simp only[quote,List.length_cons,an,List.length_nil]
    congr 1
    omega
   unfold held;rw[hrd,if_pos h0]
 . have e:fP ⟨110,x⟩=x:=rfl;rw[e] at hd hat hl hbat hpos⊢;obtain⟨n1,n2,n3⟩:=(show isNum x from h)
   have g:d.get=x.getD 0 0:=by rw[hget,hat 0 n1]
   have gs:¬ec d.get=true:=fun q=>by
    have q:d.get.toNat=123\/d.get.toNat=125\/d.get.toNat=91\/d.get.toNat=93\/d.get.toNat=58\/d.get.toNat=44:=of_decide_eq_true q;rw[g] at q;rcases n3 with z|z
    . omega
    . have:=oP.1 z;omega
   have gq:¬d.get.toNat=34:=fun q=>by
    rw[g] at q;rcases n3 with z|z
    . omega
    . have:=oP.1 z;omega
   rw[if_neg gs,if_neg gq,if_pos (by rw[g];exact n3)];have A:Ag x 0 d.s d.p x.length:=⟨by omega,by omega,fun j hj=>by rw[Nat.zero_add,hat j hj],by
    rcases hs rfl with z|z
    . subst z;simp at hl;left;omega
    . right;rw[hbat];exact z⟩
   have hn:=A.num n1 (by rw[n2,Nat.zero_add]);have hsub:sub d.s d.p (d.p+x.length) =x:=by unfold sub;rw[List.drop_take,hd,Nat.add_sub_cancel_left,List.take_left]
   have hnd:d.mP=({d with p:=d.p+x.length},x):=by
    unfold Cu.mP;rw[htx,hn,if_neg (by omega),if_neg (by simp),hsub]
   unfold held;rw[hnd,if_pos h0]
 . have hs:k.toNat=123\/k.toNat=125\/k.toNat=91\/k.toNat=93\/k.toNat=58\/k.toNat=44:=of_decide_eq_true h;have e:fP ⟨k,[]⟩=[k]:=by
    rw[show fP ⟨k,[]⟩=if k.toNat=115 then quote [] else if k.toNat=110 then[] else if ec k=true then[k] else spell k from rfl,if_neg (by omega),if_neg (by omega),if_pos h]
   rw[e] at hd hat hl hbat hpos⊢;have g:d.get=k:=by rw[hget,hat 0 (by simp)];rfl
   rw[g,if_pos h];rfl
 . have e:fP ⟨k,[]⟩=spell k:=by
     rcases h with rfl|rfl|rfl<;>decide
   rw[e] at hd hat hl hbat hpos⊢;have hw:=NI d (spell k) r 0 hd he;have fin:d.fv k=({d with p:=d.p+(spell k).length},⟨k,[]⟩):=by
    unfold Cu.fv;rw[if_neg (by omega)]
   have g:d.get=(spell k).getD 0 0:=by rw[hget,hat 0 (by rcases h with rfl|rfl|rfl<;>decide)]
   rcases h with rfl|rfl|rfl
   . rw[show d.get=116 from g,if_neg (by decide),if_neg (by decide),if_neg (by decide),if_pos (by decide)];exact fin
   . rw[show d.get=102 from g,if_neg (by decide),if_neg (by decide),if_neg (by decide),if_pos (by decide)];exact fin
   . rw[show d.get=110 from g,if_neg (by decide),if_neg (by decide),if_neg (by decide),if_neg (by decide),if_pos (by decide)];exact fin
theorem Xq{c:Cu} (hk:c.ok):c.jB.2.length<=4*c.s.length:=by
 have h1:=hk.1;have h2:=hk.2;have h3:=J6 (c.s.take c.e) (c.e-c.p) (c.p+1) [];rw[List.length_nil] at h3;unfold Cu.jB;repeat' split
 all_goals first
  |(show(dI (c.s.take c.e) (c.e-c.p) (c.p+1) []).2.2.length<=_;omega)
  |(show([]:gA).length<=_;simp)
theorem Jg{x:CO} {k:UInt8} {n:Nat} (h:x.2.length<=n):(held x k).2.t.length<=n:=by
 unfold held;by_cases a:x.1.c=0
 . rw[if_pos a];exact h
 . rw[if_neg a];exact bu _
theorem YY{c:Cu} (hk:c.ok):c.j8.2.t.length<=4*c.s.length:=by
 have hr:=Xq hk;have hn:c.mP.2.length<=4*c.s.length:=by
  unfold Cu.mP;repeat' split
  all_goals first
   |(show([]:gA).length<=_;simp;done)
   |(show(sub _ _ _).length<=_;unfold sub;rw[d9,d8];omega)
 have hw:∀k,(c.fv k).2.t.length<=4*c.s.length:=fun k=>by
  unfold Cu.fv;split<;>(show([]:gA).length<=_;simp)
 unfold Cu.j8;repeat' split
 all_goals first
  |exact Jg hr
  |exact Jg hn
  |exact hw _
  |(show([]:gA).length<=_;simp)
theorem VN{c:Cu} (hk:c.ok):c.cg.2.t.length<=4*c.s.length:=by
 unfold Cu.cg;split
 . exact bu _
 . have hr:=xD dx c.ai c.p;have hl:=ja hk;have hp:=hk.1;exact YY (c:={c with p:=dP dx c.ai c.p}) ⟨by show dP dx c.ai c.p<=c.e;omega,hk.2⟩
end Go.Proofs.YtchllohbglebiaaGreatDoor
