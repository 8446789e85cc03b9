/-
  A part of the proof.
-/
import Derived.Test.YtchllohbglebiaaGreatDoorVgX
set_option linter.unusedSimpArgs false
set_option linter.unusedVariables false
namespace Go.VG
open Go

structure ae(A:Prop):Prop where
 h:A

theorem af{A B:Prop} (h:ae A) (k:B):A/\B:=⟨h.h,k⟩
theorem fF{b:Bool} {A B:Prop} (h1:b=true->A) (h2:b=false->B):dY b A B:=by cases b<;>simp_all[dY]
theorem av{p:Prop} {d:Decidable p} {A B:Prop} (h1:p->A) (h2:¬p->B):dY (@decide p d) A B:=fF (fun h=>h1 (by simpa using h)) (fun h=>h2 (by simpa using h))
theorem go7{a b:Int} {A B:Prop} (h1:a=b->A) (h2:a≠b->B):dY (a==b) A B:=fF (fun h=>h1 (by simpa using h)) (fun h=>h2 (by simpa using h))
theorem go8{a b:Int} {A B:Prop} (h1:a≠b->A) (h2:a=b->B):dY (a !=b) A B:=fF (fun h=>h1 (by simpa using h)) (fun h=>h2 (by simpa using h))
theorem gI{a b:gA} {A B:Prop} (h1:a=b->A) (h2:a≠b->B):dY (a==b) A B:=fF (fun h=>h1 (by simpa using h)) (fun h=>h2 (by simpa using h))
theorem aK{b:Bool} {A B:Prop} (h:dY b B A):dY (!b) A B:=by cases b<;>exact h
theorem fE{b:Bool} {A:Prop} (h1:ae (b=true)) (h2:A):mh b A:=by
 obtain⟨h⟩:=h1;subst h;exact h2
theorem qn{α:Type} {l:List α} {n:Nat} {K:α->Prop} (h1:ae (n<l.length)) (h2:∀a,l[n]?=some a->K a):iB l n K:=
 ⟨l[n]'h1.h,am h1.h,h2 _ (am h1.h)⟩
theorem lG{s:gA} {n:Nat} {K:UInt8->Prop} (h1:ae (n<s.length)) (h2:(s.getD n 0).toNat<256->K (s.getD n 0)):iB s n K:=
 qn h1 fun a ha=>by rw[ac,ha] at h2;exact h2 (UInt8.toNat_lt _)
theorem fG{s:gA} {n:Nat} {K:UInt8->Prop} (h1:ae (n<s.length)) (h2:(s.getD n 0).toNat<256->K (s.getD n 0)):iB s (n:Int).toNat K:=lG h1 h2
theorem Ju{α γ:Type} {l:List α} {e:α->γ} {n:Nat} {K:γ->Prop} (h1:ae (n<l.length)) (h2:∀a,l[n]?=some a->K (e a)):iB (l.map e) n K:=by
 refine qn ⟨by simpa using h1.h⟩ fun a ha=>?_;simp only[List.getElem?_map,Option.map_eq_some_iff] at ha;obtain⟨b,hb,rfl⟩:=ha;exact h2 b hb
theorem vK(s:gA):bl s=s.map bv:=by induction s<;>simp_all[bl]
theorem goC{s:gA} {n:Nat} {K:V->Prop} (h1:ae (n<s.length)) (h2:(s.getD n 0).toNat<256->K (.int .u8 (s.getD n 0).toNat)):iB (bl s) n K:=by
 rw[vK];exact Ju h1 fun a ha=>by rw[ac,ha] at h2;exact h2 (UInt8.toNat_lt _)
theorem goB{s:gA} {n:Nat} {K:V->Prop} (h1:ae (n<s.length)) (h2:(s.getD n 0).toNat<256->K (.int .u8 (s.getD n 0).toNat)):iB (bl s) (n:Int).toNat K:=goC h1 h2
theorem kH{α γ:Type} [Inhabited α] {l:List α} {e:α->γ} {n:Nat} {K:γ->Prop} (h1:ae (n<l.length)) (h2:K (e (l.getD n default))):iB (l.map e) n K:=
 Ju h1 fun a ha=>by rw[ac,ha] at h2;exact h2
theorem lZ{α γ:Type} [Inhabited α] {l:List α} {e:α->γ} {n:Nat} {K:γ->Prop} (h1:ae (n<l.length)) (h2:K (e (l.getD n default))):iB (l.map e) (n:Int).toNat K:=kH h1 h2
theorem eE(s t:gA):bl (s++t) =bl s++bl t:=by simp[vK]
theorem Ou(s:gA) (n:Nat):(bl s).drop n=bl (s.drop n):=by simp[vK]
theorem oc{s:gA} {Q:gA->Prop} (h:Q s):∃a,bl s=bl a/\Q a:=⟨s,rfl,h⟩
def byte(n:Int):UInt8:=.ofNat n.toNat
theorem eO{n:Int} (h:0<=n/\n<=255):((byte n).toNat:Int) =n:=by
 simp only[byte,UInt8.toNat_ofNat'];omega
theorem eX(b:UInt8):byte b.toNat=b:=by
 have:=eO (n:=b.toNat) (by have:=b.toNat_lt;omega);exact UInt8.toNat_inj.1 (by omega)
theorem goJ{n:Int} {Q:gA->Prop} (h1:ae (0<=n/\n<=255)) (h:Q [byte n]):∃a,[V.int .u8 n]=bl a/\Q a:=⟨_,by simp[bl,bv,eO h1.h],h⟩
theorem goK{n m:Int} {Q:gA->Prop} (h1:ae (0<=n/\n<=255)) (h2:ae (0<=m/\m<=255)) (h:Q [byte n,byte m]):∃a,[V.int .u8 n,V.int .u8 m]=bl a/\Q a:=⟨_,by simp[bl,bv,eO h1.h,eO h2.h],h⟩
theorem goL{n m k:Int} {Q:gA->Prop} (h1:ae (0<=n/\n<=255)) (h2:ae (0<=m/\m<=255)) (h3:ae (0<=k/\k<=255)) (h:Q [byte n,byte m,byte k]):∃a,[V.int .u8 n,V.int .u8 m,V.int .u8 k]=bl a/\Q a:=
 ⟨_,by simp[bl,bv,eO h1.h,eO h2.h,eO h3.h],h⟩
theorem goM{n m k l:Int} {Q:gA->Prop} (h1:ae (0<=n/\n<=255)) (h2:ae (0<=m/\m<=255)) (h3:ae (0<=k/\k<=255)) (h4:ae (0<=l/\l<=255)) (h:Q [byte n,byte m,byte k,byte l]):
   ∃a,[V.int .u8 n,V.int .u8 m,V.int .u8 k,V.int .u8 l]=bl a/\Q a:=
 ⟨_,by simp[bl,bv,eO h1.h,eO h2.h,eO h3.h,eO h4.h],h⟩
theorem sS(n:Int):IntKind.u8.wrap n=n%256:=rfl
theorem wu16(n:Int):IntKind.u16.wrap n=n%65536:=rfl
theorem wu32(n:Int):IntKind.u32.wrap n=n%4294967296:=rfl
theorem kj(n:Int):IntKind.u64.wrap n=n%18446744073709551616:=rfl
theorem bX(n:Int):IntKind.i64.wrap n=(n+9223372036854775808)%18446744073709551616-9223372036854775808:=by
 show(if true&&decide (n%18446744073709551616>=9223372036854775808) then n%18446744073709551616-18446744073709551616 else n%18446744073709551616) =_;simp only[Bool.true_and,decide_eq_true_eq];split<;>omega
theorem sR(n:Int):IntKind.i32.wrap n=(n+2147483648)%4294967296-2147483648:=by
 show(if true&&decide (n%4294967296>=2147483648) then n%4294967296-4294967296 else n%4294967296) =_;simp only[Bool.true_and,decide_eq_true_eq];split<;>omega
theorem wR:(∀n,IntKind.u8.wrap n=n%256)/\(∀n,IntKind.u16.wrap n=n%65536)/\(∀n,IntKind.u32.wrap n=n%4294967296)/\(∀n,IntKind.u64.wrap n=n%18446744073709551616)/\
   (∀n,IntKind.i32.wrap n=(n+2147483648)%4294967296-2147483648)/\(∀n,IntKind.i64.wrap n=(n+9223372036854775808)%18446744073709551616-9223372036854775808)/\
   (∀{a b:Int},0<=a->a.tdiv b=a/b)/\(∀{a b:Int},0<=a->a.tmod b=a%b):=
 ⟨sS,wu16,wu32,kj,sR,bX,fun h=>Int.tdiv_eq_ediv_of_nonneg h,fun h=>Int.tmod_eq_emod_of_nonneg h⟩
theorem fi:(∀{α:Type} {a b:List α},(a++b).length=a.length+b.length)/\(∀{α:Type} {x:α} {a:List α},(x::a).length=a.length+1)/\(∀{α:Type},([]:List α).length=0)/\(∀s,(bl s).length=s.length)/\
   (∀{α:Type} {i:Nat} {a:List α},(a.take i).length=min i a.length)/\(∀{α:Type} {i:Nat} {a:List α},(a.drop i).length=a.length-i):=
 ⟨an,List.length_cons,List.length_nil,je,d8,d9⟩
theorem vR{α:Type} {l:List α} {n:Nat} (d:α) (h:n<l.length):(l.take (n+1)).drop n=[l.getD n d]:=by
 rw[List.drop_take,show n+1-n=1 by omega];rw[ac,am h];rw[List.drop_eq_getElem_cons h];rfl
theorem sM{s:gA} {i:Nat} (h:i<s.length):s.take (i+1) =s.take i++[s.getD i 0]:=by
 rw[List.take_add_one,ac,am h];rfl
theorem yE{α:Type} {x y:α} {xs ys:List α} (h:x=y) (k:xs=ys):x::xs=y::ys:=by rw[h,k]
theorem zd(k:IntKind) (n b:Nat):m9 k n b=((n/2^(min b k.bits):Nat):Int):=by
 unfold m9;rw[show((b:Int)).toNat=b from rfl,Int.fdiv_eq_ediv_of_nonneg _ (by exact_mod_cast bu _)];simp
theorem Tm(n:Nat) (h:n<256):qu .u8 n 15=((n%16:Nat):Int):=by
 show IntKind.u8.wrap ((BitVec.ofInt 8 (n:Int)&&&BitVec.ofInt 8 15).toNat:Int) =_;rw[sS,BitVec.ofInt_natCast,show BitVec.ofInt 8 15=BitVec.ofNat 8 15 from rfl,BitVec.toNat_and,BitVec.toNat_ofNat,BitVec.toNat_ofNat,Nat.mod_eq_of_lt h,
  show n&&&15%2^8=n%16 from Nat.and_two_pow_sub_one_eq_mod n 4]
 omega
theorem Mp{x:V}:∀{cs:List V} {n:Nat},n<cs.length->jM cs n [x]=some (cs.set n x)
 |[],n,h=>by simp at h
 |y::cs,0,_=>by simp[jM]
 |y::cs,n+1,h=>by simp only[jM];rw[Mp (cs:=cs) (by simpa using h)];simp
theorem goN{cs:List V} {n:Nat} {x:V} {K:List V->Prop} (h1:ae (n<cs.length)) (h2:K (cs.set n x)):iu (jM cs n [x]) K:=by rw[Mp h1.h];exact h2
theorem N0:∀{cs:List V} {m:Nat},m<=cs.length->jO cs m=some (cs.take m)
 |cs,0,_=>by cases cs<;>simp[jO]
 |[],m+1,h=>by simp at h
 |c::cs,m+1,h=>by simp only[jO];rw[N0 (cs:=cs) (by simpa using h)];simp
theorem goO{cs:List V} {a m:Nat} {K:List V->Prop} (h1:ae (a+m<=cs.length)) (h2:K ((cs.drop a).take m)):iu (jO (ly cs a) m) K:=by
 rw[vW,N0 (by simp;have:=h1.h;omega)];exact h2
theorem goP{l:List V} {K:List V->Prop} (h:K l):ia l K:=by rw[mH];exact h
theorem X8(s:gA):V.gd (bl s) =true:=by induction s<;>simp_all[bl,bv,V.gd,V.pure]
theorem Wh(s:gA):eG (bl s) =true:=by induction s<;>simp_all[bl,bv,eG,V.one]
theorem go1{P:Nat×Int->Prop} {o:Option (Nat×Int)} {Q:Prop} (h:∀j q,o=some (j,q)->P (j,q)) (k:o=none->Q):(∀a,o=some a->P a)/\(o=none->Q):=⟨fun⟨j,q⟩ e=>h j q e,k⟩
theorem go2{bs bs':List Nat} {ck ck':Nat} {left:List Nat} {A:Prop} {B:Nat->Prop} (h0:bs'=bs/\ck'=ck) (h1:left=[]->A) (h2:∀j,j∈left->B j):
 (bs'=bs/\ck'=ck)/\(left=[]->A)/\(∀j,j∈left->B j):=⟨h0,h1,h2⟩
theorem Yr(s:gA) (n:Nat):V.oC n (bl s) =true:=by induction s<;>simp_all[bl,bv,V.oC,V.il]
theorem Ov(s:gA) (n:Nat) (b:UInt8):(bl s).set n (.int .u8 b.toNat) =bl (s.set n b):=by rw[vK,vK,List.map_set];rfl
def Wk(x y:V):Prop:=∀(st:St) (g:au) (n:Nat) (v:Value),VR st g x n v->VR st g y n v
def ba(xs ys:List V):Prop:=∀(st:St) (g:au) (n:Nat) (vs:List Value),aC st g xs n vs->aC st g ys n vs
theorem Wk.refl(x:V):Wk x x:=fun _ _ _ _ h=>h
theorem ba.nil:ba [] []:=fun _ _ _ _ h=>h
theorem ba.cons{x y:V} {xs ys:List V} (h:Wk x y) (hs:ba xs ys):ba (x::xs) (y::ys):=fun st g n vs k=>by
 simp only[aC] at k⊢;obtain⟨u,us,rfl,h1,h2⟩:=k;exact⟨u,us,rfl,h _ _ _ _ h1,hs _ _ _ _ h2⟩
theorem ba.refl(xs:List V):ba xs xs:=fun _ _ _ _ h=>h
theorem Wk.agg{xs ys:List V} (h:ba xs ys):Wk (.agg xs) (.agg ys):=fun st g n v k=>by
 simp only[VR] at k⊢;obtain⟨vs,rfl,k⟩:=k;exact⟨vs,rfl,h _ _ _ _ k⟩
theorem Wk.tuple{xs ys:List V} (h:ba xs ys):Wk (.tuple xs) (.tuple ys):=fun st g n v k=>by
 simp only[VR] at k⊢;obtain⟨vs,rfl,k⟩:=k;exact⟨vs,rfl,h _ _ _ _ k⟩
theorem Wk.nil{c d:Bool} {sz sz':Nat} (h:c=true\/d=false):Wk (.list c sz []) (.list d sz' []):=fun st g n v k=>by
 simp only[VR] at k⊢;obtain⟨base,cap,rfl,h1,h2,h3,_⟩:=k;refine⟨base,cap,rfl,h1,h2,fun hd=>?_,.inl trivial⟩;rcases h with h|h
 . exact h3 h
 . rw[h] at hd;cases hd
theorem Wk.list{c d:Bool} {sz:Nat} {l m:List V} (hcd:c=true\/d=false) (hl:m.length=l.length) (h:∀(i:Nat) x y,l[i]?=some x->m[i]?=some y->Wk x y):Wk (.list c sz l) (.list d sz m):=fun st g n v k=>by
 simp only[VR] at k⊢;obtain⟨base,cap,rfl,h1,h2,h3,h4⟩:=k;refine⟨base,cap,by rw[hl],by omega,by omega,fun hd=>?_,?_⟩
 . rcases hcd with hc|hc
   . rw[hl];exact h3 hc
   . rw[hc] at hd;cases hd
 . rcases h4 with h4|⟨b,o,h5,h6,h7⟩
   . left;subst h4;exact co (by simpa using hl)
   . right;refine⟨b,o,h5,h6,?_⟩;rw[gV] at h7⊢;intro i y hy;have hi:i<l.length:=by
      rcases d7 i m.length with h'|h'
      . omega
      . simp[ci h'] at hy
     obtain⟨u,q1,q2⟩:=h7 i l[i] (am hi);exact⟨u,h i _ _ (am hi) hy _ _ _ _ q1,q2⟩

theorem eU.args{P:Program} {gl:Nat->Option (List V)} {f:FuncId} {xs ys:List V} {σ:List O} {x:V} {r:Option (List O)} (h:eU P gl f ys σ x r) (k:ba xs ys):eU P gl f xs σ x r:=
 ⟨h.1,fun E st g w vs W hg hv=>h.2 E st g w vs W hg (k _ _ _ _ hv)⟩
theorem eU.res{P:Program} {gl:Nat->Option (List V)} {f:FuncId} {xs:List V} {σ:List O} {x y:V} {r:Option (List O)} (h:eU P gl f xs σ x r) (k:Wk x y):eU P gl f xs σ y r:=
 ⟨h.1,fun E st g w vs W hg hv=>(h.2 E st g w vs W hg hv).mono fun _ _ ⟨v,st',g',h1,h2,h3,h4⟩=>⟨v,st',g',h1,h2,k _ _ _ _ h3,h4⟩⟩

theorem eU.nil{P:Program} {gl:Nat->Option (List V)} {f:FuncId} {xs:List V} {σ σ':List O} {x:V} (k z sz:Nat) (hx:xs[k]?=some (.list true z []))
   (h:eU P gl f (xs.set k (.buf σ.length)) (σ++[.buf (sz+1) 0 []]) x (some σ')):eU P gl f xs σ x (some σ'):=by
 refine⟨h.1,fun E st g w vs W hg hv=>?_⟩;obtain⟨v,hv1,hv2⟩:=jQ hv hx;simp only[VR] at hv2;obtain⟨base,cap,rfl,_,_,hcap,_⟩:=hv2;obtain rfl:cap=0:=by simpa using hcap trivial
 have W2:=W.ghost (base:=base) (sz:=sz+1) (Nat.succ_pos _);have hlen:(σ++[O.buf (sz+1) 0 []]).length=σ.length+1:=by simp
 have hl:=eN hv;refine(h.2 E st _ w vs W2 hg ?_).mono fun e w' ⟨v,st',g',h1,h2,h3,h4,h5,h6⟩=>⟨v,st',g',h1,h2,h3,h4,?_,fun i o ho hor=>?_⟩
 . rw[hlen,jR];refine⟨by simpa using hl,fun i c v hc hvi=>?_⟩;by_cases e:i=k
   . subst e;rw[List.getElem?_set_self (by rcases d7 i xs.length with h'|h';exact h';simp[ci h'] at hx)] at hc;cases hc;rw[hv1] at hvi;cases hvi;simp only[VR];exact⟨Nat.lt_succ_self _,by rw[dU];simp⟩
   . rw[List.getElem?_set_ne (Ne.symm e)] at hc;exact sZ ((jR.1 hv).2 i c v hc hvi)
 . simp only[Option.getD_some] at h5⊢;rw[hlen] at h5;omega
 . have hi:i<σ.length:=by
     rcases d7 i σ.length with h'|h'
     . exact h'
     . simp[ci h'] at ho
   have:=h6 i o (by rw[dl hi];exact ho) hor;rw[this,cK (Nat.ne_of_lt hi)]

def Sm:Type:=List V->List O->Option (Prop×V×Option (List O))
def ye(P:Program) (gl:Nat->Option (List V)) (f:FuncId) (s:Sm):Prop:=∀args sg pre x r,s args sg=some (pre,x,r)->pre->eU P gl f args sg x r
def sm0:Sm:=fun _ _=>none
theorem YA{P:Program} {gl:Nat->Option (List V)} {f:FuncId}:ye P gl f sm0:=fun _ _ _ _ _ h=>by cases h
theorem eF{a b:gA} (h:a=b):V.str a=V.str b:=by rw[h]
theorem aN{k:IntKind} {a b:Int} (h:a=b):V.int k a=V.int k b:=by rw[h]
theorem mE{a b:Bool} (h:a=b):V.bool a=V.bool b:=by rw[h]
theorem bc{n m:Nat} {a b:List V} (h:a=b):O.buf n m a=O.buf n m b:=by rw[h]
theorem jI{a b:List V} (h:a=b):O.cells a=O.cells b:=by rw[h]
theorem nj{c:Bool} {n:Nat} {a b:List V} (h:a=b):V.list c n a=V.list c n b:=by rw[h]
theorem jW{a b:List V} (h:a=b):V.agg a=V.agg b:=by rw[h]
theorem nX{a b:List V} (h:a=b):V.tuple a=V.tuple b:=by rw[h]
theorem cT{α:Type} {x y:α} {xs ys:List α} (h:x=y) (k:xs=ys):x::xs=y::ys:=by rw[h,k]
theorem eqS(s:gA) (n:Nat):V.oC n (bl s) =true:=Yr s n
abbrev dL:Type:=List V->List O->Option (Prop×Prop×V×Option (List O)×V×Option (List O))
def y9(P:Program) (gl:Nat->Option (List V)) (f:FuncId) (s:dL):Prop:=∀args sg pre c u r x r2,s args sg=some (pre,c,u,r,x,r2)->pre->
 (c->∃v,mQ u=some v/\sX P gl f args sg v r)/\(¬c->eU P gl f args sg x r2)
def psm0:dL:=fun _ _=>none
theorem X7{P:Program} {gl:Nat->Option (List V)} {f:FuncId}:y9 P gl f psm0:=fun _ _ _ _ _ _ _ _ h=>by cases h
theorem cM{p c A B:Prop} (h:ae p) (h1:c->A) (h2:¬c->B):((p/\c)\/(p/\¬c))/\((p/\c)->A)/\((p/\¬c)->B):=by
 refine⟨?_,fun q=>h1 q.2,fun q=>h2 q.2⟩;by_cases hc:c
 . exact .inl ⟨h.h,hc⟩
 . exact .inr ⟨h.h,hc⟩
class rn (p:Prop):Prop where
 y:True
instance {a b c d}:rn (aZ a b c d):=⟨trivial⟩
instance {a b c d e}:rn (rk a b c d e):=⟨trivial⟩
instance {a b c d e f}:rn (ab a b c d e f):=⟨trivial⟩
instance {a b c}:rn (bC a b c):=⟨trivial⟩
instance:rn False:=⟨trivial⟩
instance {α} {p:α->Prop}:rn (∃x,p x):=⟨trivial⟩
theorem stay{p:Prop} [rn p] (h:p):p:=h
theorem ah{a b:Prop} (h:a) (k:b):a/\b:=⟨h,k⟩
end Go.VG
namespace Go.VG
open Go
section
variable {H:Type} {ti:TypeId->TI} {f:Nat} {t:TypeId} {d:DataW H} {xs:List V}
theorem OP(hk:(ti t).k=.string) (h:cD ti f t d=some xs):∃s,xs=[.str s]/\d=.lit (.string s):=by
 cases f with
 |zero=>simp[cD] at h
 |succ f=>
   unfold cD at h;rw[hk] at h;split at h<;>simp_all
theorem O9{t:TypeId} {ts:List TypeId} {ds:List (DataW H)} {xs:List V} (h:nM ti (t::ts) ds xs):∃d x ds' xs',ds=d::ds'/\xs=x::xs'/\IsD ti t d x/\nM ti ts ds' xs':=by
 match ds,xs,h with
 |d::ds,x::xs,h=>exact⟨d,x,ds,xs,rfl,rfl,h.1,h.2⟩
 |[],[],h=>exact h.elim
 |[],_::_,h=>exact h.elim
 |_::_,[],h=>exact h.elim
theorem Oa{ds:List (DataW H)} {xs:List V} (h:nM ti [] ds xs):ds=[]/\xs=[]:=by
 match ds,xs,h with
 |[],[],_=>exact⟨rfl,rfl⟩
 |[],_::_,h=>exact h.elim
 |_::_,[],h=>exact h.elim
 |_::_,_::_,h=>exact h.elim
theorem Tu(hk:(ti t).k=.string) {x:V} (h:IsD ti t d x):∃s,x=.str s/\d=.lit (.string s):=by
 obtain⟨f,h⟩:=h;simp only[Option.bind_eq_some_iff] at h;obtain⟨cs,h1,h2⟩:=h;obtain⟨s,rfl,rfl⟩:=OP hk h1;rw[hk] at h2;have h2:some (V.str s) =some x:=h2;cases h2;exact⟨s,rfl,rfl⟩
end
end Go.VG
