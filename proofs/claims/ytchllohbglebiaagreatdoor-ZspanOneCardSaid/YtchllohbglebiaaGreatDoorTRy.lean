/-
  A part of the proof.
-/
import Derived.Test.YtchllohbglebiaaGreatDoorTRb
import Derived.Test.YtchllohbglebiaaGreatDoorJTb
import Derived.Test.YtchllohbglebiaaGreatDoorKD
set_option linter.unusedSimpArgs false
set_option linter.unusedVariables false
set_option maxHeartbeats 4000000
set_option maxRecDepth 100000
namespace Go.Proofs.YtchllohbglebiaaGreatDoor
open Go Go.VG
abbrev It:Type:=List Nd×gA
def kJ(L:List Nd):Nd:=L.getD 0 default
def aJ:List It->List Nd
 |[]=>[]
 |x::l=>x.1++aJ l
def bo(g:It->gA):List It->Nat->gA
 |[],_=>[]
 |x::l,i=>(if i=0 then[] else[44])++(g x++bo g l (i+1))
def eA(x:It):gA:=x.2
def cu(x:It):gA:=quote (kJ x.1).key++([58]++x.2)
def aS(x:It):gA:=(kJ x.1).key
inductive TT:Nat->List Nd->gA->Prop
 |leaf (d:Nat) (k:UInt8) (key t:gA) (h:nQ ⟨k,t⟩) (hl:fI k=true):TT d [⟨k,key,t,1⟩] (fP ⟨k,t⟩)
 |pg (d:Nat) (key:gA) (l:List It) (h:∀x∈l,TT d x.1 x.2) (hk:∀x∈l,aS x=[]):TT (d+1) (⟨91,key,[],(aJ l).length+1⟩::aJ l) (91::(bo eA l 0++[93]))
 |obj (d:Nat) (key:gA) (l:List It) (h:∀x∈l,TT d x.1 x.2) (hk:(l.map aS).Nodup) (ht:∀x∈l,cG (aS x)):TT (d+1) (⟨123,key,[],(aJ l).length+1⟩::aJ l) (123::(bo cu l 0++[125]))
theorem TT.pos{d:Nat} {L:List Nd} {x:gA} (h:TT d L x):1<=L.length/\(kJ L).sz=L.length:=by
 cases h with
 |leaf=>exact⟨cb _,rfl⟩
 |pg=>exact⟨by rw[List.length_cons];omega,by show((aJ _).length:Int)+1=((aJ _).length+1:Nat);omega⟩
 |obj=>exact⟨by rw[List.length_cons];omega,by show((aJ _).length:Int)+1=((aJ _).length+1:Nat);omega⟩
theorem tZ:∀(l m:List It),aJ (l++m) =aJ l++aJ m
 |[],_=>rfl
 |x::l,m=>by show x.1++aJ (l++m) =(x.1++aJ l)++aJ m;rw[tZ l m,eg]
theorem IC{l:List It} {x:It} (h:x∈l):x.1.length<=(aJ l).length:=by
 induction l with
 |nil=>cases h
 |cons y l ih=>
   show x.1.length<=(y.1++aJ l).length;rw[an];rcases List.mem_cons.1 h with rfl|h
   . omega
   . have:=ih h;omega
theorem wC{l:List It} {z:Nd} (h:z∈aJ l):∃x∈l,z∈x.1:=by
 induction l with
 |nil=>cases h
 |cons y l ih=>
   rcases List.mem_append.1 h with h|h
   . exact⟨y,List.mem_cons_self,h⟩
   . obtain⟨x,h1,h2⟩:=ih h;exact⟨x,d5 _ h1,h2⟩
theorem TT.sz{d:Nat} {L:List Nd} {x:gA} (h:TT d L x):∀z∈L,1<=z.sz/\z.sz<=L.length:=by
 induction h with
 |leaf=>intro z hz;rw[List.mem_singleton] at hz;subst hz;exact⟨Int.le_refl 1,Int.le_refl 1⟩
 |pg d key l h hk ih=>
   intro z hz;rw[List.length_cons];rcases List.mem_cons.1 hz with rfl|hz
   . exact⟨by show 1<=((aJ l).length:Int)+1;omega,by show((aJ l).length:Int)+1<=_;omega⟩
   . obtain⟨y,hy,hz⟩:=wC hz;have:=ih y hy z hz;have:=IC hy;omega
 |obj d key l h hk ht ih=>
   intro z hz;rw[List.length_cons];rcases List.mem_cons.1 hz with rfl|hz
   . exact⟨by show 1<=((aJ l).length:Int)+1;omega,by show((aJ l).length:Int)+1<=_;omega⟩
   . obtain⟨y,hy,hz⟩:=wC hz;have:=ih y hy z hz;have:=IC hy;omega
def rl(m:Nat) (L:List Nd):Prop:=∀z∈L,z.key.length<=m/\z.t.length<=m
theorem Te{L:List Nd} (h:1<=L.length):kJ L∈L:=by
 cases L with
 |nil=>simp at h
 |cons x L=>exact List.mem_cons_self
def ma(L:List Nd) (e:Nat):Nat->Nat->List Nat
 |0,_=>[]
 |n+1,k=>if k<e then k::ma L e n (k+(L.getD k default).sz.toNat) else[]
def mM(L:List Nd) (a:Nat):Nat:=min L.length (a+(L.getD a default).sz.toNat)
def qA(L:List Nd) (a:Nat):List Nat:=ma L (mM L a) L.length (a+1)
def bA(L:List Nd) (a:Int):List Nat:=if 0<=a/\a<L.length then qA L a.toNat else[]
def oF:Nat->List It->List Nat
 |_,[]=>[]
 |p,x::l=>p::oF (p+x.1.length) l
theorem yY{P L B:List Nd} (h:1<=L.length):(P++(L++B)).getD P.length default=kJ L:=by
 rw[ac,dt (cb _),Nat.sub_self,dl (by omega)];unfold kJ;rw[ac]
theorem Kp{d:Nat}:∀(l:List It) (P B:List Nd) (n:Nat),(∀x∈l,TT d x.1 x.2)->l.length<=n->ma (P++(aJ l++B)) (P.length+(aJ l).length) n P.length=oF P.length l
 |[],P,B,n,_,_=>by
   cases n with
   |zero=>rfl
   |succ n=>rw[ma,if_neg (by show¬P.length<P.length+0;omega)];rfl
 |x::l,P,B,0,_,h=>by simp at h
 |x::l,P,B,n+1,ht,h=>by
   obtain⟨h1,h2⟩:=(ht x List.mem_cons_self).pos;have e:P++(aJ (x::l)++B) =P++(x.1++(aJ l++B)):=by show P++((x.1++aJ l)++B) =_;rw[eg]
   have e2:P++(aJ (x::l)++B) =(P++x.1)++(aJ l++B):=by rw[e,eg]
   have hl:(aJ (x::l)).length=x.1.length+(aJ l).length:=by show(x.1++aJ l).length=_;rw[an]
   rw[ma,if_pos (by omega),e,yY h1,h2,<-e,Int.toNat_natCast,e2];have:=Kp l (P++x.1) B n (fun y hy=>ht y (d5 _ hy)) (by simp at h;omega);rw[an] at this;rw[show P.length+(aJ (x::l)).length=P.length+x.1.length+(aJ l).length by omega,this];rfl
theorem IB{d:Nat}:∀(l:List It),(∀x∈l,TT d x.1 x.2)->l.length<=(aJ l).length
 |[],_=>cb _
 |x::l,h=>by
   have h1:=(h x List.mem_cons_self).pos.1;have h2:=IB l fun y hy=>h y (d5 _ hy);show l.length+1<=(x.1++aJ l).length;rw[an];omega
theorem UU{d:Nat} {l:List It} {A B:List Nd} {N:Nd} (h:∀x∈l,TT d x.1 x.2) (hs:N.sz=(aJ l).length+1):qA (A++((N::aJ l)++B)) A.length=oF (A.length+1) l:=by
 have hf:=IB l h;have e:A++((N::aJ l)++B) =(A++[N])++(aJ l++B):=by simp
 have hN:(A++((N::aJ l)++B)).getD A.length default=N:=yY (L:=N::aJ l) (by simp);have hk:=Kp l (A++[N]) B (A++((N::aJ l)++B)).length h (by simp;omega);unfold qA mM;rw[hN,hs];rw[an,gc,<-e] at hk;rw[show min (A++((N::aJ l)++B)).length (A.length+(((aJ l).length:Int)+1).toNat) =A.length+1+(aJ l).length by
  simp only[an,List.length_cons];omega]
 exact hk
def gT(L:List Nd):Prop:=(∀x∈L,1<=x.sz/\x.sz<=L.length/\x.key.length<=60000000/\x.t.length<=60000000)/\L.length<=100000000
abbrev nI(k:Nat):V:=.int .i64 k
theorem xl{L:List Nd} (h:gT L) {a:Nat} (ha:a<L.length):1<=(L.getD a default).sz/\(L.getD a default).sz<=L.length/\(L.getD a default).key.length<=60000000/\(L.getD a default).t.length<=60000000:=by
 rw[ac,am ha];exact h.1 _ (List.getElem_mem ha)
theorem pG{l:List V} (h:gK l):∃L,l=L.map aW/\al l=L:=⟨_,h,rfl⟩
theorem zw(L:List Nd) (a:Nat):mM L a<=L.length:=Nat.min_le_left _ _
theorem JG{L:List Nd} {e:Nat}:∀(n p k:Nat),k∈ma L e n p->p<=k/\k<e
 |0,_,_,h=>by cases h
 |n+1,p,k,h=>by
   rw[ma] at h;split at h
   . rcases List.mem_cons.1 h with rfl|h
     . exact⟨cb _,by assumption⟩
     . have:=JG n _ k h;omega
   . cases h
theorem UX{L:List Nd} {a k:Nat} (h:k∈qA L a):a<k/\k<L.length:=by
 have:=JG _ _ _ h;have:=zw L a;omega
theorem JF{L:List Nd} {e:Nat}:∀(n p:Nat),(ma L e n p).length<=n
 |0,_=>cb _
 |n+1,p=>by
   rw[ma];split
   . have:=JF (L:=L) (e:=e) n (p+(L.getD p default).sz.toNat);rw[List.length_cons];omega
   . exact bu _
theorem UW(L:List Nd) (a:Nat):(qA L a).length<=L.length:=JF _ _
theorem UT{L:List Nd} {a:Nat} (h:a<L.length):bA L (a:Nat) =qA L a:=by unfold bA;rw[if_pos ⟨by omega,by omega⟩,Int.toNat_natCast]
theorem Ko{L:List Nd} {q:Int} (h:q<0\/q>=L.length):bA L q=[]:=by unfold bA;rw[if_neg (by omega)]
theorem Le(l:List Nat):(l.map nI).length=l.length:=aA _
def KI(L:List Nd) (a:Nat) (x:Nat×Nat×List Nat):Prop:=(qA L a=x.2.2++ma L (mM L a) x.1 x.2.1/\mM L a-x.2.1<=x.1)/\a<x.2.1/\x.2.1<=200000001/\x.2.2.length<=x.2.1
theorem KI_0{L:List Nd} {a:Nat} (hl:L.length<=100000000) (ha:a<L.length):KI L a (L.length,a+1,[]):=⟨⟨rfl,by have:=zw L a;show mM L a-(a+1)<=L.length;omega⟩,Nat.lt_succ_self a,by show a+1<=_;omega,bu _⟩
theorem Ob{L:List Nd} {a n k:Nat} {acc:List Nat} (h:KI L a (n,k,acc)) (hk:¬k<mM L a):qA L a=acc:=by
 obtain⟨⟨h1,h2⟩,_⟩:=h;rw[h1];show acc++ma L (mM L a) n k=acc;cases n with
 |zero=>exact List.append_nil acc
 |succ n=>rw[ma,if_neg hk,List.append_nil]
theorem Oc{L:List Nd} {a n k:Nat} {acc:List Nat} (hp:gT L) (h:KI L a (n,k,acc)) (hk:k<mM L a):∃m,n=m+1/\KI L a (m,k+(L.getD k default).sz.toNat,acc++[k]):=by
 obtain⟨⟨h1,h2⟩,h3,h4,h5⟩:=h;dsimp only at h1 h2 h3 h4 h5;have hE:=zw L a;have hn:=xl hp (a:=k) (by omega);have hl:=hp.2;obtain⟨m,rfl⟩:∃m,n=m+1:=⟨n-1,by omega⟩
 rw[ma,if_pos hk] at h1;refine⟨m,rfl,⟨?_,?_⟩,?_,?_,?_⟩
 . rw[h1,eg];rfl
 . show mM L a-(k+(L.getD k default).sz.toNat)<=m;omega
 . show a<k+(L.getD k default).sz.toNat;omega
 . show k+(L.getD k default).sz.toNat<=200000001;omega
 . show(acc++[k]).length<=k+(L.getD k default).sz.toNat;rw[an,gc];omega
theorem RS(c:Bool) (l:List V) (q:Int) (hp:gK l/\gT (al l)):OK 53 ([.list c 4 l,.int .i64 q]) ([]) (.buf 0) (some [.buf 1 0 ((bA (al l) q).map nI)]):=by
 refine aq (C:=cx []) (ar trivial) (fn:=Tryz.f53) fun hw hs=>?_;obtain⟨hN,hp⟩:=hp;obtain⟨L,rfl,eL⟩:=pG hN;rw[eL] at hp⊢;have hml:(L.map aW).length=L.length:=aA _;have hl:=hp.2;repeat'((conv=>whnf);first|apply af|(apply av<;>intro h)|with_reducible apply kH)
 all_goals try conv=>whnf
 all_goals try(refine ae.mk ?_;try dsimp only)
 all_goals (try simp only[eh,eX] at*)
 all_goals first|refine stay ?_|omega|skip
 . rw[Ko (by omega)];refine ab.mk [.tm 4 1] ?_<;>(repeat' first|trivial)
 . rw[Ko (by omega)];refine ab.mk [.tm 4 1] ?_<;>(repeat' first|trivial)
 have hq1:0<=q:=by omega
 obtain⟨a,rfl⟩:=Int.eq_ofNat_of_zero_le hq1;have ha:a<L.length:=by omega
 have hna:=xl hp ha;have hE:=zw L a;have hEe:mM L a=min L.length (a+(L.getD a default).sz.toNat):=rfl;rw[UT ha];have hif:∀{k:Nat},k<L.length->(if(L.getD k default).sz<(L.length:Int) then(L.getD k default).sz else(L.length:Int))=(L.getD k default).sz:=fun hk=>by
  have:=xl hp hk;split<;>omega
 have hwa:IntKind.i64.wrap ((a:Int)+(L.getD a default).sz)=(a:Int)+(L.getD a default).sz:=by rw[bX];omega
 have hif:=hif ha;refine aZ.mk (Nat×Nat×List Nat) (KI L a) (fun x=>⟨50,[(0,.list c 4 (L.map aW)),(1,.int .i64 a),(5,.buf 0),(6,.int .i64 (mM L a)),(7,.int .i64 x.2.1)],[.buf 1 0 (x.2.2.map nI)],[0]⟩) (fun x=>x.1) [.tm 5 1] (L.length,a+1,[]) (KI_0 hl ha) ?_ (fun⟨n,k,acc⟩ hI _ _=>?_)
 . apply ay<;>(repeat' first|trivial|apply ah|apply aN)
   all_goals (try simp only[hml,Int.toNat_natCast,hif,hwa])
   all_goals first
    |(show IntKind.i64.wrap (↑a+1)=((a+1:Nat):Int);(simp(discharger:=omega) only[wR];omega))
    |(rw[hEe];split<;>omega)
 have hI2:=hI.2;dsimp only at hI2;have hn:=fun h:k<L.length=>xl hp h;have hma:=Le acc;repeat'((conv=>whnf);first|apply af|(apply av<;>intro h)|with_reducible apply lZ)
 all_goals try conv=>whnf
 all_goals try(refine ae.mk ?_;try dsimp only)
 all_goals (try simp only[eh,eX] at*)
 all_goals first|refine stay ?_|omega|(simp only[fi];omega)|skip
 all_goals first
  | (show ab _ _ _ _ _ _
     rw[Ob hI (by omega)];refine ab.mk [] ?_<;>(repeat' first|trivial)
     done)
  |skip
 obtain⟨m,rfl,hI'⟩:=Oc hp hI (by omega);have hn:=hn (by omega);refine⟨[],(m,k+(L.getD k default).sz.toNat,acc++[k]),hI',?_,Nat.lt_succ_self m⟩;apply ay<;>(repeat' first|trivial|apply ah|apply aN|apply bc)
 all_goals (try simp only[hml,Int.toNat_natCast])
 all_goals first
  |(rw[fo];rfl)
  | (show IntKind.i64.wrap _=((k + (L.getD k default).sz.toNat:Nat):Int)
     (repeat' split)
     all_goals (first|omega|(simp(discharger:=omega) only[wR];omega)))
def uW:Sm:=fun args σ=>match args,σ with
 |[.list c 4 l,.int .i64 q],[]=>some (gK l/\gT (al l),.buf 0,some [.buf 1 0 ((bA (al l) q).map nI)])
 |_,_=>none
theorem zt:ax 53 uW:=by
 intro args sg pre x r he hp;unfold uW at he;split at he<;>cases he
 . exact RS (hp:=hp) ..
theorem ui{L:List Nd} {q:Int} {k:Nat} (h:k∈bA L q):k<L.length:=by
 unfold bA at h;split at h
 . exact(UX h).2
 . cases h
theorem wS(L:List Nd) (q:Int):(bA L q).length<=L.length:=by
 unfold bA;split
 . exact UW _ _
 . exact bu _
def lA(L:List Nd) (key:gA):List Nat->Int
 |[]=>-1
 |k::r=>if(L.getD k default).key=key then k else lA L key r
def fK(L:List Nd) (q:Int) (key:gA):Int:=if 0<=q/\q<L.length/\(L.getD q.toNat default).k.toNat=123 then lA L key (bA L q) else-1
theorem Iy(L:List Nd) (key:gA):∀l:List Nat,lA L key l=-1\/∃k∈l,lA L key l=(k:Int)/\(L.getD k default).key=key
 |[]=>.inl rfl
 |k::r=>by
   rw[lA];split
   . rename_i h;exact .inr ⟨k,List.mem_cons_self,rfl,h⟩
   . rcases Iy L key r with h|⟨j,h1,h2⟩
     . exact .inl h
     . exact .inr ⟨j,d5 _ h1,h2⟩
theorem Iz(L:List Nd) (q:Int) (key:gA):fK L q key=-1\/∃k:Nat,fK L q key=k/\k<L.length/\(L.getD k default).key=key:=by
 unfold fK;split
 . rcases Iy L key (bA L q) with h|⟨k,h1,h2,h3⟩
   . exact .inl h
   . exact .inr ⟨k,h2,ui h1,h3⟩
 . exact .inl rfl
structure FI(L:List Nd) (key:gA) (ks:List Nat) (i:Nat):Prop where
 le:i<=ks.length
 e:lA L key ks=lA L key (ks.drop i)
theorem FI.at{L:List Nd} {key:gA} {ks:List Nat} {i:Nat} (h:FI L key ks i) (hi:i<ks.length):lA L key ks=if(L.getD (ks.getD i default) default).key=key then((ks.getD i default:Nat):Int) else lA L key (ks.drop (i+1)):=by
 rw[h.e,List.drop_eq_getElem_cons hi,lA];have e:ks.getD i default=ks[i]:=by rw[ac,am hi];rfl
 rw[e]
theorem FI.stop{L:List Nd} {key:gA} {ks:List Nat} {i:Nat} (h:FI L key ks i) (hi:¬i<ks.length):lA L key ks=-1:=by
 rw[h.e,List.drop_eq_nil_of_le (by omega)];rfl
theorem Qd(c:Bool) (l:List V) (q:Int) (key:gA) (hp:gK l/\gT (al l)):OK 135 ([.list c 4 l,.int .i64 q,.str key]) ([]) (.int .i64 (fK (al l) q key)) (none):=by
 refine aq (C:=cx [(53,uW)]) (ar ⟨zt,trivial⟩) (fn:=Tryz.f135) fun hw hs=>?_;obtain⟨hN,hp⟩:=hp;obtain⟨L,rfl,eL⟩:=pG hN;rw[eL] at hp⊢;have hml:(L.map aW).length=L.length:=aA _;have hl:=hp.2;have hkl:=wS L q;have hkm:=Le (bA L q);have hkk:∀i,i<(bA L q).length->(bA L q).getD i default<L.length:=fun i h=>by
  rw[ac,am h];exact ui (List.getElem_mem h)
 have hno:¬(0<=q/\q<L.length/\(L.getD q.toNat default).k.toNat=123)->fK L q key=-1:=fun h=>by unfold fK;rw[if_neg h]
 have hyes:0<=q/\q<L.length/\(L.getD q.toNat default).k.toNat=123->fK L q key=lA L key (bA L q):=fun h=>by unfold fK;rw[if_pos h]
 repeat'((conv=>whnf);first|apply af|apply aK|(apply av<;>intro h)|with_reducible apply kH)
 all_goals try conv=>whnf
 all_goals try(refine ae.mk ?_;try dsimp only)
 all_goals (try simp only[eh,eX] at*)
 all_goals first|refine stay ?_|trivial|omega|skip
 . rw[hno (by omega)];refine ab.mk [] ?_<;>(repeat' first|trivial)
 . rw[hno (by omega)];refine ab.mk [] ?_<;>(repeat' first|trivial)
 . rw[hyes (by omega)];refine aZ.mk Nat (FI L key (bA L q)) (fun i=>⟨42,[(0,.list c 4 (L.map aW)),(2,.str key),(27,.buf 0),(28,.int .i64 (bA L q).length),(29,.int .i64 i)],[.buf 1 0 ((bA L q).map nI)],[]⟩) (fun i=>(bA L q).length-i) [] 0 ⟨bu _,rfl⟩ ?_ (fun i hI _ _=>?_)
   . apply ay<;>(repeat' first|trivial|apply ah|apply aN)
     all_goals (simp only[hkm];done)
   have hle:=hI.le;have hkk:=hkk i;repeat'((conv=>whnf);first|apply af|((first|apply av|apply gI)<;>intro h)|with_reducible apply lZ)
   all_goals try conv=>whnf
   all_goals try(refine ae.mk ?_;try dsimp only)
   all_goals (try simp only[eh,eX] at*)
   all_goals first|refine stay ?_|omega|skip
   . rw[hI.at (by omega),if_pos (by assumption)];refine ab.mk [] ?_<;>(repeat' first|trivial)
   . refine⟨[],i+1,⟨by omega,by rw[hI.at (by omega),if_neg (by assumption)]⟩,?_,by omega⟩;apply ay<;>(repeat' first|trivial|apply ah|apply aN)
     all_goals (simp(discharger:=omega) only[wR];omega)
   . rw[hI.stop (by omega)];refine ab.mk [] ?_<;>(repeat' first|trivial)
 . rw[hno (by omega)];refine ab.mk [] ?_<;>(repeat' first|trivial)
def EZ:Sm:=fun args σ=>match args,σ with
 |[.list c 4 l,.int .i64 q,.str key],[]=>some (gK l/\gT (al l),.int .i64 (fK (al l) q key),none)
 |_,_=>none
theorem TQ:ax 135 EZ:=by
 intro args sg pre x r he hp;unfold EZ at he;split at he<;>cases he
 . exact Qd (hp:=hp) ..
def aT(L:List Nd) (q:Int) (key:gA) (a b:Int):Int×Int:=
 if fK L q key<0\/(L.getD (fK L q key).toNat default).k.toNat=122 then(-1,0)
 else if((L.getD (fK L q key).toNat default).k.toNat:Int) =a\/((L.getD (fK L q key).toNat default).k.toNat:Int) =b then(fK L q key,0) else(-1,7)
theorem E3(L:List Nd) (q:Int) (key:gA) (a b:Int):(aT L q key a b).1=-1\/(0<=(aT L q key a b).1/\(aT L q key a b).1<L.length/\(aT L q key a b).2=0/\(((L.getD (aT L q key a b).1.toNat default).k.toNat:Int) =a\/((L.getD (aT L q key a b).1.toNat default).k.toNat:Int) =b)):=by
 unfold aT;rcases Iz L q key with h|⟨k,h1,h2,h3⟩
 . rw[if_pos (.inl (by omega))];exact .inl rfl
 . rw[h1];split
   . exact .inl rfl
   . split
     . refine .inr ⟨Int.natCast_nonneg _,by show(k:Int)<_;omega,rfl,by assumption⟩
     . exact .inl rfl
theorem Qm(c:Bool) (l:List V) (q:Int) (key:gA) (a b:Int) (hp:gK l/\gT (al l)):OK 96 ([.list c 4 l,.int .i64 q,.str key,.int .u8 a,.int .u8 b]) ([]) (.tuple [.int .i64 (aT (al l) q key a b).1,.int .i64 (aT (al l) q key a b).2]) (none):=by
 refine aq (C:=cx [(135,EZ)]) (ar ⟨TQ,trivial⟩) (fn:=Tryz.f96) fun hw hs=>?_;obtain⟨hN,hp⟩:=hp;obtain⟨L,rfl,eL⟩:=pG hN;rw[eL] at hp⊢;have hml:(L.map aW).length=L.length:=aA _;have hl:=hp.2;have hon:fK L q key=-1\/(0<=fK L q key/\fK L q key<L.length):=by
  rcases Iz L q key with h|⟨k,h1,h2,h3⟩
  . exact .inl h
  . exact .inr ⟨by omega,by omega⟩
 have hpk:aT L q key a b=if fK L q key<0\/(L.getD (fK L q key).toNat default).k.toNat=122 then(-1,0) else if((L.getD (fK L q key).toNat default).k.toNat:Int) =a\/((L.getD (fK L q key).toNat default).k.toNat:Int) =b then(fK L q key,0) else(-1,7):=rfl
 rw[hpk];clear hpk;repeat'((conv=>whnf);first|apply af|apply aK|(apply av<;>intro h)|with_reducible apply kH)
 all_goals try conv=>whnf
 all_goals try(refine ae.mk ?_;try dsimp only)
 all_goals (try simp only[eh] at*)
 all_goals generalize fK L q key=f at*
 all_goals first|refine stay ?_|trivial|omega|skip
 all_goals
  repeat (first|rw[if_pos (by omega)]|rw[if_neg (by omega)])
  refine ab.mk [] ?_<;>(repeat' first|trivial)
def uR:Sm:=fun args σ=>match args,σ with
 |[.list c 4 l,.int .i64 q,.str key,.int .u8 a,.int .u8 b],[]=>some (gK l/\gT (al l),.tuple [.int .i64 (aT (al l) q key a b).1,.int .i64 (aT (al l) q key a b).2],none)
 |_,_=>none
theorem zn:ax 96 uR:=by
 intro args sg pre x r he hp;unfold uR at he;split at he<;>cases he
 . exact Qm (hp:=hp) ..
def cW(c:Cu) (n:Nat):Cu:={c with p:=c.p+n}
theorem mr(c:Cu) (n m:Nat):cW (cW c n) m=cW c (n+m):=by unfold cW;simp only[Nat.add_assoc]
structure At(c:Cu) (x:gA):Prop where
 live:c.live
 e:c.e=c.s.length
 d:c.s.drop c.p=x
theorem At.len{c:Cu} {x:gA} (h:At c x):c.p+x.length=c.e:=by
 have h1:=congrArg List.length h.d;rw[d9] at h1;have h2:=h.e;have h3:=h.live.1.1;omega
theorem At.cW{c:Cu} {x r:gA} (h:At c (x++r)):At (cW c x.length) r:=by
 have hl:=h.len;rw[an] at hl;refine⟨⟨⟨by show c.p+x.length<=c.e;omega,h.live.1.2⟩,h.live.2⟩,h.e,?_⟩;show c.s.drop (c.p+x.length) =r;rw[<-List.drop_drop,h.d,List.drop_left]
theorem tkR_k{t:Tk} (h:nQ t):t.k≠0:=by
 intro e;rcases h with ⟨q,_⟩|⟨q,_⟩|⟨q,_⟩|⟨q,_⟩
 . rw[q] at e;exact absurd e (by decide)
 . rw[q] at e;exact absurd e (by decide)
 . rw[e] at q;exact absurd q (by decide)
 . rcases q with q|q|q<;>(rw[q] at e;exact absurd e (by decide))
theorem At.tok{c:Cu} {t:Tk} {r:gA} (h:At c (fP t++r)) (ht:nQ t) (hs:t.k=110->r=[]\/pD (r.getD 0 0) =true):c.aE=0/\c.next=(Go.Proofs.YtchllohbglebiaaGreatDoor.cW c (fP t).length,t):=by
 obtain⟨f1,f2⟩:=N2 ht;have htx:c.ai=c.s:=by unfold Cu.ai;rw[h.e,List.take_length]
 have h0:c.s.getD c.p 0=(fP t).getD 0 0:=by
  have:=jH h.d 0;rw[p5 f1] at this;exact this
 have hn:c.cg=(Go.Proofs.YtchllohbglebiaaGreatDoor.cW c (fP t).length,t):=by
  unfold Cu.cg;rw[if_neg (show¬c.c≠0 from fun q=>q h.live.2.1),htx,xE (.inr (by rw[h0];exact f2))];exact Z0 h.e h.live.2.1 h.d ht hs
 have hq:=ux h.live.1;have hc:c.cg.1.c=0:=by rw[hn];exact h.live.2.1
 have e:c.next=c.cg:=Prod.ext (hq.2.2 hc) hq.1;refine⟨?_,by rw[e,hn]⟩;unfold Cu.aE;rw[e,if_neg (fun q=>q hc),if_neg (by rw[hn];exact tkR_k ht)]
theorem At.sign{c:Cu} {k:UInt8} {r:gA} (h:At c (k::r)) (hk:ec k=true) (he:fP ⟨k,[]⟩=[k]):c.aE=0/\c.next=(Go.Proofs.YtchllohbglebiaaGreatDoor.cW c 1,⟨k,[]⟩)/\At (Go.Proofs.YtchllohbglebiaaGreatDoor.cW c 1) r:=by
 have h':At c (fP ⟨k,[]⟩++r):=by rw[he];exact h
 have ht:nQ ⟨k,[]⟩:=.inr (.inr (.inl ⟨hk,rfl⟩));have:=h'.tok ht (fun q=>by
  have q:k=110:=q;rw[q] at hk;exact absurd hk (by decide))
 rw[he] at this;exact⟨this.1,this.2,At.cW (x:=[k]) h⟩
theorem Tc{d:Nat} {t:Tk} {key:gA} {c:Cu} (h:(gv d t key c).1=0):t.k.toNat=123\/t.k.toNat=91\/fI t.k=true:=by
 cases d with
 |zero=>
   rw[gv] at h;by_cases h1:t.k.toNat=123\/t.k.toNat=91
   . rw[if_pos h1] at h;cases h
   rw[if_neg h1] at h;by_cases h2:fI t.k=true
   . exact .inr (.inr h2)
   . rw[if_neg h2] at h;cases h
 |succ d=>
   rw[gv] at h;by_cases h1:t.k.toNat=123
   . exact .inl h1
   rw[if_neg h1] at h;by_cases h2:t.k.toNat=91
   . exact .inr (.inl h2)
   rw[if_neg h2] at h;by_cases h3:fI t.k=true
   . exact .inr (.inr h3)
   . rw[if_neg h3] at h;cases h
theorem KJ{k:UInt8} (h:fI k=true):k.toNat=115\/k.toNat=110\/k.toNat=116\/k.toNat=102\/k.toNat=122:=of_decide_eq_true h
def RdI(d:Nat) (x:It):Prop:=∀(c:Cu) (r:gA),At c (x.2++r)->(r=[]\/pD (r.getD 0 0) =true)->c.aE=0/\gv d c.next.2 (aS x) c.next.1=(0,x.1,cW c x.2.length)
theorem Ci(g:It->gA):∀(l:List It) (i:Nat),l.length<=(bo g l (i+1)).length
 |[],_=>bu _
 |x::l,i=>by
   have:=Ci g l (i+1);show l.length+1<=((if i+1=0 then([]:gA) else[44])++(g x++bo g l (i+1+1))).length;rw[if_neg (by omega),an,an,gc];omega
theorem vP(g:It->gA) (x:It) (l:List It) (i:Nat):bo g (x::l) (i+1) =44::(g x++bo g l (i+1+1)):=by
 show(if i+1=0 then([]:gA) else[44])++(g x++bo g l (i+1+1)) =_;rw[if_neg (by omega)];rfl
theorem yC(g:It->gA) (l:List It) (i:Nat) (k:UInt8) (r:gA) (hk:pD k=true):bo g l (i+1)++k::r=[]\/pD ((bo g l (i+1)++k::r).getD 0 0) =true:=by
 right;cases l with
 |nil=>exact hk
 |cons x l=>rw[vP];show pD 44=true;decide
theorem L0{d:Nat}:∀(l:List It) (y:It) (i:Nat) (c:Cu) (r:gA) (n:Nat) (acc:List Nd),(∀x∈y::l,RdI d x)->(∀x∈y::l,aS x=[])->At c (y.2++(bo eA l (i+1)++93::r))->l.length<n->
   ic (gv d) n c.next.2 c.next.1 acc=(0,acc++aJ (y::l),cW c (y.2.length+(bo eA l (i+1)).length+1))
 |l,y,i,c,r,0,acc,_,_,_,h=>absurd h (Nat.not_lt_zero _)
 |l,y,i,c,r,n+1,acc,hR,hk,hat,hn=>by
   obtain⟨e0,e1⟩:=hR y List.mem_cons_self c _ hat (yC eA l i 93 r (by decide));rw[hk y List.mem_cons_self] at e1;have h1:=hat.cW;rw[ic,e1];dsimp only;rw[if_neg (by decide)]
   match l,hR,hk,h1,hn with
   |[],hR,hk,h1,hn=>
     obtain⟨a1,a2,a3⟩:=At.sign (k:=93) (r:=r) h1 (by decide) rfl;rw[if_neg (fun q=>q a1),a2];dsimp only;rw[if_pos (by decide),mr];show _=(0,acc++(y.1++[]),_);rw[List.append_nil];rfl
   |z::l,hR,hk,h1,hn=>
     rw[vP] at h1;have h1:At (cW c y.2.length) (44::(z.2++(bo eA l (i+1+1)++93::r))):=by
      have e:(44::(eA z++bo eA l (i+1+1)))++93::r=44::(z.2++(bo eA l (i+1+1)++93::r)):=by
       show 44::((z.2++bo eA l (i+1+1))++93::r) =_;rw[eg]
      rw[<-e];exact h1
     obtain⟨a1,a2,a3⟩:=At.sign (k:=44) h1 (by decide) rfl;obtain⟨b0,_⟩:=hR z (by simp) _ _ a3 (yC eA l (i+1) 93 r (by decide));rw[if_neg (fun q=>q a1),a2];dsimp only;rw[if_neg (by decide),if_neg (by decide),if_neg (fun q=>q b0)];rw[L0 l z (i+1) _ r n _ (fun x hx=>hR x (d5 _ hx)) (fun x hx=>hk x (d5 _ hx)) a3 (by simp at hn;omega)];rw[mr,mr,vP,eg];refine Prod.ext rfl (Prod.ext rfl ?_);show cW c _=cW c _
     congr 1
     simp only[List.length_cons,an,eA];omega
theorem T8{d:Nat} {l:List It} {c:Cu} {r:gA} (hR:∀x∈l,RdI d x) (hk:∀x∈l,aS x=[]) (hat:At c (bo eA l 0++93::r)):bH (gv d) c=(0,aJ l,cW c ((bo eA l 0).length+1)):=by
 unfold bH
 match l,hR,hk,hat with
 |[],hR,hk,hat=>
   obtain⟨a1,a2,a3⟩:=At.sign (k:=93) (r:=r) hat (by decide) rfl;rw[if_neg (fun q=>q a1),a2];dsimp only;rw[if_pos (by decide)];rfl
 |y::l,hR,hk,hat=>
   have hat:At c (y.2++(bo eA l 1++93::r)):=by
    have e:bo eA (y::l) 0++93::r=y.2++(bo eA l 1++93::r):=by
     show([]++(y.2++bo eA l 1))++93::r=_;rw[List.nil_append,eg]
    rw[<-e];exact hat
   obtain⟨e0,e1⟩:=hR y List.mem_cons_self c _ hat (yC eA l 0 93 r (by decide));have hv:(gv d c.next.2 (aS y) c.next.1).1=0:=by rw[e1]
   have hkd:=Tc hv;have hne:¬c.next.2.k.toNat=93:=by
    rcases hkd with q|q|q
    . omega
    . omega
    . have:=KJ q;omega
   obtain⟨t1,t2,t3,t4,_⟩:=bD hat.live e0;have f:=j0 d c.next.2 (aS y) c.next.1 t1 hv;have fp:=f.p;rw[e1] at fp;have fp:c.next.1.p<=c.p+y.2.length:=fp;have hl:=hat.len;have hg:l.length<=(bo eA l 1).length:=Ci eA l 0;simp only[an,List.length_cons] at hl;rw[if_neg (fun q=>q e0),if_neg hne,L0 l y 0 c r _ [] hR hk hat (by rw[t3];omega)];refine Prod.ext rfl (Prod.ext rfl ?_);show cW c _=cW c _
   congr 1
   show _=([]++(y.2++bo eA l 1)).length+1;simp only[an,List.nil_append]
theorem DQ{d:Nat}:∀(l:List It) (y:It) (i:Nat) (c:Cu) (r:gA) (n:Nat) (ks:List gA) (acc:List Nd),(∀x∈y::l,RdI d x)->(∀x∈y::l,cG (aS x))->((y::l).map aS).Nodup->(∀x∈y::l,aS x∉ks)->
   At c (cu y++(bo cu l (i+1)++125::r))->l.length<n->c.aE=0/\c.next.2.k.toNat=115/\c.next.1.p<=c.p+(cu y).length/\
   ie (gv d) n c.next.2 c.next.1 ks acc=(0,acc++aJ (y::l),cW c ((cu y).length+(bo cu l (i+1)).length+1))
 |l,y,i,c,r,0,ks,acc,_,_,_,_,_,h=>absurd h (Nat.not_lt_zero _)
 |l,y,i,c,r,n+1,ks,acc,hR,hT,hN,hks,hat,hn=>by
   have hty:=hT y List.mem_cons_self;have k0:At c (fP ⟨115,aS y⟩++(58::(y.2++(bo cu l (i+1)++125::r)))):=by
    have e:cu y++(bo cu l (i+1)++125::r) =fP ⟨115,aS y⟩++(58::(y.2++(bo cu l (i+1)++125::r))):=by
     show(quote (aS y)++([58]++y.2))++_=quote (aS y)++_;simp only[eg,List.cons_append,List.nil_append]
    rw[<-e];exact hat
   have hml:(cu y).length=(fP ⟨115,aS y⟩).length+1+y.2.length:=by
    show(quote (aS y)++([58]++y.2)).length=(quote (aS y)).length+1+y.2.length;simp only[an,gc];omega
   obtain⟨t0,t1⟩:=k0.tok (.inl ⟨rfl,hty⟩) (fun q=>absurd (show(115:UInt8) =110 from q) (by decide));have k1:=k0.cW;obtain⟨c0,c1,k2⟩:=At.sign (k:=58) k1 (by decide) rfl;obtain⟨e0,e1⟩:=hR y List.mem_cons_self _ _ k2 (yC cu l i 125 r (by decide));have k3:=k2.cW;refine⟨t0,by rw[t1];rfl,by rw[t1];show c.p+(fP ⟨115,aS y⟩).length<=_;rw[hml];omega,?_⟩;have hme:fk c.next.2 c.next.1 ks=0:=by
    rw[t1];unfold fk;rw[if_neg (show¬(115:UInt8).toNat≠115 by decide),if_neg (hks y List.mem_cons_self),if_neg (fun q=>q c0),c1];dsimp only;rw[if_neg (by decide)];exact e0
   have hmv:bK (gv d) c.next.2 c.next.1=(0,y.1,cW c (cu y).length):=by
    rw[t1];unfold bK;dsimp only;rw[c1];dsimp only;rw[e1,mr,mr,hml,Nat.add_assoc]
   rw[mr,mr,<-Nat.add_assoc,<-hml] at k3;rw[ie,hme,if_neg (by decide),hmv];dsimp only;rw[if_neg (by decide)]
   match l,hR,hT,hN,hks,k3,hn with
   |[],hR,hT,hN,hks,k3,hn=>
     obtain⟨a1,a2,a3⟩:=At.sign (k:=125) (r:=r) k3 (by decide) rfl;rw[if_neg (fun q=>q a1),a2];dsimp only;rw[if_pos (by decide),mr];show _=(0,acc++(y.1++[]),_);rw[List.append_nil];rfl
   |z::l,hR,hT,hN,hks,k3,hn=>
     rw[vP] at k3;have k3:At (cW c (cu y).length) (44::(cu z++(bo cu l (i+1+1)++125::r))):=by
      have e:(44::(cu z++bo cu l (i+1+1)))++125::r=44::(cu z++(bo cu l (i+1+1)++125::r)):=by
       show 44::((cu z++bo cu l (i+1+1))++125::r) =_;rw[eg]
      rw[<-e];exact k3
     obtain⟨a1,a2,a3⟩:=At.sign (k:=44) k3 (by decide) rfl;have hN':=List.nodup_cons.1 hN;have ht2:c.next.2.t=aS y:=by rw[t1]
     obtain⟨b0,b1,b2,b3⟩:=DQ l z (i+1) _ r n (ks++[aS y]) (acc++y.1) (fun x hx=>hR x (d5 _ hx)) (fun x hx=>hT x (d5 _ hx)) hN'.2 (fun x hx q=>by
      rcases List.mem_append.1 q with q|q
      . exact hks x (d5 _ hx) q
      . rw[List.mem_singleton] at q;exact hN'.1 (by rw[<-q];exact List.mem_map_of_mem hx)) a3 (by simp at hn;omega)
     rw[if_neg (fun q=>q a1),a2];dsimp only;rw[if_neg (by decide),if_neg (by decide),if_neg (fun q=>q b0),ht2,b3];rw[mr,mr,vP,eg];refine Prod.ext rfl (Prod.ext rfl ?_);show cW c _=cW c _
     congr 1
     simp only[List.length_cons,an];omega
theorem Tb{d:Nat} {l:List It} {c:Cu} {r:gA} (hR:∀x∈l,RdI d x) (hT:∀x∈l,cG (aS x)) (hN:(l.map aS).Nodup) (hat:At c (bo cu l 0++125::r)):bG (gv d) c=(0,aJ l,cW c ((bo cu l 0).length+1)):=by
 unfold bG
 match l,hR,hT,hN,hat with
 |[],hR,hT,hN,hat=>
   obtain⟨a1,a2,a3⟩:=At.sign (k:=125) (r:=r) hat (by decide) rfl;rw[if_neg (fun q=>q a1),a2];dsimp only;rw[if_pos (by decide)];rfl
 |y::l,hR,hT,hN,hat=>
   have hat:At c (cu y++(bo cu l 1++125::r)):=by
    have e:bo cu (y::l) 0++125::r=cu y++(bo cu l 1++125::r):=by
     show([]++(cu y++bo cu l 1))++125::r=_;rw[List.nil_append,eg]
    rw[<-e];exact hat
   obtain⟨b0,b1,b2,_⟩:=DQ l y 0 c r (l.length+1) [] [] hR hT hN (fun _ _=>by simp) hat (Nat.lt_succ_self _);obtain⟨t1,t2,t3,t4,_⟩:=bD hat.live b0;have hl:=hat.len;have hg:l.length<=(bo cu l 1).length:=Ci cu l 0;simp only[an,List.length_cons] at hl;obtain⟨_,_,_,b3⟩:=DQ l y 0 c r (c.next.1.e-c.next.1.p+1) [] [] hR hT hN (fun _ _=>by simp) hat (by rw[t3];omega);rw[if_neg (fun q=>q b0),if_neg (by omega),b3];refine Prod.ext rfl (Prod.ext rfl ?_);show cW c _=cW c _
   congr 1
   show _=([]++(cu y++bo cu l 1)).length+1;simp only[an,List.nil_append]
theorem TT.read{d:Nat} {L:List Nd} {x:gA} (h:TT d L x):RdI d (L,x):=by
 induction h with
 |leaf d k key t h hl=>
   intro c r hat hr;obtain⟨a1,a2⟩:=At.tok (t:=⟨k,t⟩) hat h (fun _=>hr);have hk:=KJ hl;refine⟨a1,?_⟩;rw[a2];cases d with
   |zero=>rw[gv];dsimp only;rw[if_neg (by omega),if_pos hl];rfl
   |succ d=>rw[gv];dsimp only;rw[if_neg (by omega),if_neg (by omega),if_pos hl];rfl
 |pg d key l h hk ih=>
   intro c r hat hr;have hat:At c (91::(bo eA l 0++93::r)):=by
    have e:(91::(bo eA l 0++[93]))++r=91::(bo eA l 0++93::r):=by
     show 91::((bo eA l 0++[93])++r) =_;rw[eg];rfl
    rw[<-e];exact hat
   obtain⟨a1,a2,a3⟩:=At.sign hat (by decide) rfl;have g:=T8 (d:=d) ih hk a3;refine⟨a1,?_⟩;rw[a2,gv];dsimp only;rw[if_neg (by decide),if_pos (by decide),g,mr];refine Prod.ext rfl (Prod.ext rfl ?_);show cW c _=cW c _
   congr 1
   show _=(91::(bo eA l 0++[93])).length;simp only[List.length_cons,an,List.length_nil];omega
 |obj d key l h hN hT ih=>
   intro c r hat hr;have hat:At c (123::(bo cu l 0++125::r)):=by
    have e:(123::(bo cu l 0++[125]))++r=123::(bo cu l 0++125::r):=by
     show 123::((bo cu l 0++[125])++r) =_;rw[eg];rfl
    rw[<-e];exact hat
   obtain⟨a1,a2,a3⟩:=At.sign hat (by decide) rfl;have g:=Tb (d:=d) ih hT hN a3;refine⟨a1,?_⟩;rw[a2,gv];dsimp only;rw[if_pos (by decide),g,mr];refine Prod.ext rfl (Prod.ext rfl ?_);show cW c _=cW c _
   congr 1
   show _=(123::(bo cu l 0++[125])).length;simp only[List.length_cons,an,List.length_nil];omega
theorem At.fin{c:Cu} (h:At c []):c.next.2.k=0/\c.next.1.c=0:=by
 have hl:=h.len;have htx:c.ai=c.s:=by unfold Cu.ai;rw[h.e,List.take_length]
 have hn:c.cg=(c,.no):=by
  unfold Cu.cg;rw[if_neg (show¬c.c≠0 from fun q=>q h.live.2.1),htx,xE (.inl (by have:=h.e;simp at hl;omega))];show c.j8=_;unfold Cu.j8;rw[if_pos (by simpa using hl)]
 have hq:=ux h.live.1;rw[hn] at hq;exact⟨by rw[hq.1],by rw[hq.2.1];exact h.live.2.1⟩
theorem At.new{s:gA} (h:s.length<=60000000):At (.new s) s:=⟨⟨⟨bu _,cb _⟩,rfl,h⟩,rfl,rfl⟩
theorem Z5{L:List Nd} {x:gA} (h:TT 32 L x) (hk:(kJ L).key=[]) (hl:x.length<=60000000):dR x=0/\dS x=L:=by
 have hat:At (.new x) (x++[]):=by rw[List.append_nil];exact At.new hl
 obtain⟨e0,e1⟩:=h.read _ _ hat (.inl rfl);have e1:gv 32 (Cu.new x).next.2 [] (Cu.new x).next.1=(0,L,cW (.new x) x.length):=by rw[<-hk];exact e1
 have hf:=At.fin hat.cW;have e:dR x=0:=by
  unfold dR;rw[e1];dsimp only;rw[if_neg (fun q=>q e0),if_neg (by decide),if_neg (fun q=>q.elim (fun q=>q hf.1) (fun q=>q hf.2))]
 refine⟨e,?_⟩;unfold dS;rw[if_pos e,e1]
end Go.Proofs.YtchllohbglebiaaGreatDoor
