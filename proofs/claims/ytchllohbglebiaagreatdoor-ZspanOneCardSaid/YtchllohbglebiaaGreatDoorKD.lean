/-
  A part of the proof.
-/
import Derived.Test.YtchllohbglebiaaGreatDoorTRc
import Derived.Test.YtchllohbglebiaaGreatDoorTRg
import Derived.Test.YtchllohbglebiaaGreatDoorTRf
import Derived.Test.YtchllohbglebiaaGreatDoorTRb
import Derived.Test.YtchllohbglebiaaGreatDoorJTx
import Derived.Test.YtchllohbglebiaaGreatDoorKC
set_option linter.unusedSimpArgs false
set_option linter.unusedVariables false
set_option maxHeartbeats 4000000
set_option maxRecDepth 100000
namespace Go.Proofs.YtchllohbglebiaaGreatDoor
open Go Go.VG
def Cd(n:Int):Prop:=0<=n/\n<=100
theorem br{n:Int} (h:decide (0<=n/\n<=100) =true):Cd n:=by unfold Cd;exact of_decide_eq_true h
theorem Cl(t:gA):∀(n i:Nat) (a:Int),Cd (cI t n i a).2
 |0,_,_=>by rw[cI];exact br rfl
 |n+1,i,a=>by
   rw[cI];repeat' split
   all_goals first
    |exact br rfl
    |exact Cl t n _ _
theorem WT(t:gA) (i:Nat) (n:Int):Cd (jz t i n).2.2:=by
 unfold jz;repeat' split
 all_goals first
  |exact br rfl
  |exact Cl _ _ _ _
theorem Pk(t:gA) (i:Nat):Cd (i7 t i).2.2:=by
 unfold i7;repeat' split
 all_goals first
  |exact br rfl
  |exact Cl _ _ _ _
  |exact WT _ _ _
theorem WW(t:gA) (i:Nat):Cd (da t i).2.2:=by
 unfold da;repeat' split
 all_goals first
  |exact br rfl
  |exact Pk _ _
theorem Mb(t:gA):∀(n i:Nat) (o:gA),Cd (dI t n i o).1
 |0,_,_=>by rw[dI];exact br rfl
 |n+1,i,o=>by
   rw[dI];repeat' split
   all_goals first
    |exact br rfl
    |exact WW _ _
    |exact Mb t n _ _
theorem tV{c:Cu} {k:Int} (h0:c.c=0) (h:Cd k):Cd (c.fail k).c:=by
 unfold Cu.fail;rw[if_pos h0];exact h
theorem Xp{c:Cu} (h0:c.c=0):Cd c.jB.1.c:=by
 unfold Cu.jB;repeat' split
 . exact absurd h0 (by assumption)
 . exact tV h0 (br rfl)
 . exact tV h0 (br rfl)
 . show Cd c.c;rw[h0];exact br rfl
 . exact tV h0 (Mb _ _ _ _)
theorem DF(t:gA) (i:Nat):Cd (dG t i).2:=by
 unfold dG;repeat' split
 all_goals exact br rfl
theorem VZ(t:gA) (i:Nat):Cd (cE t i).2:=by
 have hw:Cd (aP t i).2:=by
  unfold aP;split
  . exact br rfl
  . exact DF _ _
 have hb:∀x,Cd x.2->Cd (bT t x).2:=fun x hx=>by
  unfold bT;split
  . exact DF _ _
  . exact hx
 have hp:∀x,Cd x.2->Cd (ke t x).2:=fun x hx=>by
  unfold ke;split
  . exact DF _ _
  . exact hx
 exact hp _ (hb _ hw)
theorem VY{c:Cu} (h0:c.c=0):Cd c.mP.1.c:=by
 unfold Cu.mP;repeat' split
 . exact absurd h0 (by assumption)
 . exact tV h0 (VZ _ _)
 . show Cd c.c;rw[h0];exact br rfl
theorem NH(c:Cu):∀(s:gA) (i:Nat),Cd (jG c s i)
 |[],_=>br rfl
 |b::s,i=>by
   unfold jG;repeat' split
   all_goals first
    |exact br rfl
    |exact NH c s _
theorem NF{c:Cu} (h0:c.c=0) (k:UInt8):Cd (c.fv k).1.c:=by
 unfold Cu.fv;split
 . exact tV h0 (NH _ _ _)
 . show Cd c.c;rw[h0];exact br rfl
theorem YW{d:Cu} (h0:d.c=0):Cd d.j8.1.c:=by
 have z:Cd d.c:=by rw[h0];exact br rfl
 unfold Cu.j8;repeat' split
 . exact z
 . exact z
 . exact Xp h0
 . exact VY h0
 . exact NF h0 _
 . exact NF h0 _
 . exact tV h0 (br rfl)
theorem VL{c:Cu} (h0:c.c=0):Cd c.cg.1.c:=by
 unfold Cu.cg;rw[if_neg (by omega)];exact YW (d:={c with p:=dP dx c.ai c.p}) h0
theorem pE{c:Cu} (h:c.live):Cd c.aE:=by
 have hs:=ux h.1;unfold Cu.aE;repeat' split
 . rw[hs.2.1];exact VL h.2.1
 . exact br rfl
 . exact br rfl
def CdV(v:VF):Prop:=∀t key c,c.live->Cd (v t key c).1
theorem J2{v:VF} (hf:lQ v) (hv:CdV v):∀(n:Nat) (t:Tk) (c:Cu) (acc:List Nd),c.live->Cd (ic v n t c acc).1
 |0,_,_,_,_=>by rw[ic];exact br rfl
 |n+1,t,c,acc,hc=>by
   rw[ic];by_cases h1:(v t [] c).1≠0
   . rw[if_pos h1];exact hv _ _ _ hc
   rw[if_neg h1];have f1:=hf t [] c hc (by omega);by_cases h2:(v t [] c).2.2.aE≠0
   . rw[if_pos h2];exact pE f1.live
   rw[if_neg h2];obtain⟨l1,_⟩:=bD f1.live (by omega);by_cases h3:(v t [] c).2.2.next.2.k.toNat=93
   . rw[if_pos h3];exact br rfl
   rw[if_neg h3];by_cases h4:(v t [] c).2.2.next.2.k.toNat≠44
   . rw[if_pos h4];exact br rfl
   rw[if_neg h4];by_cases h5:(v t [] c).2.2.next.1.aE≠0
   . rw[if_pos h5];exact pE l1
   rw[if_neg h5];obtain⟨m1,_⟩:=bD l1 (by omega);exact J2 hf hv n _ _ _ m1
theorem T7{v:VF} (hf:lQ v) (hv:CdV v) {c:Cu} (hc:c.live):Cd (bH v c).1:=by
 unfold bH;by_cases h1:c.aE≠0
 . rw[if_pos h1];exact pE hc
 rw[if_neg h1];obtain⟨l1,_⟩:=bD hc (by omega);split
 . exact br rfl
 . exact J2 hf hv _ _ _ _ l1
theorem Ja{v:VF} (hf:lQ v) (hv:CdV v):∀(n:Nat) (t:Tk) (c:Cu) (ks:List gA) (acc:List Nd),c.live->Cd (ie v n t c ks acc).1
 |0,_,_,_,_,_=>by rw[ie];exact br rfl
 |n+1,t,c,ks,acc,hc=>by
   rw[ie];by_cases h0:fk t c ks≠0
   . rw[if_pos h0];show Cd (fk t c ks);unfold fk;repeat' split
     all_goals first
      |exact br rfl
      |exact pE hc
      |exact pE (bD hc (by omega)).1
   rw[if_neg h0];obtain⟨_,_,q1,_,q2⟩:=zO (t:=t) (ks:=ks) hc (by omega);obtain⟨a1,_⟩:=bD hc q1;obtain⟨b1,_⟩:=bD a1 q2;by_cases h1:(bK v t c).1≠0
   . rw[if_pos h1];exact hv _ _ _ b1
   rw[if_neg h1];have f1:Fit c.next.1.next.1 (bK v t c):=hf _ _ _ b1 (show(bK v t c).1=0 by omega);by_cases h2:(bK v t c).2.2.aE≠0
   . rw[if_pos h2];exact pE f1.live
   rw[if_neg h2];obtain⟨l1,_⟩:=bD f1.live (by omega);by_cases h3:(bK v t c).2.2.next.2.k.toNat=125
   . rw[if_pos h3];exact br rfl
   rw[if_neg h3];by_cases h4:(bK v t c).2.2.next.2.k.toNat≠44
   . rw[if_pos h4];exact br rfl
   rw[if_neg h4];by_cases h5:(bK v t c).2.2.next.1.aE≠0
   . rw[if_pos h5];exact pE l1
   rw[if_neg h5];obtain⟨m1,_⟩:=bD l1 (by omega);exact Ja hf hv n _ _ _ _ m1
theorem Ta{v:VF} (hf:lQ v) (hv:CdV v) {c:Cu} (hc:c.live):Cd (bG v c).1:=by
 unfold bG;by_cases h1:c.aE≠0
 . rw[if_pos h1];exact pE hc
 rw[if_neg h1];obtain⟨l1,_⟩:=bD hc (by omega);split
 . exact br rfl
 . exact Ja hf hv _ _ _ _ _ l1
theorem CY:∀k,CdV (gv k)
 |0=>fun t key c hc=>by
   rw[gv];repeat' split
   all_goals exact br rfl
 |k+1=>fun t key c hc=>by
   rw[gv];repeat' split
   . exact Ta (j0 k) (CY k) hc
   . exact T7 (j0 k) (CY k) hc
   all_goals exact br rfl
noncomputable def cxr(l:List (Nat×Sm)) (p:List (Nat×dL)) (h:List (Nat×List gz)):Ctx:=⟨Tryz.prog,tt,ib,fun f=>qF l f,fun _ _ _=>False,fun r=>um h r,fun _=>false,fun _ _ _ _=>none,fun f=>uo p f,fun _=>false,fun _=>none⟩
theorem z8{l:List (Nat×Sm)} {p:List (Nat×dL)} {hs:List (Nat×List gz)} (h:rm l) (hp:OKp p):cq (cxr l p hs) where
 ti:=vh
 mt:=fun _ _ _ h=>h.elim
 hm:=xi
 gam:=fun f args sg pre x r h' hp=>uq h args sg pre x r h' hp
 del:=fun f args sg pre c u r x r2 h' hq=>zL hp args sg pre c u r x r2 h' hq
theorem RZ(s:gA) (hp:s.length<=60000000):OK 5 [.str s] [] (.tuple [.buf 0,.int .i64 (dR s)]) (some [.buf 4 0 ((dS s).map aW)]):=by
 refine SX (C:=cxr [(11,AH)] [(14,po),(13,lM 32),(15,E7)] [(3,[.cell 3 1 4])]) (z8 ⟨JK,trivial⟩ ⟨sd,Kt 32,V1,trivial⟩) (gf:=12) (fn:=Tryz.f5) rfl rfl rfl rfl rfl rfl rfl rfl rfl rfl fun hw hs=>?_;have hc:(Cu.new s).live:=⟨⟨bu _,cb _⟩,rfl,hp⟩
 have hn:=fun h=>bD hc h;have hrg:∀{n:Int},Cd n->-9223372036854775808<=n/\n<=9223372036854775807:=fun h=>⟨by have:=h.1;omega,by have:=h.2;omega⟩
 have hnil:∀{n:Int},dR s=n->n≠0->dS s=[]:=fun h h0=>by unfold dS;rw[if_neg (by rw[h];exact h0)]
 repeat'((conv=>whnf);first|with_reducible refine cM ?_ (fun h=>?_) fun h=>?_|apply af)
 all_goals try conv=>whnf
 all_goals try(refine ae.mk ?_;try dsimp only)
 all_goals (try simp only[aV,pP] at*)
 . rfl
 . exact⟨trivial,hc.1,hc.2.2⟩
 . have e:dR s=(Cu.new s).aE:=by unfold dR;rw[if_pos (by assumption)]
   rw[hnil e (by assumption),e];refine iC.mk _ (Cg _ (hrg (pE hc))) rfl ?_;refine ab.mk [.cell 0 0 4,.swap 0 6] ?_<;>(repeat' first|trivial)
 all_goals
  have h0:¬(Cu.new s).aE≠0:=by assumption
  obtain⟨l1,l2,l3,l4,_⟩:=hn (by omega);have hkk:=(Cu.new s).next.2.k.toNat_lt;have le:=l1.1;have he:(Cu.new s).e=s.length:=rfl;have fit:=j0 32 (Cu.new s).next.2 [] (Cu.new s).next.1 l1
 . exact⟨by omega,l1,by decide,⟨[],rfl⟩,by show 0+_+1<=_;omega⟩
 . have e:dR s=(gv 32 (Cu.new s).next.2 [] (Cu.new s).next.1).1:=by unfold dR;rw[if_neg h0,if_pos (by assumption)]
   rw[hnil e (by assumption),e];refine iC.mk _ (Cg _ (hrg (CY 32 _ _ _ l1))) rfl ?_;refine ab.mk [.cell 0 0 4,.swap 0 6] ?_<;>(repeat' first|trivial)
 all_goals
  have h1:¬(gv 32 (Cu.new s).next.2 [] (Cu.new s).next.1).1≠0:=by assumption
  have f:=fit (by omega)
 . exact⟨trivial,f.live.1,f.live.2.2⟩
 . have e:dR s=2:=by unfold dR;rw[if_neg h0,if_neg h1,if_pos (by assumption)]
   rw[hnil e (by decide),e];refine iC.mk _ (Cg 2 (by decide)) rfl ?_;refine ab.mk [.cell 0 0 4,.swap 0 6] ?_<;>(repeat' first|trivial)
 . have e:dR s=0:=by unfold dR;rw[if_neg h0,if_neg h1,if_neg (by assumption)]
   have el:dS s=(gv 32 (Cu.new s).next.2 [] (Cu.new s).next.1).2.1:=by unfold dS;rw[if_pos e]
   rw[el,e];refine iC.mk _ (OW _ ?_) rfl ?_
   . (repeat' first|trivial|rfl|refine And.intro ?_ ?_)
   refine ab.mk [.swap 0 4] ?_<;>(repeat' first|trivial)
structure NP where
 w:gA
 b:gA
 p:gA
 e:Nat
 c:Int
def bV(t:gA) (i:Nat):NP:=
 ⟨sub t (bL t i 45 45) (aP t i).1,
  if(aP t i).2=0/\dj t (aP t i).1 46 46=true then sub t ((aP t i).1+1) (bT t (aP t i)).1 else[],
  if(bT t (aP t i)).2=0/\dj t (bT t (aP t i)).1 101 69=true then sub t ((bT t (aP t i)).1+1) (cE t i).1 else[],
  (cE t i).1,(cE t i).2⟩
theorem VM{c:Cu} (h:c.cg.2.k≠0):c.cg.1.c=0:=by
 unfold Cu.cg at h⊢;by_cases h0:c.c≠0
 . rw[if_pos h0] at h;exact absurd rfl h
 rw[if_neg h0] at h⊢;have e3:({c with p:=dP dx c.ai c.p}:Cu).c=0:=by show c.c=0;omega
 generalize ({c with p:=dP dx c.ai c.p}:Cu) =d at*;have hh:∀(x:CO) (k:UInt8),(held x k).2.k≠0->(held x k).1.c=0:=fun x k h=>by
  unfold held at h⊢;by_cases z:x.1.c=0
  . exact z
  . rw[if_neg z] at h;exact absurd rfl h
 have hw:∀k,(d.fv k).2.k≠0->(d.fv k).1.c=0:=fun k h=>by
  unfold Cu.fv at h⊢;by_cases z:jG d (spell k) 0≠0
  . rw[if_pos z] at h;exact absurd rfl h
  . rw[if_neg z];exact e3
 unfold Cu.j8 at h⊢;repeat' split at h
 all_goals first
  |exact absurd rfl h
  |skip
 . rename_i q1 q2;rw[if_neg q1,if_pos q2];exact e3
 . rename_i q1 q2 q3;rw[if_neg q1,if_neg q2,if_pos q3];exact hh _ _ h
 . rename_i q1 q2 q3 q4;rw[if_neg q1,if_neg q2,if_neg q3,if_pos q4];exact hh _ _ h
 . rename_i q1 q2 q3 q4 q5;rw[if_neg q1,if_neg q2,if_neg q3,if_neg q4,if_pos q5];exact hw _ h
 . rename_i q1 q2 q3 q4 q5 q6;rw[if_neg q1,if_neg q2,if_neg q3,if_neg q4,if_neg q5,if_pos q6];exact hw _ h
def upT:List V->List Tk
 |[]=>[]
 |.agg [.int _ a,.str t]::r=>⟨byte a,t⟩::upT r
 |_::r=>default::upT r
def al:List V->List Nd
 |[]=>[]
 |.agg [.int _ a,.str k,.str t,.int _ n]::r=>⟨byte a,k,t,n⟩::al r
 |_::r=>default::al r
@[simp] theorem eh(l:List Nd):al (l.map aW) =l:=by
 induction l with
 |nil=>rfl
 |cons b s ih=>
   have h:byte (b.k.toNat:Int) =b.k:=eX _;simp only[List.map_cons,aW,eNc,al,ih,h]
def gK(l:List V):Prop:=l=(al l).map aW
theorem pj{l:List Nd}:gK (l.map aW):=by unfold gK;rw[eh]
abbrev eNb(L:List Nd):O:=.buf 4 0 (L.map aW)
def upK:List V->List gA
 |[]=>[]
 |.str t::r=>t::upK r
 |_::r=>[]::upK r
def sq(l:List V):Prop:=l=(upK l).map V.str

-- #name r13value truchmanref13.value
-- #name r13inner truchmanref13.inner
def uX(R:gA->Int×List Nd):Sm:=fun args σ=>match args,σ with
 |[.str s],[]=>some (s.length<=60000000,.tuple [.buf 0,.int .i64 (R s).1],some [eNb (R s).2])
 |_,_=>none
theorem De{R:gA->Int×List Nd} (hR:∀s,R s=(dR s,dS s)):ax 5 (uX R):=by
 intro args sg pre x r he hp;unfold uX at he;split at he<;>cases he;rw[hR];exact RZ _ hp
theorem Td(d:Nat) {c:Cu} (hc:c.live) (t:Tk) (key:gA) (h:(gv d t key c).1=0):(gv d t key c).2.1.length<=c.s.length+1:=by
 have f:=j0 d t key c hc h;have h1:=f.len;obtain⟨h3,h4⟩:=f.live.1;rw[f.e] at h3 h4;rw[f.s] at h4;omega
theorem Z3{s:gA} (h:s.length<=60000000):(dS s).length<=s.length+1:=by
 unfold dS;split
 . rename_i h0;have hc:(Cu.new s).live:=⟨⟨bu _,cb _⟩,rfl,h⟩
   unfold dR at h0;by_cases h1:(Cu.new s).aE≠0
   . rw[if_pos h1] at h0;exact absurd h0 h1
   rw[if_neg h1] at h0;obtain⟨l1,l2,_⟩:=bD hc (by omega);by_cases h2:(gv 32 (Cu.new s).next.2 [] (Cu.new s).next.1).1≠0
   . rw[if_pos h2] at h0;exact absurd h0 h2
   have:=Td 32 l1 (Cu.new s).next.2 [] (by omega);rw[l2] at this;exact this
 . exact bu _
theorem va{t:gA} {i j k:Nat} (h:i<=j) (h2:j<=k):sub t i k=sub t i j++sub t j k:=by
 unfold sub;rw[<-List.take_append_drop (j-i) ((t.take k).drop i),List.drop_drop,List.take_drop,List.take_take];rw[show i+(j-i) =j by omega,Nat.min_eq_left h2]
theorem MU(t:gA):sub t 0 t.length=t:=by unfold sub;rw[List.take_length];rfl
theorem vb{t:gA} {i j:Nat} (h:j<=t.length):(sub t i j).length=j-i:=by unfold sub;rw[d9,d8];omega
theorem sub_one{t:gA} {i:Nat} (h:i<t.length):sub t i (i+1) =[t.getD i 0]:=vR 0 h
theorem zQ{t:gA} {i:Nat} (h:(dG t i).2=0):i<(dG t i).1/\aY (sub t i (dG t i).1):=by
 unfold dG at h⊢;split
 . rename_i q;refine⟨q,fun b hb=>?_⟩;have e:sub t i (iv t i) =(t.drop i).takeWhile bq:=by
    unfold sub iv dP;rw[List.drop_take,show i+((t.drop i).takeWhile bq).length-i=((t.drop i).takeWhile bq).length by omega];exact List.prefix_iff_eq_take.1 (List.takeWhile_prefix _)|>.symm
   rw[e] at hb;exact List.all_eq_true.1 List.all_takeWhile _ hb
 . rename_i q;rw[if_neg q] at h;split at h<;>cases h
structure NumF(s:gA) (m:Bool) (w b p:gA) (e:UInt8):Prop where
 eq:s=(if m=true then[45] else[])++(w++((if b=[] then[] else 46::b)++(if p=[] then[] else e::p)))
 w0:w≠[]
 wd:aY w
 bd:aY b
 he:e.toNat=101\/e.toNat=69
 pd:p=[]\/∃g ds,p=g++ds/\(g=[]\/g=[43]\/g=[45])/\ds≠[]/\aY ds
theorem Mv{t:gA} {i a b:Nat}:(bL t i a b=i/\sub t i (bL t i a b) =[]/\dj t i a b=false)\/(bL t i a b=i+1/\sub t i (bL t i a b) =[t.getD i 0]/\dj t i a b=true):=by
 unfold bL;cases h:dj t i a b with
 |true=>right;rw[if_pos rfl];exact⟨rfl,sub_one (j6.1 h).1,rfl⟩
 |false=>left;rw[if_neg (by decide)];exact⟨rfl,sub_self _ _,rfl⟩
theorem DN{s:gA} (h1:(cE s 0).1=s.length) (h2:(cE s 0).2=0):
   ∃e,NumF s (dj s 0 45 45) (bV s 0).w (bV s 0).b (bV s 0).p e:=by
 have g1:=sE s 0 45 45 (bu _);have w1:(aP s 0).2=0->bL s 0 45 45<(aP s 0).1/\(aP s 0).1<=s.length/\aY (sub s (bL s 0 45 45) (aP s 0).1):=by
  unfold aP;split
  . rename_i q;have q:=j6.1 q;refine fun _=>⟨Nat.lt_succ_self _,by dsimp only;omega,?_⟩
    show aY (sub s _ (_+1));rw[sub_one q.1];intro b hb;rw[List.mem_singleton.1 hb];unfold bq;rw[decide_eq_true_eq];omega
  . intro h;exact⟨(zQ h).1,(qH s _ g1.2).2,(zQ h).2⟩
 unfold cE ke at h1 h2;have b0:(bT s (aP s 0)).2=0:=by
  by_cases z:(bT s (aP s 0)).2=0
  . exact z
  . rw[if_neg (fun q=>z q.1)] at h2;exact h2
 have w0:(aP s 0).2=0:=by
  by_cases z:(aP s 0).2=0
  . exact z
  . unfold bT at b0;rw[if_neg (fun q=>z q.1)] at b0;exact b0
 obtain⟨w1,w2,w3⟩:=w1 w0;have B:∃b,(if(aP s 0).2=0/\dj s (aP s 0).1 46 46=true then sub s ((aP s 0).1+1) (bT s (aP s 0)).1 else[]) =b/\sub s (aP s 0).1 (bT s (aP s 0)).1=(if b=[] then[] else 46::b)/\aY b/\(aP s 0).1<=(bT s (aP s 0)).1/\(bT s (aP s 0)).1<=s.length:=by
  unfold bT at b0⊢;by_cases z:(aP s 0).2=0/\dj s (aP s 0).1 46 46=true
  . rw[if_pos z] at b0⊢;rw[if_pos z];have q:=j6.1 z.2;have n:=zQ b0;have n2:=(qH s ((aP s 0).1+1) (by omega)).2;refine⟨_,rfl,?_,n.2,by omega,n2⟩;have hl:=vb (t:=s) (i:=(aP s 0).1+1) n2;rw[if_neg (fun e=>by rw[e] at hl;simp at hl;omega),va (i:=(aP s 0).1) (Nat.le_succ _) (by omega:(aP s 0).1+1<=_),sub_one q.1];rw[show s.getD (aP s 0).1 0=46 from UInt8.toNat_inj.1 (by have:=q.2;show _=46;omega)];rfl
  . rw[if_neg z,if_neg z];exact⟨_,rfl,by rw[if_pos rfl];exact sub_self _ _,fun _ hb=>(by cases hb),cb _,w2⟩
 obtain⟨b,eb,b1,b2,b3,b4⟩:=B;have P:∃p e,(if(bT s (aP s 0)).2=0/\dj s (bT s (aP s 0)).1 101 69=true then sub s ((bT s (aP s 0)).1+1) (cE s 0).1 else[]) =p/\sub s (bT s (aP s 0)).1 s.length=(if p=[] then[] else e::p)/\((e:UInt8).toNat=101\/e.toNat=69)/\(p=[]\/∃g ds,p=g++ds/\(g=[]\/g=[43]\/g=[45])/\ds≠[]/\aY ds):=by
  unfold cE ke;by_cases z:(bT s (aP s 0)).2=0/\dj s (bT s (aP s 0)).1 101 69=true
  . rw[if_pos z] at h1 h2⊢;rw[if_pos z];have q:=j6.1 z.2;generalize (bT s (aP s 0)).1=i at*;have g2:=sE s (i+1) 43 45 (by omega);have n:=zQ h2;refine⟨_,s.getD i 0,rfl,?_,q.2,?_⟩
    . have hl:=vb (t:=s) (i:=i+1) (j:=(dG s (bL s (i+1) 43 45)).1) (by omega);rw[if_neg (fun e=>by rw[e] at hl;simp at hl;omega),h1,va (i:=i) (Nat.le_succ _) (by omega:i+1<=_),sub_one q.1];rfl
    . right;refine⟨sub s (i+1) (bL s (i+1) 43 45),sub s (bL s (i+1) 43 45) (dG s (bL s (i+1) 43 45)).1,va g2.1 (by omega),?_,?_,n.2⟩
      . rcases Mv (t:=s) (i:=i+1) (a:=43) (b:=45) with ⟨_,r,_⟩|⟨_,r,r2⟩
        . exact .inl r
        . rw[r];right;rcases(j6.1 r2).2 with k|k
          . left;rw[show s.getD (i+1) 0=43 from UInt8.toNat_inj.1 k]
          . right;rw[show s.getD (i+1) 0=45 from UInt8.toNat_inj.1 k]
      . have hl:=vb (t:=s) (i:=bL s (i+1) 43 45) (j:=(dG s (bL s (i+1) 43 45)).1) (by omega);intro e;rw[e] at hl;simp at hl;omega
  . rw[if_neg z] at h1 h2⊢;refine⟨_,101,rfl,?_,by decide,.inl rfl⟩;rw[if_pos rfl,h1];exact sub_self _ _
 obtain⟨p,e,ep,p1,p2,p3⟩:=P;refine⟨e,?_⟩;have hw:(bV s 0).w=sub s (bL s 0 45 45) (aP s 0).1:=rfl;have hb:(bV s 0).b=b:=eb;have hp:(bV s 0).p=p:=ep;rw[hw,hb,hp];refine⟨?_,?_,w3,b2,p2,p3⟩
 . rw[<-p1,<-b1,<-va b3 b4,<-va (Nat.le_of_lt w1) w2];rcases Mv (t:=s) (i:=0) (a:=45) (b:=45) with ⟨r1,r2,r3⟩|⟨r1,r2,r3⟩
   . rw[r3,r1,if_neg (by decide),List.nil_append,MU]
   . rw[r3,r1,if_pos rfl];have:s.getD 0 0=45:=UInt8.toNat_inj.1 (by have:=(j6.1 r3).2;show _=45;omega);rw[r1,this] at r2;rw[<-r2,<-va (Nat.le_succ _) (by have:=(j6.1 r3).1;omega),MU]
 . have hl:=vb (t:=s) (i:=bL s 0 45 45) w2;intro e;rw[e] at hl;simp at hl;omega
end Go.Proofs.YtchllohbglebiaaGreatDoor
