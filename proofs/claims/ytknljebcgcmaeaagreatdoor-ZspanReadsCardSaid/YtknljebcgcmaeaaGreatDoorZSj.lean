/-
  A part of the proof.
-/
import Derived.Test.YtknljebcgcmaeaaGreatDoorVgZC
import Derived.Shelf.Sort.Plain
import Derived.Shelf.Slices.In.SortNone
import Derived.Test.YtknljebcgcmaeaaGreatDoorJSm
import Derived.Shelf.Small.Strs
import Derived.Test.YtknljebcgcmaeaaGreatDoorProg
set_option linter.unusedSimpArgs false
set_option linter.unusedVariables false
set_option maxHeartbeats 4000000
set_option maxRecDepth 100000
namespace Go.VG
open Go Go.Sort Go.Shelf Go.Proofs
abbrev leB(x y:g8):Bool:=decide (x<=y)
def sorted(l:List g8):List (g8):=l.mergeSort leB
theorem sorted_perm(l:List g8):(sorted l).Perm l:=List.mergeSort_perm _ _
theorem G1(l:List g8):(sorted l).length=l.length:=(sorted_perm l).length_eq
theorem Ym{L:List g8} {i:Nat} {x:V} (h:(L.map V.str)[i]?=some x):∃s,L[i]?=some s/\x=.str s:=by
 rw[List.getElem?_map] at h;cases hs:L[i]? with
 |none=>rw[hs] at h;cases h
 |some s=>rw[hs] at h;exact⟨s,rfl,(Option.some.inj h).symm⟩
theorem Mb{st:St} {g:aw} {L:List g8} {look:Nat->Option Value}:cq st g (L.map V.str) 1 look 0↔∀(i:Nat) (s:g8),L[i]?=some s->s.length<=maxLen/\look i=some (encStr s):=by
 rw[gO];constructor
 . intro h i s hs;obtain⟨u,h1,h2,_,h3⟩:=h i (.str s) (by rw[List.getElem?_map,hs];rfl);simp only[VR] at h1;obtain⟨rfl,hl⟩:=h1;have:=h3 0 (by omega);rw[Nat.zero_add,Nat.mul_one,Nat.add_zero] at this;exact⟨hl,this⟩
 . intro h i x hx;obtain⟨s,hs,rfl⟩:=Ym hx;obtain⟨hl,he⟩:=h i s hs;refine⟨encStr s,?_,rfl,?_,fun j hj=>?_⟩
   . unfold VR;exact⟨rfl,hl⟩
   . intro v hv;have:v=.string ⟨s.toArray⟩:=by simpa[Value.cells] using hv
     subst this;rfl
   . have:j=0:=by omega
     subst this;rw[Nat.zero_add,Nat.mul_one,Nat.add_zero,he];rfl
theorem Jf{w:World} {n b:Nat} {d:Array g8} {os:Array Obj} {k:Nat} (hk:k<w.heap.size):
   (Sort.grow (putRow encStr (Sort.ahead w n) b 0 d) os).heap[k]?=if b=k then(w.heap[k]?).map (onCells (putCells encStr 0 d)) else w.heap[k]?:=by
 show((w.heap.modify b (onCells (putCells encStr 0 d)))++os)[k]?=_;rw[Array.getElem?_append_left (by simpa using hk),Array.getElem?_modify]
theorem Ya{w:World} {n b:Nat} {d:Array g8} {os:Array Obj}:w.heap.size<=(Sort.grow (putRow encStr (Sort.ahead w n) b 0 d) os).heap.size:=by
 show w.heap.size<=((w.heap.modify b (onCells (putCells encStr 0 d)))++os).size;rw[Array.size_append,Array.size_modify];exact Nat.le_add_right _ _
theorem WM{c:Array Value} {d:List g8} {i:Nat} {s:g8} (hc:d.length<=c.size) (h:d[i]?=some s):(putCells encStr 0 d.toArray c)[i]?=some (encStr s):=by
 have hi:i<d.length:=(gB.1 h).1;unfold putCells;rw[Array.getElem?_mapIdx,Array.getElem?_eq_getElem (by omega)];show some (if 0<=i/\i<0+d.toArray.size then encStr d.toArray[i-0]! else _) =_;rw[if_pos ⟨ci _,by simpa using hi⟩]
 congr 2
 rw[Nat.sub_zero,getElem!_pos _ _ (by simpa using hi)];have:=(gB.1 h).2;simpa using this
theorem Yd{P:Program} {gl:Nat->Option (List V)} {f:FuncId} (ρ:Ren) (Ly:Lays.n190 P ρ) (hf:ρ.f 190=f) (hc:mz P f) (L:List g8) (hbig:L.length<4611686018427387904):
   eH P gl f [.buf 0] [.buf 1 0 (L.map V.str)] (.tuple []) (some [.buf 1 0 ((sorted L).map V.str),.dead]):=by
 refine⟨hc,fun E st g w vs R hg hv=>?_⟩;simp only[aE] at hv;obtain⟨u,us,rfl,hu,rfl⟩:=hv;simp only[VR] at hu;obtain⟨_,rfl⟩:=hu;have ho:=R.ob 0 _ rfl;simp only[dK] at ho;obtain⟨_,h2,_,h4,h5,h6,h7⟩:=ho;rw[aB] at h4 h5 h6;by_cases hL:L=[]
 . subst hL;rw[show sorted []=[] from List.length_eq_zero_iff.1 (G1 [])];have hC:=Any.slices_Sort_string_none Ly (g 0).base (g 0).cap w;rw[hf] at hC;show Calls P f #[.slice (g 0).base (g 0).len (g 0).cap] w _;rw[show(g 0).len=0 from h5];refine hC.mono ?_;rintro e w' ⟨rfl,rfl⟩;refine⟨_,st,_,rfl,R.C8 (base:=none) (sz:=0),?_,fun _ _ _ h=>h,by simp,fun i o h _=>?_⟩
   . simp only[VR];exact⟨_,rfl,by simp[aE]⟩
   . refine cI ?_;have:i<1:=(gB.1 h).1;show i≠1;omega
 have hpos:0<L.length:=List.length_pos_iff.2 hL;rcases h7 with ⟨h7,_⟩|⟨b,c,el,fr,hb,hbase,hG,hh,hsz,hrow,hfr,hst⟩
 . omega
 rw[Nat.mul_one] at hsz;rw[Mb] at hrow;have hbs:b<w.heap.size:=mE hh;have hH:Holds encStr w b 0 L.toArray:=fun j hj=>by
  have hj:j<L.length:=by simpa using hj
  rw[Nat.zero_add];have h:=(hrow j (L[j]) (am hj)).2;refine⟨?_,IS hh hfr (by omega)⟩;rw[gS hh,h,getElem!_pos _ _ (by simpa using hj)];simp
 have hC:=Any.slices_Sort_string Ly b 0 (g 0).cap L w hH hbs hbig;rw[hf] at hC;show Calls P f #[.slice (g 0).base (g 0).len (g 0).cap] w _;rw[hbase,h5];refine hC.mono ?_;rintro e w' ⟨rfl,n,os,rfl⟩;have hother:∀k,k<w.heap.size->k≠b->(Sort.grow (putRow encStr (Sort.ahead w n) b 0 (L.mergeSort fun x y=>decide (x<=y)).toArray) os).heap[k]?=w.heap[k]?:=fun k hk hkb=>by
  rw[Jf hk,if_neg (fun q=>hkb q.symm)]
 have hself:(Sort.grow (putRow encStr (Sort.ahead w n) b 0 (L.mergeSort fun x y=>decide (x<=y)).toArray) os).heap[b]?=some (.cells (putCells encStr 0 (sorted L).toArray c) el fr):=by
  rw[Jf hbs,if_pos rfl,hh];rfl
 have hln:=G1 L;have R':aO E st g [.buf 1 0 ((sorted L).map V.str)] (Sort.grow (putRow encStr (Sort.ahead w n) b 0 (L.mergeSort fun x y=>decide (x<=y)).toArray) os):={
  os:=R.os
  tape:=R.tape
  output:=R.output
  size:=Nat.le_trans R.size Ya
  gnew:=R.gnew
  sub:=R.sub
  stG:=R.stG
  stw:=fun b0 o v h=>by
   have hne:b0≠b:=fun q=>by
    have:=hst o v (q▸h);omega
   have hw:=R.stw b0 o v h;obtain⟨cc,el',fr',hh'⟩:=R.Ar h;rw[qq (hother b0 (mE hh') hne)];exact hw
  fr:=fun b0 h=>by
   have hlt:b0<E.w0.heap.size:=Nat.lt_of_not_le fun q=>h (R.gnew b0 q);rw[hother b0 (Nat.lt_of_lt_of_le hlt R.size) (fun q=>h (q▸hG))];exact R.fr b0 h
  ob:=fun i o h=>by
    cases i with
    |succ i=>cases h
    |zero=>
      cases Option.some.inj h;simp only[dK,aB];rw[hln];refine⟨Nat.one_pos,h2,ci _,h4,h5,h6,.inr ⟨b,_,el,fr,hb,hbase,hG,hself,?_,?_,?_,hst⟩⟩
      . unfold putCells;rw[Array.size_mapIdx,hsz,Nat.mul_one]
      . rw[Mb];intro i s hs;obtain⟨j,hj⟩:=List.mem_iff_getElem?.1 ((sorted_perm L).mem_iff.1 (List.mem_of_getElem? hs));exact⟨(hrow j s hj).1,WM (by omega) hs⟩
      . refine⟨hfr.1,fun o h=>hfr.2 o ?_⟩;unfold putCells at h
        rwa [Array.size_mapIdx] at h
  inj:=R.inj}
 refine⟨_,st,_,rfl,R'.C8 (base:=none) (sz:=0),?_,fun _ _ _ h=>h,by simp,fun i o h _=>?_⟩
 . simp only[VR];exact⟨_,rfl,by simp[aE]⟩
 . refine cI ?_;have:i<1:=(gB.1 h).1;show i≠1;omega
end Go.VG
namespace Go.Proofs.YtknljebcgcmaeaaGreatDoor
open Go Go.VG
abbrev Ky:=g8
theorem CF(a b:Ky):a<b\/a=b\/b<a:=by
 by_cases h:a<b
 . exact .inl h
 . by_cases h2:b<a
   . exact .inr (.inr h2)
   . exact .inr (.inl (List.le_antisymm (List.not_lt.1 h2) (List.not_lt.1 h)))
theorem rk(a:Ky):¬a<a:=List.lt_irrefl a
theorem yH{a b c:Ky} (h:a<b) (h2:b<c):a<c:=List.lt_trans h h2
def cZ:List az->az->List az
 |[],a=>[a]
 |b::r,a=>if b.key<a.key then b::cZ r a else if b.key=a.key then a::r else a::b::r
mutual
def jW:bc->bc
 |.mk k t n b l m=>.mk k t n b (su l) (dz m [])
def su:List bc->List bc
 |[]=>[]
 |v::r=>jW v::su r
def lQ:az->az
 |.mk k v=>.mk k (jW v)
def dz:List az->List az->List az
 |[],acc=>acc
 |a::r,acc=>dz r (cZ acc (lQ a))
end
theorem Ot(l:List bc):su l=l.map jW:=by
 induction l with
 |nil=>simp[su]
 |cons v r ih=>simp[su,ih]
theorem Hu(l k:List az) (acc:List az):dz (l++k) acc=dz k (dz l acc):=by
 induction l generalizing acc with
 |nil=>simp[dz]
 |cons a r ih=>simp only[List.cons_append,dz];exact ih _
theorem Hw(a:az) (acc:List az):dz [a] acc=cZ acc (lQ a):=by simp[dz]
theorem Ht(a:az):(lQ a).key=a.key:=by cases a;simp[lQ,az.key]
theorem Oq(a:az):(lQ a).value=jW a.value:=by cases a;simp[lQ,az.value]
def eN(l:List az):Prop:=l.Pairwise fun a b=>a.key<b.key
theorem Ju{R:List az} {a x:az} (h:eN R):x∈cZ R a↔x=a\/(x∈R/\x.key≠a.key):=by
 induction R with
 |nil=>simp[cZ]
 |cons b r ih=>
   have h1:=List.pairwise_cons.1 h;have ih:=ih h1.2;rw[cZ];split
   . rename_i hlt;rw[List.mem_cons,ih,List.mem_cons];constructor
     . rintro(rfl|h2|⟨h2,h3⟩)
       . exact .inr ⟨.inl rfl,fun q=>rk _ (q▸hlt)⟩
       . exact .inl h2
       . exact .inr ⟨.inr h2,h3⟩
     . rintro(h2|⟨rfl|h2,h3⟩)
       . exact .inr (.inl h2)
       . exact .inl rfl
       . exact .inr (.inr ⟨h2,h3⟩)
   . split
     . rename_i hlt heq;rw[List.mem_cons,List.mem_cons];constructor
       . rintro(h2|h2)
         . exact .inl h2
         . exact .inr ⟨.inr h2,fun q=>rk _ (by have:=h1.1 x h2;rw[heq,q] at this;exact this)⟩
       . rintro(h2|⟨rfl|h2,h3⟩)
         . exact .inl h2
         . exact absurd heq h3
         . exact .inr h2
     . rename_i hlt hne;have hgt:a.key<b.key:=by rcases CF b.key a.key with q|q|q;exact absurd q hlt;exact absurd q hne;exact q
       rw[List.mem_cons];constructor
       . rintro(h2|h2)
         . exact .inl h2
         . refine .inr ⟨h2,fun q=>?_⟩;rcases List.mem_cons.1 h2 with rfl|h4
           . exact hne q
           . have:=yH hgt (h1.1 x h4);rw[q] at this;exact rk _ this
       . rintro(h2|⟨h2,h3⟩)
         . exact .inl h2
         . exact .inr h2
theorem Jw{R:List az} {a:az} (h:eN R):eN (cZ R a):=by
 induction R with
 |nil=>exact List.pairwise_singleton _ _
 |cons b r ih=>
   have h1:=List.pairwise_cons.1 h;have ih:=ih h1.2;rw[cZ];split
   . rename_i hlt;refine List.pairwise_cons.2 ⟨fun x hx=>?_,ih⟩;rcases(Ju h1.2).1 hx with rfl|⟨hx,_⟩
     . exact hlt
     . exact h1.1 x hx
   . split
     . rename_i hlt heq;exact List.pairwise_cons.2 ⟨fun x hx=>heq▸h1.1 x hx,h1.2⟩
     . rename_i hlt hne;have hgt:a.key<b.key:=by rcases CF b.key a.key with q|q|q;exact absurd q hlt;exact absurd q hne;exact q
       refine List.pairwise_cons.2 ⟨fun x hx=>?_,h⟩;rcases List.mem_cons.1 hx with rfl|hx
       . exact hgt
       . exact yH hgt (h1.1 x hx)
theorem Ma:∀{A B:List az},eN A->eN B->(∀x,x∈A↔x∈B)->A=B
 |[],[],_,_,_=>rfl
 |[],b::B,_,_,h=>absurd ((h b).2 List.mem_cons_self) List.not_mem_nil
 |a::A,[],_,_,h=>absurd ((h a).1 List.mem_cons_self) List.not_mem_nil
 |a::A,b::B,ha,hb,h=>by
   have ha1:=List.pairwise_cons.1 ha;have hb1:=List.pairwise_cons.1 hb;have hab:a=b:=by
    rcases List.mem_cons.1 ((h a).1 List.mem_cons_self) with q|q
    . exact q
    . rcases List.mem_cons.1 ((h b).2 List.mem_cons_self) with q2|q2
      . exact q2.symm
      . exact absurd (yH (hb1.1 a q) (ha1.1 b q2)) (rk _)
   subst hab;refine congrArg _ (Ma ha1.2 hb1.2 fun x=>?_);constructor
   . intro hx;rcases List.mem_cons.1 ((h x).1 (d8 _ hx)) with q|q
     . exact absurd (q▸ha1.1 x hx) (rk _)
     . exact q
   . intro hx;rcases List.mem_cons.1 ((h x).2 (d8 _ hx)) with q|q
     . exact absurd (q▸hb1.1 x hx) (rk _)
     . exact q
def br(k:Ky) (i:Int):List (Ky×Int)->List (Ky×Int)
 |[]=>[(k,i)]
 |(h,j)::r=>if h=k then(h,i)::r else(h,j)::br k i r
def di(l:List az):Nat->List (Ky×Int)
 |0=>[]
 |n+1=>br (l.getD n default).key n (di l n)
abbrev mS(p:List (Ky×Int)):List (V×Int):=p.map fun q=>(.str q.1,q.2)
def jL(p:List (Ky×Int)) (k:Ky):Int:=getM (mS p) (.str k)
theorem tI(q:Ky×Int) (p:List (Ky×Int)):mS (q::p) =(.str q.1,q.2)::mS p:=rfl
theorem C0(h k:Ky) (j:Int) (es:List (V×Int)):bN ((.str h,j)::es) (.str k) =if h=k then some (0,j) else match bN es (.str k) with
   |some (j,q) =>some (j+1,q)
   |none=>none:=by
 simp only[bN,kZ,ra];by_cases q:h=k
 . subst q;simp
 . rw[if_neg q,show(h==k) =false from beq_eq_false_iff_ne.2 q];rfl
theorem YM{p:List (Ky×Int)} {k:Ky} {i:Int} {j:Nat} {q:Int} (h:bN (mS p) (.str k) =some (j,q)):mS (br k i p) =iZ (mS p) j i:=by
 induction p generalizing j with
 |nil=>simp[mS,bN] at h
 |cons x r ih=>
   obtain⟨a,b⟩:=x;rw[tI,C0] at h;rw[br];by_cases e:a=k
   . rw[if_pos e] at h⊢;cases h;rfl
   . rw[if_neg e] at h⊢;cases hf:bN (mS r) (.str k) with
     |none=>rw[hf] at h;cases h
     |some y=>
       rw[hf] at h;obtain⟨j',q'⟩:=y;cases h;rw[tI,tI,ih hf];rfl
theorem YN{p:List (Ky×Int)} {k:Ky} {i:Int} (h:bN (mS p) (.str k) =none):mS (br k i p) =mS p++[(.str k,i)]:=by
 induction p with
 |nil=>rfl
 |cons x r ih=>
   obtain⟨a,b⟩:=x;rw[tI,C0] at h;rw[br];by_cases e:a=k
   . rw[if_pos e] at h;cases h
   . rw[if_neg e] at h⊢;cases hf:bN (mS r) (.str k) with
     |none=>rw[tI,ih hf];rfl
     |some y=>rw[hf] at h;cases h
theorem LK(p:List (Ky×Int)) (k k':Ky) (i:Int):jL (br k i p) k'=if k'=k then i else jL p k':=by
 have e:∀(p:List (Ky×Int)) (h k:Ky) (j:Int),jL ((h,j)::p) k=if h=k then j else jL p k:=fun p h k j=>by
  unfold jL getM;rw[tI,C0];by_cases q:h=k
  . rw[if_pos q,if_pos q]
  . rw[if_neg q,if_neg q];cases bN (mS p) (.str k)<;>rfl
 induction p with
 |nil=>
   rw[br,e];by_cases q:k=k'
   . rw[if_pos q,if_pos q.symm]
   . rw[if_neg q,if_neg (fun z=>q z.symm)]
 |cons x r ih=>
   obtain⟨a,b⟩:=x;rw[br,e];by_cases q:a=k
   . rw[if_pos q,e,q];by_cases q2:k=k'
     . rw[if_pos q2,if_pos q2.symm]
     . rw[if_neg q2,if_neg (fun z=>q2 z.symm),if_neg q2]
   . rw[if_neg q,e,ih];by_cases q2:a=k'
     . rw[if_pos q2,if_pos q2,if_neg (fun z=>q (q2.trans z))]
     . rw[if_neg q2,if_neg q2]
theorem Gi(p:List (Ky×Int)) (k:Ky) (i:Int):(br k i p).map Prod.fst=if k∈p.map Prod.fst then p.map Prod.fst else p.map Prod.fst++[k]:=by
 induction p with
 |nil=>simp[br]
 |cons x r ih=>
   obtain⟨a,b⟩:=x;rw[br];by_cases q:a=k
   . rw[if_pos q];subst q;simp
   . rw[if_neg q,List.map_cons,ih,List.map_cons];have e:(k∈a::r.map Prod.fst)↔k∈r.map Prod.fst:=by
      rw[List.mem_cons];exact⟨fun h=>h.resolve_left fun z=>q z.symm,.inr⟩
     by_cases q2:k∈r.map Prod.fst
     . rw[if_pos q2,if_pos (e.2 q2)]
     . rw[if_neg q2,if_neg (fun z=>q2 (e.1 z))];rfl
structure PlOk(l:List az) (n:Nat):Prop where
 nd:((di l n).map Prod.fst).Nodup
 rs:eN (dz (l.take n) [])
 mem:∀x:az,x∈dz (l.take n) []↔(x.key∈(di l n).map Prod.fst/\x.value=jW (l.getD (jL (di l n) x.key).toNat default).value)
 pos:∀k,0<=jL (di l n) k/\(k∈(di l n).map Prod.fst->jL (di l n) k<n)
theorem Dd(l:List az):∀n,n<=l.length->PlOk l n
 |0,_=>⟨List.nodup_nil,List.Pairwise.nil,fun x=>by simp[di,dz],fun k=>⟨by simp[di,jL,mS,getM,bN],fun h=>by simp[di] at h⟩⟩
 |n+1,h=>by
   have ih:=Dd l n (by omega);have ht:l.take (n+1) =l.take n++[l.getD n default]:=by
    rw[List.take_add_one,ac,am (show n<l.length by omega)];rfl
   have hc:dz (l.take (n+1)) []=cZ (dz (l.take n) []) (lQ (l.getD n default)):=by rw[ht,Hu,Hw]
   have hk:∀k,k∈(di l (n+1)).map Prod.fst↔k=(l.getD n default).key\/k∈(di l n).map Prod.fst:=fun k=>by
    rw[di,Gi];split
    . rename_i q;exact⟨.inr,fun z=>z.elim (fun z=>z▸q) id⟩
    . rw[List.mem_append,List.mem_singleton];exact Or.comm
   refine⟨?_,?_,fun x=>?_,fun k=>?_⟩
   . rw[di,Gi];split
     . exact ih.nd
     . rename_i q;exact List.nodup_append.2 ⟨ih.nd,by simp,fun a ha b hb=>by
        rw[List.mem_singleton] at hb;subst hb;exact fun z=>q (z▸ha)⟩
   . rw[hc];exact Jw ih.rs
   . rw[hc,Ju ih.rs,hk,ih.mem,Ht,di,LK];by_cases q:x.key=(l.getD n default).key
     . rw[if_pos q,Int.toNat_natCast];constructor
       . rintro(rfl|⟨_,z⟩)
         . exact⟨.inl q,Oq _⟩
         . exact absurd q z
       . rintro⟨_,z⟩;refine .inl ?_;generalize l.getD n default=a at*;obtain⟨k,v⟩:=x;obtain⟨k',v'⟩:=a;simp only[az.key,az.value] at q z;rw[lQ,q,z]
     . rw[if_neg q];constructor
       . rintro(rfl|⟨z,_⟩)
         . exact absurd (Ht _) q
         . exact⟨.inr z.1,z.2⟩
       . rintro⟨z1,z2⟩;exact .inr ⟨⟨z1.resolve_left q,z2⟩,q⟩
   . rw[di,LK];have hp:=ih.pos k;by_cases q:k=(l.getD n default).key
     . rw[if_pos q];exact⟨by omega,fun _=>by omega⟩
     . rw[if_neg q];refine⟨hp.1,fun z=>?_⟩;rw[<-di,hk] at z;have:=hp.2 (z.resolve_left q);omega
def zc(l:List az) (k:Ky):az:=.mk k (jW (l.getD (jL (di l l.length) k).toNat default).value)
theorem Ye{ks:List Ky} (h:ks.Nodup):(sorted ks).Pairwise (·<·):=by
 have h1:(sorted ks).Pairwise fun a b=>leB a b=true:=List.pairwise_mergeSort (fun a b c h1 h2=>by
  simp only[leB,decide_eq_true_eq] at*;exact List.le_trans h1 h2) (fun a b=>by
  simp only[leB,Bool.or_eq_true,decide_eq_true_eq];exact List.le_total a b) ks
 have h2:(sorted ks).Nodup:=(sorted_perm ks).nodup_iff.2 h;refine(h1.and h2).imp ?_;rintro a b ⟨q1,q2⟩;simp only[leB,decide_eq_true_eq] at q1;rcases CF a b with q|q|q
 . exact q
 . exact absurd q q2
 . exact absurd q (List.not_lt.2 q1)
theorem Ov(l:List az) {ks:List Ky} (h:ks.Perm ((di l l.length).map Prod.fst)):(sorted ks).map (zc l) =dz l []:=by
 have hp:=Dd l l.length (co _);have hm:=hp.mem;have hr:=hp.rs;rw[List.take_length] at hm hr;refine Ma ?_ hr fun x=>?_
 . unfold eN;rw[List.pairwise_map];exact(Ye (h.nodup_iff.2 hp.nd)).imp fun q=>q
 . rw[hm,List.mem_map,<-h.mem_iff,<-(sorted_perm ks).mem_iff];constructor
   . rintro⟨k,hk,rfl⟩;exact⟨hk,rfl⟩
   . rintro⟨hk,hv⟩;refine⟨x.key,hk,?_⟩;unfold zc;rw[<-hv];cases x;rfl
def less:List az->Ky->Nat
 |[],_=>0
 |b::r,k=>if b.key<k then less r k+1 else 0
theorem CN(l:List az) (k:Ky):less l k<=l.length:=by
 induction l with
 |nil=>exact co 0
 |cons b r ih=>
   rw[less];split
   . exact Nat.succ_le_succ ih
   . exact ci _
theorem CP{l:List az} {k:Ky} {j:Nat} (h:j<less l k):(l.getD j default).key<k:=by
 induction l generalizing j with
 |nil=>exact absurd h (Nat.not_lt_zero _)
 |cons b r ih=>
   rw[less] at h;split at h
   . cases j with
     |zero=>assumption
     |succ j=>exact ih (by omega)
   . exact absurd h (Nat.not_lt_zero _)
theorem CM{l:List az} {k:Ky} (h:less l k<l.length):¬(l.getD (less l k) default).key<k:=by
 induction l with
 |nil=>exact absurd h (Nat.not_lt_zero _)
 |cons b r ih=>
   rw[less] at h⊢;by_cases q:b.key<k
   . rw[if_pos q] at h⊢;exact ih (by simpa using h)
   . rw[if_neg q] at h⊢;exact q
theorem yi(l:List az) (a:az):cZ l a=l.take (less l a.key)++a::(if less l a.key<l.length/\(l.getD (less l a.key) default).key=a.key then l.drop (less l a.key+1) else l.drop (less l a.key)):=by
 induction l with
 |nil=>simp[cZ,less]
 |cons b r ih=>
   rw[cZ,less];by_cases q:b.key<a.key
   . rw[if_pos q,if_pos q,ih];have e:(less r a.key+1<(b::r).length/\((b::r).getD (less r a.key+1) default).key=a.key)↔(less r a.key<r.length/\(r.getD (less r a.key) default).key=a.key):=by simp
     by_cases z:less r a.key<r.length/\(r.getD (less r a.key) default).key=a.key
     . rw[if_pos z,if_pos (e.2 z)];rfl
     . rw[if_neg z,if_neg (fun y=>z (e.1 y))];rfl
   . rw[if_neg q,if_neg q];by_cases z:b.key=a.key
     . rw[if_pos z,if_pos ⟨Nat.succ_pos _,z⟩];rfl
     . rw[if_neg z,if_neg (fun y=>z y.2)];rfl
theorem Jt(l:List az) (a:az):(cZ l a).length<=l.length+1:=by
 induction l with
 |nil=>simp[cZ]
 |cons b r ih=>
   rw[cZ];split
   . simp only[List.length_cons];omega
   . split
     . simp only[List.length_cons];omega
     . simp only[List.length_cons];omega
theorem Su{l:List az} {a:az} {j m:Nat} (h:j=less l a.key) (h2:j<l.length) (h3:(l.getD j default).key=a.key) (hm:m=j+1):[]++List.take j (aS l)++[ea a]++List.drop m (aS l) =aS (cZ l a):=by
 subst hm;rw[yi,<-h,if_pos ⟨h2,h3⟩,jF,jF,gq,List.map_cons,List.map_take,List.map_drop];simp
theorem Jv{l:List az} {a:az} {j:Nat} (h:j=less l a.key) (h2:¬(j<l.length/\(l.getD j default).key=a.key)):[]++List.take j (aS l)++[ea a]++List.drop j (aS l) =aS (cZ l a):=by
 rw[yi,<-h,if_neg h2,jF,jF,gq,List.map_cons,List.map_take,List.map_drop];simp
theorem PK(l:List az) (a:az) (hp:l.length<=100000):OK 81 [.list false 7 (aS l),ea a] [] (.list false 7 (aS (cZ l a))) none:=by
 refine ai (C:=cx []) (ak trivial) (fn:=Tryz.f81) fun hw _=>?_;have e1:=cY l;have hle:=CN l a.key;have hlt:=fun j=>CP (l:=l) (k:=a.key) (j:=j);have hge:=CM (l:=l) (k:=a.key);have hin:=yi l a;all_goals try conv=>whnf
 all_goals try(refine ae.mk ?_;try dsimp only)
 refine aM.mk Nat (fun j=>j<=less l a.key) (fun j=>⟨52,[(0,.list false 7 (aS l)),(3,.ptr 0 0),(5,.int .i64 j)],[.cells [.str a.key,.int .u8 a.value.kind,.str a.value.text,.int .i64 a.value.num,.int .u64 a.value.bits,.list false 6 (k9 a.value.list),.list false 7 (aS a.value.map)]],[]⟩) (fun j=>l.length-j) [] 0 (ci _) ?_ (fun j hj _ _=>?_)
 . apply ao<;>(repeat' first|trivial)
 have hlt:=hlt j;have hun:(j<l.length->¬(l.getD j default).key<a.key)->j=less l a.key:=fun h=>by
  rcases eg j (less l a.key) with q|q
  . exact absurd (hlt q) (h (by omega))
  . omega
 repeat'((conv=>whnf);first|apply af|((first|apply aj|apply dr|apply e9)<;>intro h)|with_reducible refine mM ?_ ?_)
 all_goals try conv=>whnf
 all_goals try(refine ae.mk ?_;try dsimp only)
 all_goals (try simp only[cY,bytesLess_eq,cond_true,decide_eq_true_eq,decide_eq_false_iff_not] at*)
 all_goals first|refine stay ?_|trivial|omega|(simp(discharger:=omega) only[wR];omega)|(simp only[du];omega)|(simp(discharger:=omega) [-List.getD_eq_getElem?_getD,wR]<;>omega)|skip
 . have hnl:¬j=less l a.key:=fun q=>hge (by omega) (q▸(by assumption));refine⟨[],j+1,by omega,?_,by omega⟩;apply ao<;>(repeat' first|trivial|apply ah|apply aC)
   rw[bz];omega
 . have hj2:=hun fun _=>by assumption
   refine ab.mk [.bL 1] ?_<;>(repeat' first|trivial|apply ah|apply kT)
   exact Su hj2 (by omega) (by assumption) (by rw[bz];omega)
 . have hj2:=hun fun _=>by assumption
   refine ab.mk [.bL 1] ?_<;>(repeat' first|trivial|apply ah|apply kT)
   exact Jv hj2 (fun q=>absurd q.2 (by assumption))
 . exfalso;omega
 . exfalso;omega
 . exfalso;omega
 . have hj2:=hun fun q=>absurd q (by omega);refine ab.mk [.bL 1] ?_<;>(repeat' first|trivial|apply ah|apply kT)
   exact Jv hj2 (fun q=>absurd q.1 (by omega))
def isA(x:V):Prop:=Wk x (ea (va x))
def Eh:Sm:=fun args σ=>match args,σ with
 |[x,y],[]=>some (mN x/\isA y/\(kN x).length<=100000,.list false 7 (aS (cZ (kN x) (va y))),none)
 |_,_=>none
-- #name cZ truchmanref24.Into
theorem SS:aq 81 Eh:=by
 intro args sg pre x r he hp;unfold Eh at he;split at he<;>cases he;exact(PK _ _ hp.2.2).args (aP.cons hp.1 (aP.cons hp.2.1 aP.nil))
def rF(k:Nat):Sm:=fun args σ=>match args,σ with
 |[x],[]=>some (pM x/\(lR x).nodes<k,ev (jW (lR x)),none)
 |_,_=>none
def ug(k:Nat):Sm:=fun args σ=>match args,σ with
 |[x],[]=>some (mN x/\iX (kN x)<k,.list false 7 (aS (dz (kN x) [])),none)
 |_,_=>none
theorem Mt{f:Nat} {k:Nat} (h:∀v,v.nodes<k->OK f [ev v] [] (ev (jW v)) none):aq f (rF k):=by
 intro args sg pre x r he hp;unfold rF at he;split at he<;>cases he;exact(h _ hp.2).args (aP.cons hp.1 aP.nil)
theorem Ms{f:Nat} {k:Nat} (h:∀l,iX l<k->OK f [.list false 7 (aS l)] [] (.list false 7 (aS (dz l []))) none):aq f (ug k):=by
 intro args sg pre x r he hp;unfold ug at he;split at he<;>cases he;exact(h _ hp.2).args (aP.cons hp.1 aP.nil)
theorem Vz(l:List bc):l.length<=pR l:=by
 induction l with
 |nil=>exact ci _
 |cons v r ih=>rw[pR,List.length_cons];have:=Lq v;omega
theorem VA(l:List az):l.length<=iX l:=by
 induction l with
 |nil=>exact ci _
 |cons v r ih=>rw[iX,List.length_cons,Lp];have:=Lq v.value;omega
theorem Ou(v:bc):jW v=.mk v.kind v.text v.num v.bits (v.list.map jW) (dz v.map []):=by cases v;simp[jW,Ot,bc.kind,bc.text,bc.num,bc.bits,bc.list,bc.map]
theorem Hv(l:List az) (acc:List az):(dz l acc).length<=l.length+acc.length:=by
 induction l generalizing acc with
 |nil=>simp[dz]
 |cons a r ih=>
   rw[dz];have:=ih (cZ acc (lQ a));have:=Jt acc (lQ a);simp only[List.length_cons];omega
theorem rO{α:Type} {l:List α} {i:Nat} {d:α} (h:i<l.length):l.take (i+1) =l.take i++[l.getD i d]:=by
 rw[List.take_add_one,ac,am h];rfl
end Go.Proofs.YtknljebcgcmaeaaGreatDoor
namespace Go.Proofs
open Go.Shelf
def Tryz.KE:Go.Shelf.Ren:=⟨fun|190=>117|125=>165|258=>164|128=>203|129=>204|302=>194|303=>195|304=>196|305=>197|306=>198|307=>199|308=>200|309=>201|310=>202|333=>237|329=>238|330=>239|334=>240|335=>241|336=>242|344=>252|n=>n,fun|31=>87|9=>9|3=>3|46=>244|0=>0|51=>279|53=>31|4=>4|183=>272|182=>271|131=>131|5=>5|218=>295|222=>298|228=>302|229=>303|n=>n,fun|n=>n⟩
theorem Tryz.UZ:Go.Proofs.Lays.n190 Tryz.prog Tryz.KE:={
 mixed:=by kernel_rfl
 f125:=Tryz.func165.trans (congrArg some (by kernel_rfl))
 f128:=Tryz.func203.trans (congrArg some (by kernel_rfl))
 f129:=Tryz.func204.trans (congrArg some (by kernel_rfl))
 f190:=Tryz.func117.trans (congrArg some (by kernel_rfl))
 f258:=Tryz.func164.trans (congrArg some (by kernel_rfl))
 f302:=Tryz.func194.trans (congrArg some (by kernel_rfl))
 f303:=Tryz.func195.trans (congrArg some (by kernel_rfl))
 f304:=Tryz.func196.trans (congrArg some (by kernel_rfl))
 f305:=Tryz.func197.trans (congrArg some (by kernel_rfl))
 f306:=Tryz.func198.trans (congrArg some (by kernel_rfl))
 f307:=Tryz.func199.trans (congrArg some (by kernel_rfl))
 f308:=Tryz.func200.trans (congrArg some (by kernel_rfl))
 f309:=Tryz.func201.trans (congrArg some (by kernel_rfl))
 f310:=Tryz.func202.trans (congrArg some (by kernel_rfl))
 f329:=Tryz.func238.trans (congrArg some (by kernel_rfl))
 f330:=Tryz.func239.trans (congrArg some (by kernel_rfl))
 f333:=Tryz.func237.trans (congrArg some (by kernel_rfl))
 f334:=Tryz.func240.trans (congrArg some (by kernel_rfl))
 f335:=Tryz.func241.trans (congrArg some (by kernel_rfl))
 f336:=Tryz.func242.trans (congrArg some (by kernel_rfl))
 f344:=Tryz.func252.trans (congrArg some (by kernel_rfl))
 t0:=Tryz.underlying0
 a0:=Tryz.isAgg0
 z0:=Tryz.sizeOf0
 v0:=Tryz.zeroValue0
 t3:=Tryz.underlying3
 a3:=Tryz.isAgg3
 z3:=Tryz.sizeOf3
 v3:=Tryz.zeroValue3
 t4:=Tryz.underlying4
 a4:=Tryz.isAgg4
 z4:=Tryz.sizeOf4
 v4:=Tryz.zeroValue4
 t5:=Tryz.underlying5
 a5:=Tryz.isAgg5
 z5:=Tryz.sizeOf5
 v5:=Tryz.zeroValue5
 t9:=Tryz.underlying9
 a9:=Tryz.isAgg9
 z9:=Tryz.sizeOf9
 v9:=Tryz.zeroValue9
 t31:=Tryz.underlying87
 a31:=Tryz.isAgg87
 z31:=Tryz.sizeOf87
 v31:=Tryz.zeroValue87
 t46:=Tryz.underlying244
 a46:=Tryz.isAgg244
 z46:=Tryz.sizeOf244
 v46:=Tryz.zeroValue244
 t51:=Tryz.underlying279
 a51:=Tryz.isAgg279
 z51:=Tryz.sizeOf279
 v51:=Tryz.zeroValue279
 t53:=Tryz.underlying31
 a53:=Tryz.isAgg31
 z53:=Tryz.sizeOf31
 v53:=Tryz.zeroValue31
 t131:=Tryz.underlying131
 a131:=Tryz.isAgg131
 z131:=Tryz.sizeOf131
 v131:=Tryz.zeroValue131
 t182:=Tryz.underlying271
 a182:=Tryz.isAgg271
 z182:=Tryz.sizeOf271
 v182:=Tryz.zeroValue271
 t183:=Tryz.underlying272
 a183:=Tryz.isAgg272
 z183:=Tryz.sizeOf272
 v183:=Tryz.zeroValue272
 t218:=Tryz.underlying295
 a218:=Tryz.isAgg295
 z218:=Tryz.sizeOf295
 v218:=Tryz.zeroValue295
 t222:=Tryz.underlying298
 a222:=Tryz.isAgg298
 z222:=Tryz.sizeOf298
 v222:=Tryz.zeroValue298
 t228:=Tryz.underlying302
 a228:=Tryz.isAgg302
 z228:=Tryz.sizeOf302
 v228:=Tryz.zeroValue302
 t229:=Tryz.underlying303
 a229:=Tryz.isAgg303
 z229:=Tryz.sizeOf303
 v229:=Tryz.zeroValue303}
def Tryz.KD:Go.Shelf.Ren:=⟨fun|106=>122|213=>166|265=>205|n=>n,fun|9=>9|3=>3|n=>n,fun|n=>n⟩
theorem Tryz.UY:Go.Proofs.Lays.n106 Tryz.prog Tryz.KD:={
 mixed:=by kernel_rfl
 f106:=Tryz.func122.trans (congrArg some (by kernel_rfl))
 f213:=Tryz.func166.trans (congrArg some (by kernel_rfl))
 f265:=Tryz.func205.trans (congrArg some (by kernel_rfl))
 t3:=Tryz.underlying3
 a3:=Tryz.isAgg3
 z3:=Tryz.sizeOf3
 v3:=Tryz.zeroValue3
 t9:=Tryz.underlying9
 a9:=Tryz.isAgg9
 z9:=Tryz.sizeOf9
 v9:=Tryz.zeroValue9}
end Go.Proofs
namespace Go.Proofs.YtknljebcgcmaeaaGreatDoor
open Go Go.VG
theorem Jp{l:List az} {n:Nat} {K:V->Prop} (h1:ae (n<l.length)) (h2:K (ea (l.getD n default))):iz (aS l) n K:=by
 rw[jF];exact ig h1 h2
def kz:V->Ky
 |.str s=>s
 |_=>[]
theorem xe(L:List Ky):(L.map V.str).map kz=L:=by
 rw[List.map_map];exact(List.map_congr_left (g:=id) fun _ _=>rfl).trans (List.map_id _)
def FG:Sm:=fun args σ=>match args,σ with
 |[.buf 0],[.buf 1 0 l]=>some (l=(l.map kz).map V.str/\l.length<=1000000,.tuple [],some [.buf 1 0 ((sorted (l.map kz)).map V.str),.dead])
 |_,_=>none
-- #name sort slices.Sort[[]string,string]
theorem Ul:aq 117 FG:=by
 intro args sg pre x r he hp;unfold FG at he;split at he<;>cases he;rename_i l;obtain⟨h1,h2⟩:=hp;have h:=Yd (P:=Tryz.prog) (gl:=gE) (f:=117) Tryz.KE Tryz.UZ rfl ⟨_,rfl,rfl,rfl⟩ (l.map kz) (by rw[aB];omega);rw[<-h1] at h;exact h
def nA(p:List (Ky×Int)) (j:Nat):Ky:=(p.getD j default).1
theorem UE(p:List (Ky×Int)):(List.range p.length).map (nA p) =p.map Prod.fst:=by
 apply List.ext_getElem
 . simp
 . intro i h1 h2;simp only[List.getElem_map,List.getElem_range,nA];rw[ac,am (by simpa using h1)];rfl
theorem UF{p:List (Ky×Int)} {ks:List Ky} {left:List Nat} {j:Nat} (h:(ks++left.map (nA p)).Perm (p.map Prod.fst)) (hj:j∈left):((ks++[nA p j])++(left.erase j).map (nA p)).Perm (p.map Prod.fst):=by
 refine List.Perm.trans ?_ h;rw[gc];refine List.Perm.append_left ks ?_;exact((List.perm_cons_erase hj).map (nA p)).symm
theorem LL(l:List az):∀n,(di l n).length<=n
 |0=>co 0
 |n+1=>by
   have ih:=LL l n;have h:=congrArg List.length (Gi (di l n) (l.getD n default).key n);rw[di];rw[aB] at h;rw[h];split
   . rw[aB];omega
   . rw[an,aB,gt];omega
theorem Qm{k:Nat} (hk:k<=100000) (h1:aq 118 (rF (k+1))) (l:List az) (hl:iX l<k+1):OK 64 [.list false 7 (aS l)] [] (.list false 7 (aS (dz l []))) none:=by
 refine ai (C:=cx [(118,rF (k+1)),(117,FG)]) (ak ⟨h1,Ul,trivial⟩) (fn:=Tryz.f64) fun hw _=>?_;have e1:=cY l;have hn:=VA l;all_goals try conv=>whnf
 all_goals try(refine ae.mk ?_;try dsimp only)
 refine aM.mk (Nat×List Nat×Nat) (fun x=>x.1<=l.length/\x.2.1.length=(di l x.1).length/\x.2.2<=x.1) (fun x=>⟨57,[(0,.list false 7 (aS l)),(3,.map 0),(12,.list false 7 (aS l)),(13,.int .i64 l.length),(14,.int .i64 x.1)],[.map false [.kS] (mS (di l x.1)) x.2.1 x.2.2],[0,1]⟩) (fun x=>l.length-x.1) [] (0,[],0) ⟨ci _,rfl,co _⟩ ?_ (fun⟨i,bs,ck⟩ ⟨hi,hb,hc⟩ _ _=>?_)
 . apply ao<;>(repeat' first|trivial|apply ah|apply aC)
   rw[e1]
 have hst:di l (i+1) =br (l.getD i default).key i (di l i):=rfl;repeat'((conv=>whnf);first|with_reducible refine go1 (fun j q h=>?_) fun h=>?_|apply af|(apply aj<;>intro h)|with_reducible refine mM ?_ ?_)
 all_goals try conv=>whnf
 all_goals try(refine ae.mk ?_;try dsimp only)
 all_goals (try simp only[kO,sF,cY] at*)
 all_goals first|refine stay ?_|omega|skip
 . have hu:=YM (i:=(i:Int)) ‹bN (mS (di l i)) (V.str (l.getD i default).key) =some (j,q)›;refine⟨[],(i+1,bs,ck),⟨by show i+1<=_;omega,?_,by show ck<=i+1;omega⟩,?_,by show l.length-(i+1)<l.length-i;omega⟩
   . show bs.length=(di l (i+1)).length;have:=congrArg List.length hu;rw[aB,DK,aB] at this;rw[hst,this,hb]
   . apply ao<;>(repeat' first|trivial|apply ah|apply aC)
     all_goals first
      |(rw[hst,hu];done)
      |(rw[bz];omega)
 . have hu:=YN (i:=(i:Int)) ‹bN (mS (di l i)) (V.str (l.getD i default).key) =none›;refine⟨[],(i+1,bs++[ck],ck+1),⟨by show i+1<=_;omega,?_,by show ck+1<=i+1;omega⟩,?_,by show l.length-(i+1)<l.length-i;omega⟩
   . show(bs++[ck]).length=(di l (i+1)).length;have:=congrArg List.length hu;rw[aB,an,aB,gt] at this;rw[hst,this,an,hb,gt]
   . apply ao<;>(repeat' first|trivial|apply ah|apply aC)
     all_goals first
      |(rw[hst,hu];done)
      |(rw[bz];omega)
 obtain rfl:i=l.length:=by omega
 have hok:=Dd l l.length (co _);have hpl:=LL l l.length;have hcan:=fun{ks:List Ky} (h:ks.Perm ((di l l.length).map Prod.fst)) =>Ov l h;have hpos:=hok.pos;have hkr:=UE (di l l.length);have hks:=fun{ks:List Ky} {left:List Nat} {j:Nat}=>UF (p:=di l l.length) (ks:=ks) (left:=left) (j:=j);have hlk:∀k,jL (di l l.length) k=getM (mS (di l l.length)) (.str k):=fun _=>rfl;have hout:∀k,zc l k=.mk k (jW (l.getD (jL (di l l.length) k).toNat default).value):=fun _=>rfl;clear hst hok;generalize hp:di l l.length=p at*;refine aM.mk (List Ky×List Nat×Nat) (fun x=>(x.1++x.2.1.map (nA p)).Perm (p.map Prod.fst)/\(∀j∈x.2.1,j<p.length)/\x.1.length+x.2.1.length<=100000) (fun x=>⟨57,[(0,.list false 7 (aS l)),(3,.map 0),(6,.buf 2),(25,.ptr 1 0)],[.map false [.kS] (mS p) bs ck,.miter (.map 0) bs ck x.2.1 x.2.2,.buf 1 0 (x.1.map V.str)],[0,1,2]⟩) (fun x=>x.2.1.length) [.tm 6 1] ([],List.range bs.length,bs.length) ⟨by rw[hb,hkr];exact List.Perm.refl _,fun j hj=>by rw[hb] at hj;exact List.mem_range.1 hj,by show 0+(List.range bs.length).length<=100000;rw[List.length_range];omega⟩ ?_ (fun⟨ks,left,last⟩ ⟨h3,h4,h5⟩ _ _=>?_)
 . apply ao<;>(repeat' first|trivial)
 have h3:(ks++left.map (nA p)).Perm (p.map Prod.fst):=h3;have h4:∀j∈left,j<p.length:=h4;have h5:ks.length+left.length<=100000:=h5;repeat'((conv=>whnf);first|with_reducible refine go2 ⟨rfl,rfl⟩ (fun h=>?_) fun j h=>?_|apply af|with_reducible apply ig)
 all_goals try conv=>whnf
 all_goals try(refine ae.mk ?_;try dsimp only)
 all_goals first|refine stay ?_|trivial|(simp(discharger:=omega) [-List.getD_eq_getElem?_getD,wR]<;>omega)|skip
 . exact⟨by rw[xe],by rw[aB];omega⟩
 . have hl0:left=[]:=‹(ks,left,last).2.1=[]›
   subst hl0;rw[List.map_nil,List.append_nil] at h3;have hc:=hcan h3;have hmem:∀x∈sorted ks,0<=jL p x/\jL p x<l.length:=fun x hx=>⟨(hpos x).1,(hpos x).2 (h3.mem_iff.1 ((sorted_perm ks).mem_iff.1 hx))⟩
   have hsl:(sorted ks).length<=100000:=by rw[G1];omega
   simp only[xe];generalize sorted ks=S at*;refine aM.mk Nat (fun i=>i<=S.length) (fun i=>⟨57,[(0,.list false 7 (aS l)),(3,.map 0),(8,.buf 4),(36,.buf 2),(37,.int .i64 S.length),(38,.int .i64 i)],[.map false [.kS] (mS p) bs ck,.dead,.buf 1 0 (S.map V.str),.dead,.buf 7 0 (((S.take i).map (zc l)).map ea)],[0,1,2,3,4]⟩) (fun i=>S.length-i) [.tm 8 7] 0 (ci _) ?_ (fun i hi _ _=>?_)
   . apply ao<;>(repeat' first|trivial|apply ah|apply aC)
     rw[aB]
   have hmi:i<S.length->0<=jL p (S.getD i default)/\jL p (S.getD i default)<l.length:=fun q=>hmem _ (by
    rw[ac,am q];exact List.getElem_mem q)
   rw[hlk] at hmi;have hno:i<S.length->(l.getD (getM (mS p) (V.str (S.getD i default))).toNat default).value.nodes<=iX l:=fun q=>Lo (by have:=hmi q;omega);have ho:=hout (S.getD i default);rw[hlk] at ho;repeat'((conv=>whnf);first|apply af|(apply aj<;>intro h)|with_reducible (first|refine Jp ?_ ?_|apply j9))
   all_goals try conv=>whnf
   all_goals try(refine ae.mk ?_;try dsimp only)
   all_goals (try simp only[kO] at*)
   all_goals first|refine stay ?_|omega|(simp(discharger:=omega) [-List.getD_eq_getElem?_getD,wR]<;>omega)|skip
   . exact⟨tB _,by have:=hno (by omega);omega⟩
   . refine⟨[],i+1,by omega,?_,by omega⟩;rw[rO (d:=default) (by omega),gq,gq,List.map_singleton,List.map_singleton,ho];apply ao<;>(repeat' first|trivial|apply ah|apply aC)
     all_goals first
      |rfl
      |(rw[bz];omega)
   . have hi2:i=S.length:=by omega
     subst hi2;rw[List.take_length] at*;refine ab.mk [.bL 4] ?_<;>(repeat' first|trivial|apply ah|apply kT)
     rw[hc,jF]
 . exact h4 j (by assumption)
 . have hj:j∈left:=‹j∈(ks,left,last).2.1›
   refine⟨[],(ks++[nA p j],left.erase j,j),⟨hks h3 hj,fun q hq=>h4 q (List.mem_of_mem_erase hq),?_⟩,?_,?_⟩
   . show(ks++[nA p j]).length+(left.erase j).length<=100000;have:=List.length_pos_of_mem hj;rw[an,gt,List.length_erase_of_mem hj];have:0<left.length:=this;omega
   . apply ao<;>(repeat' first|trivial|apply ah|apply bg)
     all_goals first
      |rfl
      |(rw[gq];rfl)
   . show(left.erase j).length<left.length;have:0<left.length:=List.length_pos_of_mem hj;rw[List.length_erase_of_mem hj];omega
theorem Qn{k:Nat} (hk:k<=100000) (h1:aq 118 (rF k)) (h2:aq 64 (ug k)) (v:bc) (hv:v.nodes<k+1):OK 118 [ev v] [] (ev (jW v)) none:=by
 refine ai (C:=cx [(118,rF k),(64,ug k)]) (ak ⟨h1,h2,trivial⟩) (fn:=Tryz.f118) fun hw _=>?_;have e1:=vj v.list;have hn:=yZ v;have hl:=Vz v.list;rw[Ou];all_goals try conv=>whnf
 all_goals try(refine ae.mk ?_;try dsimp only)
 refine aM.mk Nat (fun i=>i<=v.list.length) (fun i=>⟨26,[(1,.ptr 0 0),(2,.ptr 1 0),(3,.buf 2),(7,.list false 6 (k9 v.list)),(8,.int .i64 v.list.length),(9,.int .i64 i)],[.cells (cv v),.cells [.int .u8 0,.str [],.int .i64 0,.int .u64 0,.list true 0 [],.list true 0 []],.buf 6 0 (((v.list.take i).map jW).map ev)],[0,1,2,3]⟩) (fun i=>v.list.length-i) [.tm 3 6] 0 (ci _) ?_ (fun i hi _ _=>?_)
 . apply ao<;>(repeat' first|trivial|apply ah|apply aC)
   rw[e1]
 repeat'((conv=>whnf);first|apply af|(apply aj<;>intro h)|with_reducible refine Jo ?_ ?_)
 all_goals try conv=>whnf
 all_goals try(refine ae.mk ?_;try dsimp only)
 all_goals (try simp only[kO,sF,vj] at*)
 all_goals first|refine stay ?_|omega|(simp(discharger:=omega) [-List.getD_eq_getElem?_getD,wR]<;>omega)|skip
 . have q4:=Ln (l:=v.list) (i:=i) (by omega);exact⟨tB _,by omega⟩
 . refine⟨[],i+1,by omega,?_,by omega⟩;rw[rO (d:=default) (by omega),gq,gq];apply ao<;>(repeat' first|trivial|apply ah|apply aC)
   all_goals first
    |rfl
    |(rw[bz];omega)
 . exact⟨mO _,by omega⟩
 . have hi2:i=v.list.length:=by omega
   subst hi2;rw[List.take_length];refine ab.mk [.bL 2] ?_<;>(repeat' first|trivial|apply ah|apply kT|apply fQ|apply bV)
   exact(BG _).symm
theorem LD:∀k:Nat,k<=100000->aq 118 (rF k)/\aq 64 (ug k)
 |0,_=>⟨Mt fun _ h=>by omega,Ms fun _ h=>by omega⟩
 |k+1,hk=>by
   have ih:=LD k (by omega);have h1:=Mt (k:=k+1) fun v hv=>Qn (k:=k) (by omega) ih.1 ih.2 v hv;exact⟨h1,Ms fun l hl=>Qm (k:=k) (by omega) h1 l hl⟩
-- #name pCanV value.Canon
-- #name pCanM value.CanonEntries
def EW:Sm:=ug 100000
theorem K9:aq 64 EW:=(LD 100000 (co _)).2
end Go.Proofs.YtknljebcgcmaeaaGreatDoor
namespace Go.VG
open Go Go.Shelf Go.Proofs
theorem HJ:∀a b:g8,-1<=Lib.compareBytes a b/\Lib.compareBytes a b<=1
 |[],[]=>by simp[Lib.compareBytes]
 |[],_::_=>by simp[Lib.compareBytes]
 |_::_,[]=>by simp[Lib.compareBytes]
 |a::r,b::q=>by
   have ih:=HJ r q;rw[Lib.compareBytes];split
   . omega
   split
   . omega
   . exact ih
theorem OE{P:Program} {gl:Nat->Option (List V)} {f:FuncId} (ρ:Ren) (Ly:Lays.n106 P ρ) (hf:ρ.f 106=f) (hc:mz P f) (a b:g8):
   eH P gl f [.str a,.str b] [] (.int .i64 (Lib.compareBytes a b)) none:=by
 refine⟨hc,fun E st g w vs R hg hv=>?_⟩;simp only[aE] at hv;obtain⟨u,us,rfl,hu,u2,us2,rfl,hu2,rfl⟩:=hv;simp only[VR] at hu hu2;obtain⟨rfl,_⟩:=hu;obtain⟨rfl,_⟩:=hu2;have hC:=Any.strings_Compare Ly ⟨a.toArray⟩ ⟨b.toArray⟩ w;rw[hf] at hC;refine hC.mono ?_;rintro e w' ⟨rfl,rfl⟩;refine⟨_,st,g,rfl,R,?_,fun _ _ _ h=>h,co _,fun _ _ _ _=>rfl⟩;have h:=HJ a b;simp only[VR];refine⟨by simp,?_,?_⟩
 . simp[IntKind.min,IntKind.signed,IntKind.bits];omega
 . simp[IntKind.max,IntKind.signed,IntKind.bits];omega
end Go.VG
namespace Go.Proofs.YtknljebcgcmaeaaGreatDoor
open Go Go.VG
theorem Bo:∀a b:Ky,(Lib.compareBytes a b<0↔a<b)/\(Lib.compareBytes a b=0↔a=b)
 |[],[]=>by simp[Lib.compareBytes]
 |[],_::_=>by simp[Lib.compareBytes]
 |_::_,[]=>by simp[Lib.compareBytes]
 |a::r,b::q=>by
   obtain⟨h1,h2⟩:=Bo r q;rw[Lib.compareBytes,List.cons_lt_cons_iff,List.cons.injEq];by_cases h:a<b
   . rw[if_pos h];refine⟨⟨fun _=>.inl h,fun _=>by decide⟩,⟨fun e=>absurd e (by decide),fun e=>absurd (e.1▸h) (UInt8.lt_irrefl b)⟩⟩
   . rw[if_neg h];by_cases h3:b<a
     . rw[if_pos h3];refine⟨⟨fun e=>absurd e (by decide),fun e=>?_⟩,⟨fun e=>absurd e (by decide),fun e=>absurd (e.1▸h3) (UInt8.lt_irrefl b)⟩⟩;rcases e with e|e
       . exact absurd e h
       . exact absurd (e.1▸h3) (UInt8.lt_irrefl b)
     . rw[if_neg h3,h1,h2];have e:a=b:=UInt8.le_antisymm (UInt8.not_lt.1 h3) (UInt8.not_lt.1 h);exact⟨⟨fun k=>.inr ⟨e,k⟩,fun k=>(k.resolve_left h).2⟩,⟨fun k=>⟨e,k⟩,fun k=>k.2⟩⟩
def FH:Sm:=fun args σ=>match args,σ with
 |[.str a,.str b],[]=>some (True,.int .i64 (Lib.compareBytes a b),none)
 |_,_=>none
-- #name strCmp strings.Compare
theorem Un:aq 122 FH:=by
 intro args sg pre x r he hp;unfold FH at he;split at he<;>cases he;exact OE Tryz.KD Tryz.UY rfl ⟨_,rfl,rfl,rfl⟩ _ _
def DU:Sm:=fun args σ=>match args,σ with
 |[.agg [.str a,.int .u8 k,.str t,.int .i64 n,.int .u64 b,.list c1 z1 l,.list c2 z2 m],.str key],[]=>some (True,.int .i64 (Lib.compareBytes a key),none)
 |_,_=>none
theorem SD:aq 121 DU:=by
 intro args sg pre x r he hp;unfold DU at he;split at he<;>cases he
 . rename_i a k t n b c1 z1 l c2 z2 m key;refine ai (C:=cx [(122,FH)]) (ak ⟨Un,trivial⟩) (fn:=Tryz.f121) fun hw hs=>?_;repeat'((conv=>whnf);apply af)
   all_goals try conv=>whnf
   all_goals try(refine ae.mk ?_;try dsimp only)
   all_goals try refine stay ?_
   refine ab.mk [] ?_<;>(repeat' first|trivial)
theorem X4{l:List az} {k:Ky} {j:Nat} (h:eN l) (h1:less l k<=j) (h2:j<l.length):¬(l.getD j default).key<k:=by
 have h0:=CM (l:=l) (k:=k) (by omega);rcases eg (less l k) j with q|q
 . have:=List.pairwise_iff_getElem.1 h (less l k) j (by omega) h2 q;rw[ac,am (by omega)] at h0;rw[ac,am h2];exact fun e=>h0 (yH this e)
 . rw[show j=less l k by omega];exact h0
def fI(l:List az) (k:Ky):Bool:=decide (less l k<l.length/\(l.getD (less l k) default).key=k)
def iT(l:List az) (k:Ky):bc:=if fI l k=true then(l.getD (less l k) default).value else default
theorem Oe{i j:Nat} (h:i+j<=2000000):IntKind.i64.wrap (lE .u64 (IntKind.u64.wrap (IntKind.i64.wrap ((i:Int)+j))) 1) =(((i+j)/2:Nat):Int):=by
 have e:IntKind.u64.wrap (IntKind.i64.wrap ((i:Int)+j)) =((i+j:Nat):Int):=by rw[bz,ld];omega
 have e2:lE .u64 ((i+j:Nat):Int) 1=(((i+j)/2:Nat):Int):=by
  show((i+j:Nat):Int).fdiv 2=_;rw[Int.fdiv_eq_ediv_of_nonneg _ (by decide)];rfl
 rw[e,e2,bz];omega
theorem f_bsf(l:List az) (key:Ky) (hl:l.length<=1000000) (hr:eN l):OK 120 [.list false 7 (aS l),.str key,.func (.func 121) [] []] [] (.tuple [.int .i64 (less l key),.bool (fI l key)]) none:=by
 refine ai (C:=cx [(121,DU)]) (ak ⟨SD,trivial⟩) (fn:=Tryz.f120) fun hw _=>?_;have e1:=cY l;have hle:=CN l key;all_goals try conv=>whnf
 all_goals try(refine ae.mk ?_;try dsimp only)
 refine aM.mk (Nat×Nat) (fun x=>x.1<=less l key/\less l key<=x.2/\x.2<=l.length) (fun x=>⟨49,[(0,.list false 7 (aS l)),(1,.str key),(2,.func (.func 121) [] []),(8,.int .i64 l.length),(9,.int .i64 x.1),(10,.int .i64 x.2)],[],[]⟩) (fun x=>x.2-x.1) [] (0,l.length) ⟨ci _,hle,co _⟩ ?_ (fun⟨i,j⟩ ⟨h1,h2,h3⟩ _ _=>?_)
 . apply ao<;>(repeat' first|trivial|apply ah|apply aC)
   all_goals exact congrArg Nat.cast e1
 dsimp only at h1 h2 h3;have hm:=Oe (i:=i) (j:=j) (by omega);have hlt:=CP (l:=l) (k:=key) (j:=(i+j)/2);have hge:=X4 (l:=l) (k:=key) (j:=(i+j)/2) hr;have hc:=Bo (l.getD ((i+j)/2) default).key key;have hc2:=Bo (l.getD i default).key key;repeat'((conv=>whnf);first|apply af|(apply aj<;>intro h)|with_reducible (first|refine mM ?_ ?_|refine Jp ?_ ?_))
 all_goals try conv=>whnf
 all_goals try(refine ae.mk ?_;try dsimp only)
 all_goals (try simp only[hm,Int.toNat_natCast] at*)
 all_goals first|refine stay ?_|trivial|omega|skip
 . have h9:(l.getD ((i+j)/2) default).key<key:=hc.1.1 (by assumption);have h8:¬less l key<=(i+j)/2:=fun q=>hge q (by omega) h9;refine⟨[],((i+j)/2+1,j),⟨by show _+1<=_;omega,h2,h3⟩,?_,by show j-((i+j)/2+1)<j-i;omega⟩;apply ao<;>(repeat' first|trivial|apply ah|apply aC)
   rw[bz];omega
 . have h9:¬(l.getD ((i+j)/2) default).key<key:=fun q=>absurd (hc.1.2 q) (by assumption);have h8:¬(i+j)/2<less l key:=fun q=>h9 (hlt q);refine⟨[],(i,(i+j)/2),⟨h1,by show _<=(i+j)/2;omega,by show(i+j)/2<=_;omega⟩,?_,by show(i+j)/2-i<j-i;omega⟩;apply ao<;>(repeat' first|trivial)
 . have hi:i=less l key:=by omega
   rw[show fI l key=(Lib.compareBytes (l.getD i default).key key==0) from by
    unfold fI;rw[<-hi,Bool.eq_iff_iff,decide_eq_true_iff,beq_iff_eq,hc2.2];exact⟨fun q=>q.2,fun q=>⟨by omega,q⟩⟩,<-hi]
   refine ab.mk [] ?_<;>(repeat' first|trivial)
 . have hi:i=less l key:=by omega
   rw[show fI l key=false from decide_eq_false (fun q=>by omega),<-hi];refine ab.mk [] ?_<;>(repeat' first|trivial)
def DY:Sm:=fun args σ=>match args,σ with
 |[.list false 7 x,.str key,.func (.func 121) [] []],[]=>some (x=aS (bJ x)/\x.length<=1000000/\eN (bJ x),.tuple [.int .i64 (less (bJ x) key),.bool (fI (bJ x) key)],none)
 |_,_=>none
-- #name bsf slices.BinarySearchFunc[[]api.Attr,api.Attr,string]
theorem k_bsf:aq 120 DY:=by
 intro args sg pre x r he hp;unfold DY at he;split at he<;>cases he;obtain⟨h1,h2,h3⟩:=hp;have h4:=congrArg List.length h1;rw[cY] at h4;have:=f_bsf _ ‹Ky› (by omega) h3;rw[<-h1] at this;exact this
abbrev p4(x:List V):Prop:=x=aS (bJ x)/\x.length<=1000000/\eN (bJ x)
theorem mC{l:List az} (h:eN l) (h2:l.length<=1000000):p4 (aS l):=by
 refine⟨by rw[eu],by rw[cY];exact h2,by rw[eu];exact h⟩
def wL:Sm:=fun args σ=>match args,σ with
 |[.list false 7 x,.str key],[]=>some (p4 x,.tuple [.int .i64 (less (bJ x) key),.bool (fI (bJ x) key)],none)
 |_,_=>none
theorem Co:aq 67 wL:=by
 intro args sg pre x r he hp;unfold wL at he;split at he<;>cases he
 . rename_i x key;refine ai (C:=cx [(120,DY)]) (ak ⟨k_bsf,trivial⟩) (fn:=Tryz.f67) fun hw hs=>?_;repeat'((conv=>whnf);apply af)
   all_goals try conv=>whnf
   all_goals try(refine ae.mk ?_;try dsimp only)
   . exact hp
   . refine ab.mk [] ?_<;>(repeat' first|trivial)
theorem Iu(l:List az) (key:Ky) (hl:l.length<=1000000) (hr:eN l):OK 65 [.list false 7 (aS l),.str key] [] (.tuple [ev (iT l key),.bool (fI l key)]) none:=by
 by_cases hh:fI l key=true
 . rw[show iT l key=(l.getD (less l key) default).value from if_pos hh];refine ai (C:=cx [(67,wL)]) (ak ⟨Co,trivial⟩) (fn:=Tryz.f65) fun hw _=>?_;have hd0:=eu l;have hR:=mC hr hl;have hk:=of_decide_eq_true hh;repeat'((conv=>whnf);first|apply af|(apply aj<;>intro h)|with_reducible refine mM ?_ ?_)
   all_goals try conv=>whnf
   all_goals try(refine ae.mk ?_;try dsimp only)
   all_goals (try simp only[hd0] at*)
   . exact hR
   . omega
   . exact hk.1
   . rw[show fI l key=true from decide_eq_true hk];refine ab.mk [] ?_<;>(repeat' first|trivial)
   . exact absurd hk (by assumption)
 . refine eH.res (x:=.tuple [.agg [.int .u8 0,.str [],.int .i64 0,.int .u64 0,.list true 0 [],.list true 0 []],.bool false]) ?_ ?_
   . refine ai (C:=cx [(67,wL)]) (ak ⟨Co,trivial⟩) (fn:=Tryz.f65) fun hw _=>?_;have hd0:=eu l;have hR:=mC hr hl;repeat'((conv=>whnf);first|apply af|(apply aj<;>intro h)|with_reducible refine mM ?_ ?_)
     all_goals try conv=>whnf
     all_goals try(refine ae.mk ?_;try dsimp only)
     all_goals (try simp only[hd0] at*)
     . exact hR
     . omega
     . exact ‹_/\_›.1
     . exact absurd ‹_/\_› (fun q=>hh (decide_eq_true q))
     . refine ab.mk [] ?_<;>(repeat' first|trivial)
   . rw[show iT l key=default from if_neg hh,show fI l key=false by simpa using hh];exact Wk.tuple (aP.cons (Wk.agg (aP.cons (Wk.refl _) (aP.cons (Wk.refl _) (aP.cons (Wk.refl _) (aP.cons (Wk.refl _) (aP.cons (Wk.nil (.inl rfl)) (aP.cons (Wk.nil (.inl rfl)) aP.nil))))))) (aP.cons (Wk.refl _) aP.nil))
def DW:Sm:=fun args σ=>match args,σ with
 |[.list false 7 x,.str key],[]=>some (p4 x,.tuple [ev (iT (bJ x) key),.bool (fI (bJ x) key)],none)
 |_,_=>none
-- #name atGet attrs.Get
theorem SE:aq 65 DW:=by
 intro args sg pre x r he hp;unfold DW at he;split at he<;>cases he;obtain⟨h1,h2,h3⟩:=hp;have h4:=congrArg List.length h1;rw[cY] at h4;have:=Iu _ ‹Ky› (by omega) h3;rw[<-h1] at this;exact this
def gb(l:List az) (key:Ky):Ky:=(iT l key).text
def iu(l:List az):Prop:=∀a∈l,a.value.kind=1
theorem Nb{l:List az} (h:iu l) (key:Ky):((iT l key).kind=1\/iT l key=default):=by
 unfold iT;split
 . rename_i q;have:=(of_decide_eq_true q).1;refine .inl (h _ ?_);rw[ac,am this];exact List.getElem_mem this
 . exact .inr rfl
def Am:Sm:=fun args σ=>match args,σ with
 |[.agg [.int .u8 1,.str t,.int .i64 n,.int .u64 b,.list c1 z1 l,.list c2 z2 m]],[]=>some (True,.iface 233 (.str t),none)
 |[.agg [.int .u8 0,.str t,.int .i64 n,.int .u64 b,.list c1 z1 l,.list c2 z2 m]],[]=>some (True,.iface 234 (.str [110,117,108,108]),none)
 |_,_=>none
theorem Ko:aq 152 Am:=by
 intro args sg pre x r he hp;unfold Am at he;split at he<;>cases he
 . rename_i t n b c1 z1 l c2 z2 m;refine ai (C:=cx []) (ak trivial) (fn:=Tryz.f152) fun hw hs=>?_;all_goals try conv=>whnf
   all_goals try(refine ae.mk ?_;try dsimp only)
   refine ab.mk [] ?_<;>(repeat' first|trivial)
 . rename_i t n b c1 z1 l c2 z2 m;refine ai (C:=cx []) (ak trivial) (fn:=Tryz.f152) fun hw hs=>?_;all_goals try conv=>whnf
   all_goals try(refine ae.mk ?_;try dsimp only)
   refine ab.mk [] ?_<;>(repeat' first|trivial)
def Al:Sm:=fun args σ=>match args,σ with
 |[.agg [.int .u8 1,.str t,.int .i64 n,.int .u64 b,.list c1 z1 l,.list c2 z2 m]],[]=>some (True,.str t,none)
 |[.agg [.int .u8 0,.str t,.int .i64 n,.int .u64 b,.list c1 z1 l,.list c2 z2 m]],[]=>some (True,.str [],none)
 |_,_=>none
theorem Kn:aq 99 Al:=by
 intro args sg pre x r he hp;unfold Al at he;split at he<;>cases he
 . rename_i t n b c1 z1 l c2 z2 m;refine ai (C:=cx [(152,Am)]) (ak ⟨Ko,trivial⟩) (fn:=Tryz.f99) fun hw hs=>?_;repeat'((conv=>whnf);apply af)
   all_goals try conv=>whnf
   all_goals try(refine ae.mk ?_;try dsimp only)
   refine ab.mk [] ?_<;>(repeat' first|trivial)
 . rename_i t n b c1 z1 l c2 z2 m;refine ai (C:=cx [(152,Am)]) (ak ⟨Ko,trivial⟩) (fn:=Tryz.f99) fun hw hs=>?_;repeat'((conv=>whnf);apply af)
   all_goals try conv=>whnf
   all_goals try(refine ae.mk ?_;try dsimp only)
   refine ab.mk [] ?_<;>(repeat' first|trivial)
def pY(l:List az) (key:Ky) (v:bc):Sm:=fun args σ=>match args,σ with
 |[.list false 7 x,.str k],[]=>some (x=aS l/\k=key,.tuple [ev v,.bool (fI l key)],none)
 |_,_=>none
theorem Pq(l:List az) (key:Ky) (hl:l.length<=1000000) (hr:eN l) (ht:iu l):OK 44 [.list false 7 (aS l),.str key] [] (.str (gb l key)) none:=by
 have hg:aq 65 (pY l key (iT l key)):=by
  intro args sg pre x r he hp;unfold pY at he;split at he<;>cases he;rw[hp.1,hp.2];exact Iu l key hl hr
 have hv:=Nb ht key;unfold gb;generalize iT l key=v at*;obtain⟨k,t,n,b,L,M⟩:=v;rcases hv with h|h
 . have h:k=1:=h;subst h;refine ai (C:=cx [(65,pY l key (.mk 1 t n b L M)),(99,Al)]) (ak ⟨hg,Kn,trivial⟩) (fn:=Tryz.f44) fun hw _=>?_;repeat'((conv=>whnf);apply af)
   all_goals try conv=>whnf
   all_goals try(refine ae.mk ?_;try dsimp only)
   . exact⟨rfl,rfl⟩
   . refine ab.mk [] ?_<;>(repeat' first|trivial)
 . cases h;refine ai (C:=cx [(65,pY l key default),(99,Al)]) (ak ⟨hg,Kn,trivial⟩) (fn:=Tryz.f44) fun hw _=>?_;repeat'((conv=>whnf);apply af)
   all_goals try conv=>whnf
   all_goals try(refine ae.mk ?_;try dsimp only)
   . exact⟨rfl,rfl⟩
   . refine ab.mk [] ?_<;>(repeat' first|trivial)
def wM:Sm:=fun args σ=>match args,σ with
 |[.list false 7 x,.str key],[]=>some (p4 x/\iu (bJ x),.str (gb (bJ x) key),none)
 |_,_=>none
-- #name atText attrs.Text
theorem Cp:aq 44 wM:=by
 intro args sg pre x r he hp;unfold wM at he;split at he<;>cases he;obtain⟨⟨h1,h2,h3⟩,ht⟩:=hp;have h4:=congrArg List.length h1;rw[cY] at h4;have:=Pq _ ‹Ky› (by omega) h3 ht;rw[<-h1] at this;exact this
theorem Sn{ys:List V} {N k:Nat} {z:V} {K:V->Prop} (h:ae (k=ys.length/\k<N)) (h2:K z):iz (List.take (List.replicate N z).length ys++List.drop ys.length (List.replicate N z)) k K:=by
 obtain⟨h3,h4⟩:=h;refine⟨z,?_,h2⟩;rw[List.length_replicate,gg (by omega),d7 (by omega),List.getElem?_drop,List.getElem?_replicate,if_pos (by omega)]
theorem LR{A R:List V} {i N k n:Nat} {z X:V} (hi:i<=A.length) (hN:N=i+1+R.length) (hk:k=i+1) (hn:k+n=N):
   List.take k ((List.take (List.replicate N z).length (A.take i)++List.drop (A.take i).length (List.replicate N z)).set i X)++(List.take n R++List.drop (k+R.length) ((List.take (List.replicate N z).length (A.take i)++List.drop (A.take i).length (List.replicate N z)).set i X)) =A.take i++X::R:=by
 have h1:(A.take i).length=i:=by rw[eo];omega
 have e:List.take (List.replicate N z).length (A.take i)++List.drop (A.take i).length (List.replicate N z) =A.take i++List.replicate (R.length+1) z:=by
  rw[List.length_replicate,gg (by omega),h1,List.drop_replicate,show N-i=R.length+1 by omega]
 rw[e,List.set_append_right _ _ (by omega),h1,Nat.sub_self,List.replicate_succ,List.set_cons_zero,hk];have e2:A.take i++X::List.replicate R.length z=(A.take i++[X])++List.replicate R.length z:=by simp
 have h3:(A.take i++[X]).length=i+1:=by rw[an,h1];rfl
 have h5:List.take (i+1) ((A.take i++[X])++List.replicate R.length z) =A.take i++[X]:=by
  rw[List.take_append_of_le_length (by omega),gg (by omega)]
 have h6:List.drop (i+1+R.length) ((A.take i++[X])++List.replicate R.length z) =[]:=List.drop_eq_nil_of_le (by rw[an,h3,List.length_replicate];omega);have h7:List.take n R=R:=gg (by omega);rw[e2,h5,h6,h7];simp
theorem Pp(l:List az) (key:Ky) (v:bc) (hl:l.length<=1000000) (hr:eN l):OK 24 [.list false 7 (aS l),.str key,ev v] [] (.list false 7 (aS (cZ l (.mk key v)))) none:=by
 refine ai (C:=pg [(67,wL)] [] [(45,1)]) (qW ⟨Co,trivial⟩) (fn:=Tryz.f24) fun hw _=>?_;have e1:=cY l;have hd0:=eu l;have hR:=mC hr hl;have hle:=CN l key;have hin:=yi l (.mk key v);have w1:IntKind.i64.wrap ((less l key:Int)+1)=((less l key+1:Nat):Int):=by rw[bz];omega
 have w2:∀n:Nat,n<=1000000->IntKind.i64.wrap (((less l key+1:Nat):Int)+n)=((less l key+1+n:Nat):Int):=fun n h=>by rw[bz];omega
 have w3:∀j,IntKind.i64.wrap (((less l key+1:Nat):Int)+(List.drop j (aS l)).length)=((less l key+1+(List.drop j (aS l)).length:Nat):Int):=fun j=>w2 _ (by rw[fo];omega);repeat'((conv=>whnf);first|apply af|(apply aj<;>intro h)|with_reducible refine Sn ?_ ?_)
 all_goals try conv=>whnf
 all_goals try(refine ae.mk ?_;try dsimp only)
 all_goals (try simp only[hd0,w1,w3,Int.toNat_natCast] at*)
 all_goals try first
  |exact hR
  |(simp only[fo,eo,List.length_replicate,an,List.length_set,e1];omega)
  |exact ci _
  | (refine ⟨Int.natCast_nonneg _,?_,fun q=>?_⟩
     . simp only[fo,eo,List.length_replicate,an,List.length_set,e1];omega
     . have q:=congrArg List.length q;simp only[fo,eo,List.length_replicate,an,List.length_set,e1,List.length_nil] at q;omega)
 all_goals
  refine⟨less l key+1,⟨rfl,?_⟩,?_⟩
  . simp only[fo,eo,List.length_replicate,an,List.length_set,e1];omega
  all_goals try conv=>whnf
  all_goals try(refine ae.mk ?_;try dsimp only)
  refine ab.mk [.bL 1] ?_<;>(repeat' first|trivial|apply ah|apply kT)
 . refine(LR (A:=aS l) (i:=less l key) (X:=ea (.mk key v)) (by omega) rfl rfl ?_).trans ?_
   . simp only[fo,eo,List.length_replicate,an,List.length_set,e1];omega
   . rw[hin,jF,jF,if_pos (by assumption),gq,List.map_cons,List.map_take,List.map_drop];rfl
 . refine(LR (A:=aS l) (i:=less l key) (X:=ea (.mk key v)) (by omega) rfl rfl ?_).trans ?_
   . simp only[fo,eo,List.length_replicate,an,List.length_set,e1];omega
   . rw[hin,jF,jF,if_neg (by assumption),gq,List.map_cons,List.map_take,List.map_drop];rfl
abbrev StM(x:List V):Prop:=x=(x.map kz).map V.str/\x.length<=1000000
theorem H3{l:List Ky} (h:l.length<=1000000):StM (l.map V.str):=⟨by rw[xe],by rw[aB];exact h⟩
theorem Jr{l:List Ky} {n:Nat} {K:V->Prop} (h1:ae (n<l.length)) (h2:K (.str (l.getD n default))):iz (l.map V.str) (n:Int).toNat K:=ig h1 h2
def nx:List Ky->Ky->Int
 |[],_=>-1
 |a::r,s=>if a=s then 0 else if nx r s<0 then-1 else nx r s+1
theorem JC:∀{l:List Ky} {s:Ky} {i:Nat},(∀j,j<i->l.getD j default≠s)->i<l.length->l.getD i default=s->nx l s=i
 |[],_,_,_,h,_=>absurd h (Nat.not_lt_zero _)
 |a::r,s,0,_,_,e=>by have e:a=s:=e;rw[nx,if_pos e];rfl
 |a::r,s,i+1,hj,h,e=>by
   have h0:a≠s:=hj 0 (Nat.succ_pos _);have ih:=JC (l:=r) (s:=s) (i:=i) (fun j q=>hj (j+1) (by omega)) (by simpa using h) e;rw[nx,if_neg h0,ih,if_neg (by omega)];rfl
theorem Cn:∀{l:List Ky} {s:Ky},(∀j,j<l.length->l.getD j default≠s)->nx l s=-1/\l.contains s=false
 |[],_,_=>⟨rfl,rfl⟩
 |a::r,s,hj=>by
   have h0:a≠s:=hj 0 (Nat.succ_pos _);have ih:=Cn (l:=r) (s:=s) (fun j q=>hj (j+1) (by simpa using q));refine⟨by rw[nx,if_neg h0,ih.1];rfl,?_⟩;rw[List.contains_cons,ih.2,Bool.or_false];exact beq_false_of_ne fun q=>h0 q.symm
theorem SA{l:List Ky} {s:Ky} {i:Nat} (h:i<l.length) (e:l.getD i default=s):l.contains s=true:=by
 rw[List.contains_iff_mem,<-e,ac,am h];exact List.getElem_mem h
theorem JD:∀(l:List Ky) (s:Ky),decide (nx l s>=0) =l.contains s
 |[],_=>rfl
 |a::r,s=>by
   have ih:=JD r s;rw[nx,List.contains_cons,<-ih];by_cases h:a=s
   . rw[if_pos h,h,beq_self_eq_true];rfl
   . rw[if_neg h,beq_false_of_ne fun q=>h q.symm,Bool.false_or];split
     . rw[decide_eq_decide];omega
     . rw[decide_eq_decide];omega
def FE:Sm:=fun args σ=>match args,σ with
 |[.list c 1 x,.str s],[]=>some (StM x,.int .i64 (nx (x.map kz) s),none)
 |_,_=>none
theorem Uj:aq 119 FE:=by
 intro args sg pre x r he hp;unfold FE at he;split at he<;>cases he
 . rename_i c x s;refine ai (C:=cx []) (ak trivial) (fn:=Tryz.f119) fun hw hs=>?_;obtain⟨h1,h2⟩:=hp;have h3:(x.map kz).length=x.length:=aB ..;generalize x.map kz=l at*;subst h1;all_goals try conv=>whnf
   all_goals try(refine ae.mk ?_;try dsimp only)
   refine aM.mk Nat (fun i=>i<=l.length/\∀j,j<i->l.getD j default≠s) (fun i=>⟨19,[(0,.list c 1 (l.map V.str)),(1,.str s),(6,.list c 1 (l.map V.str)),(7,.int .i64 l.length),(8,.int .i64 i)],[],[]⟩) (fun i=>l.length-i) [] 0 ⟨ci _,fun _ h=>by omega⟩ ?_ (fun i ⟨hi,hj⟩ _ _=>?_)
   . apply ao<;>(repeat' first|trivial|apply ah|apply aC)
     all_goals exact congrArg Nat.cast h3.symm
   repeat'((conv=>whnf);first|apply af|((first|apply aj|apply dr)<;>intro h)|with_reducible refine Jr ?_ ?_)
   all_goals try conv=>whnf
   all_goals try(refine ae.mk ?_;try dsimp only)
   all_goals first|refine stay ?_|omega|skip
   . rw[JC hj (by omega) (by symm;assumption)];refine ab.mk [] ?_<;>(repeat' first|trivial)
   . have he:s≠l.getD i default:=by assumption
     refine⟨[],i+1,⟨by omega,fun j q=>?_⟩,?_,by omega⟩
     . by_cases z:j=i
       . subst z;exact he.symm
       . exact hj j (by omega)
     . apply ao<;>(repeat' first|trivial|apply ah|apply aC)
       (simp(discharger:=omega) only[wR];omega)
   . rw[(Cn (fun j q=>hj j (by omega))).1];refine ab.mk [] ?_<;>(repeat' first|trivial)
def FD:Sm:=fun args σ=>match args,σ with
 |[.list c 1 x,.str s],[]=>some (StM x,.bool ((x.map kz).contains s),none)
 |_,_=>none
theorem Ui:aq 66 FD:=by
 intro args sg pre x r he hp;unfold FD at he;split at he<;>cases he
 . rename_i c x s;refine ai (C:=cx [(119,FE)]) (ak ⟨Uj,trivial⟩) (fn:=Tryz.f66) fun hw hs=>?_;have hx:=JD (x.map kz) s;repeat'((conv=>whnf);apply af)
   all_goals try conv=>whnf
   all_goals try(refine ae.mk ?_;try dsimp only)
   . exact hp
   . rw[<-hx];refine ab.mk [] ?_<;>(repeat' first|trivial)
def Ft:Sm:=fun args σ=>match args,σ with
 |[.str s,.list c 1 x],[]=>some (StM x,.bool ((x.map kz).contains s),none)
 |_,_=>none
theorem U9:aq 80 Ft:=by
 intro args sg pre x r he hp;unfold Ft at he;split at he<;>cases he
 . rename_i s c x;refine ai (C:=cx []) (ak trivial) (fn:=Tryz.f80) fun hw hs=>?_;obtain⟨h1,h2⟩:=hp;have h3:(x.map kz).length=x.length:=aB ..;generalize x.map kz=l at*;subst h1;all_goals try conv=>whnf
   all_goals try(refine ae.mk ?_;try dsimp only)
   refine aM.mk Nat (fun i=>i<=l.length/\∀j,j<i->l.getD j default≠s) (fun i=>⟨18,[(0,.str s),(1,.list c 1 (l.map V.str)),(5,.int .i64 i)],[],[]⟩) (fun i=>l.length-i) [] 0 ⟨ci _,fun _ h=>by omega⟩ ?_ (fun i ⟨hi,hj⟩ _ _=>?_)
   . apply ao<;>(repeat' first|trivial)
   repeat'((conv=>whnf);first|apply af|((first|apply aj|apply dr)<;>intro h)|with_reducible refine Jr ?_ ?_)
   all_goals try conv=>whnf
   all_goals try(refine ae.mk ?_;try dsimp only)
   all_goals (try simp only[aB] at*)
   all_goals first|refine stay ?_|omega|skip
   . rw[SA (show i<l.length by omega) (by assumption)];refine ab.mk [] ?_<;>(repeat' first|trivial)
   . have he:l.getD i default≠s:=by assumption
     refine⟨[],i+1,⟨by omega,fun j q=>?_⟩,?_,by omega⟩
     . by_cases z:j=i
       . subst z;exact he
       . exact hj j (by omega)
     . apply ao<;>(repeat' first|trivial|apply ah|apply aC)
       (simp(discharger:=omega) only[wR];omega)
   . rw[(Cn (fun j q=>hj j (by omega))).2];refine ab.mk [] ?_<;>(repeat' first|trivial)
def eQ(l:List az) (ks:List Ky):List az:=l.filter fun a=>!(ks.contains a.key)
theorem HX{l:List az} {ks:List Ky} {i:Nat} (h:i<l.length):eQ (l.take (i+1)) ks=if ks.contains (l.getD i default).key=true then eQ (l.take i) ks else eQ (l.take i) ks++[l.getD i default]:=by
 unfold eQ;rw[rO (d:=default) h,List.filter_append];by_cases q:ks.contains (l.getD i default).key=true
 . rw[if_pos q,List.filter_cons,q];simp
 . rw[if_neg q,List.filter_cons,if_pos (by simpa using q),List.filter_nil]
theorem sK(l:List az) (ks:List Ky):(eQ l ks).length<=l.length:=List.length_filter_le _ _
theorem Pn(l:List az) (c:Bool) (ks:List Ky) (hl:l.length<=1000000) (hk:ks.length<=1000000):OK 23 [.list false 7 (aS l),.list c 1 (ks.map V.str)] [] (.list false 7 (aS (eQ l ks))) none:=by
 refine ai (C:=cx [(66,FD)]) (ak ⟨Ui,trivial⟩) (fn:=Tryz.f23) fun hw _=>?_;refine aM.mk Nat (fun i=>i<=l.length) (fun i=>⟨25,[(1,.list c 1 (ks.map V.str)),(5,.buf 0),(8,.list false 7 (aS l)),(9,.int .i64 l.length),(10,.int .i64 i)],[.buf 7 0 ((eQ (l.take i) ks).map ea)],[0]⟩) (fun i=>l.length-i) [.tm 5 7] 0 (ci _) ?_ (fun i hi _ _=>?_)
 . apply ao<;>(repeat' first|trivial|apply ah|apply aC)
   exact congrArg Nat.cast (cY l)
 have e1:=cY l;have hst:=HX (l:=l) (ks:=ks) (i:=i);have hsY:=fun(h:i<l.length) (q:ks.contains (l.getD i default).key=true)=>(hst h).trans (if_pos q);have hsN:=fun(h:i<l.length) (q:ks.contains (l.getD i default).key=false)=>(hst h).trans (if_neg (by rw[q];exact Bool.false_ne_true));have hln:=sK (l.take i) ks;have hln2:(l.take i).length=min i l.length:=eo;have hlm:((eQ (l.take i) ks).map ea).length=(eQ (l.take i) ks).length:=aB _;have hSt:=H3 hk;have hkx:=xe ks;repeat'((conv=>whnf);first|apply af|apply aI|((first|apply aj|apply e9)<;>intro h)|with_reducible refine mM ?_ ?_)
 all_goals try conv=>whnf
 all_goals try(refine ae.mk ?_;try dsimp only)
 all_goals (try simp only[hkx,cY] at*)
 all_goals first|refine stay ?_|trivial|omega|(simp only[du];omega)|skip
 all_goals try first
  |exact hSt
  | (show _ + 1 <= _
     omega)
  | (show ab _ _ _ _ _ _
     obtain rfl:i=l.length:=by omega
     rw[List.take_length];refine ab.mk [.bL 0] ?_<;>(repeat' first|trivial|apply ah|apply kT)
     exact(jF _).symm)
  | (refine ⟨[],i + 1,by omega,?_,by omega⟩
     first
      |rw[hsY (by omega) (by assumption)]
      |rw[hsN (by omega) (by assumption)]
     apply ao<;>(repeat' first|trivial|apply ah|apply aC|apply bg)
     all_goals first
      |(first|(simp(discharger:=omega) only[wR];omega)|(simp(discharger:=omega) [-List.getD_eq_getElem?_getD,wR]<;>omega))
      |(rw[gq];rfl))
theorem QT(l:List az) (c:Bool) (ks:List Ky) (hl:l.length<=1000000) (hk:ks.length<=1000000):OK 33 [.list false 7 (aS l),.list c 1 (ks.map V.str)] [] (.list false 7 (aS (eQ l ks))) none:=by
 refine ai (C:=cx [(80,Ft)]) (ak ⟨U9,trivial⟩) (fn:=Tryz.f33) fun hw _=>?_;refine aM.mk Nat (fun i=>i<=l.length) (fun i=>⟨29,[(0,.list false 7 (aS l)),(1,.list c 1 (ks.map V.str)),(5,.buf 0),(6,.int .i64 i)],[.buf 7 0 ((eQ (l.take i) ks).map ea)],[0]⟩) (fun i=>l.length-i) [.tm 5 7] 0 (ci _) ?_ (fun i hi _ _=>?_)
 . apply ao<;>(repeat' first|trivial)
 have e1:=cY l;have hst:=HX (l:=l) (ks:=ks) (i:=i);have hsY:=fun(h:i<l.length) (q:ks.contains (l.getD i default).key=true)=>(hst h).trans (if_pos q);have hsN:=fun(h:i<l.length) (q:ks.contains (l.getD i default).key=false)=>(hst h).trans (if_neg (by rw[q];exact Bool.false_ne_true));have hln:=sK (l.take i) ks;have hln2:(l.take i).length=min i l.length:=eo;have hlm:((eQ (l.take i) ks).map ea).length=(eQ (l.take i) ks).length:=aB _;have hSt:=H3 hk;have hkx:=xe ks;repeat'((conv=>whnf);first|apply af|apply aI|((first|apply aj|apply e9)<;>intro h)|with_reducible refine mM ?_ ?_)
 all_goals try conv=>whnf
 all_goals try(refine ae.mk ?_;try dsimp only)
 all_goals (try simp only[hkx,cY] at*)
 all_goals first|refine stay ?_|trivial|omega|(simp only[du];omega)|skip
 all_goals try first
  |exact hSt
  | (show _ + 1 <= _
     omega)
  | (show ab _ _ _ _ _ _
     obtain rfl:i=l.length:=by omega
     rw[List.take_length];refine ab.mk [.bL 0] ?_<;>(repeat' first|trivial|apply ah|apply kT)
     exact(jF _).symm)
  | (refine ⟨[],i + 1,by omega,?_,by omega⟩
     first
      |rw[hsY (by omega) (by assumption)]
      |rw[hsN (by omega) (by assumption)]
     apply ao<;>(repeat' first|trivial|apply ah|apply aC|apply bg)
     all_goals first
      |(first|(simp(discharger:=omega) only[wR];omega)|(simp(discharger:=omega) [-List.getD_eq_getElem?_getD,wR]<;>omega))
      |(rw[gq];rfl))
end Go.Proofs.YtknljebcgcmaeaaGreatDoor
