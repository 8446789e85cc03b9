/-
  A part of the proof.
-/
import Derived.Test.YtchllohbglebiaaGreatDoorVgZ
import Derived.Shelf.Sort.Plain
import Derived.Shelf.Slices.In.SortNone
import Derived.Test.YtchllohbglebiaaGreatDoorTRg
set_option linter.unusedSimpArgs false
set_option linter.unusedVariables false
set_option maxHeartbeats 4000000
set_option maxRecDepth 100000
namespace Go.VG
open Go Go.Sort Go.Shelf Go.Proofs
abbrev leB(x y:gA):Bool:=decide (x<=y)
def sorted(l:List gA):List (gA):=l.mergeSort leB
theorem sorted_perm(l:List gA):(sorted l).Perm l:=List.mergeSort_perm _ _
theorem G2(l:List gA):(sorted l).length=l.length:=(sorted_perm l).length_eq
theorem YN{L:List gA} {i:Nat} {x:V} (h:(L.map V.str)[i]?=some x):∃s,L[i]?=some s/\x=.str s:=by
 rw[List.getElem?_map] at h;cases hs:L[i]? with
 |none=>rw[hs] at h;cases h
 |some s=>rw[hs] at h;exact⟨s,rfl,(Option.some.inj h).symm⟩
theorem Mg{st:St} {g:au} {L:List gA} {look:Nat->Option Value}:cn st g (L.map V.str) 1 look 0↔∀(i:Nat) (s:gA),L[i]?=some s->s.length<=maxLen/\look i=some (encStr s):=by
 rw[gV];constructor
 . intro h i s hs;obtain⟨u,h1,h2,_,h3⟩:=h i (.str s) (by rw[List.getElem?_map,hs];rfl);simp only[VR] at h1;obtain⟨rfl,hl⟩:=h1;have:=h3 0 (by omega);rw[Nat.zero_add,Nat.mul_one,Nat.add_zero] at this;exact⟨hl,this⟩
 . intro h i x hx;obtain⟨s,hs,rfl⟩:=YN hx;obtain⟨hl,he⟩:=h i s hs;refine⟨encStr s,?_,rfl,?_,fun j hj=>?_⟩
   . unfold VR;exact⟨rfl,hl⟩
   . intro v hv;have:v=.string ⟨s.toArray⟩:=by simpa[Value.cells] using hv
     subst this;rfl
   . have:j=0:=by omega
     subst this;rw[Nat.zero_add,Nat.mul_one,Nat.add_zero,he];rfl
theorem Je{w:World} {n b:Nat} {d:Array gA} {os:Array Obj} {k:Nat} (hk:k<w.heap.size):
   (Sort.grow (putRow encStr (Sort.ahead w n) b 0 d) os).heap[k]?=if b=k then(w.heap[k]?).map (onCells (putCells encStr 0 d)) else w.heap[k]?:=by
 show((w.heap.modify b (onCells (putCells encStr 0 d)))++os)[k]?=_;rw[Array.getElem?_append_left (by simpa using hk),Array.getElem?_modify]
theorem Yz{w:World} {n b:Nat} {d:Array gA} {os:Array Obj}:w.heap.size<=(Sort.grow (putRow encStr (Sort.ahead w n) b 0 d) os).heap.size:=by
 show w.heap.size<=((w.heap.modify b (onCells (putCells encStr 0 d)))++os).size;rw[Array.size_append,Array.size_modify];exact Nat.le_add_right _ _
theorem Xf{c:Array Value} {d:List gA} {i:Nat} {s:gA} (hc:d.length<=c.size) (h:d[i]?=some s):(putCells encStr 0 d.toArray c)[i]?=some (encStr s):=by
 have hi:i<d.length:=(gt.1 h).1;unfold putCells;rw[Array.getElem?_mapIdx,Array.getElem?_eq_getElem (by omega)];show some (if 0<=i/\i<0+d.toArray.size then encStr d.toArray[i-0]! else _) =_;rw[if_pos ⟨bu _,by simpa using hi⟩]
 congr 2
 rw[Nat.sub_zero,getElem!_pos _ _ (by simpa using hi)];have:=(gt.1 h).2;simpa using this
theorem YB{P:Program} {gl:Nat->Option (List V)} {f:FuncId} (ρ:Ren) (Ly:Lays.n190 P ρ) (hf:ρ.f 190=f) (hc:n9 P f) (L:List gA) (hbig:L.length<4611686018427387904):
   eU P gl f [.buf 0] [.buf 1 0 (L.map V.str)] (.tuple []) (some [.buf 1 0 ((sorted L).map V.str),.dead]):=by
 refine⟨hc,fun E st g w vs R hg hv=>?_⟩;simp only[aC] at hv;obtain⟨u,us,rfl,hu,rfl⟩:=hv;simp only[VR] at hu;obtain⟨_,rfl⟩:=hu;have ho:=R.ob 0 _ rfl;simp only[dK] at ho;obtain⟨_,h2,_,h4,h5,h6,h7⟩:=ho;rw[aA] at h4 h5 h6;by_cases hL:L=[]
 . subst hL;rw[show sorted []=[] from List.length_eq_zero_iff.1 (G2 [])];have hC:=Any.slices_Sort_string_none Ly (g 0).base (g 0).cap w;rw[hf] at hC;show Calls P f #[.slice (g 0).base (g 0).len (g 0).cap] w _;rw[show(g 0).len=0 from h5];refine hC.mono ?_;rintro e w' ⟨rfl,rfl⟩;refine⟨_,st,_,rfl,R.CU (base:=none) (sz:=0),?_,fun _ _ _ h=>h,by simp,fun i o h _=>?_⟩
   . simp only[VR];exact⟨_,rfl,by simp[aC]⟩
   . refine cK ?_;have:i<1:=(gt.1 h).1;show i≠1;omega
 have hpos:0<L.length:=List.length_pos_iff.2 hL;rcases h7 with ⟨h7,_⟩|⟨b,c,el,fr,hb,hbase,hG,hh,hsz,hrow,hfr,hst⟩
 . omega
 rw[Nat.mul_one] at hsz;rw[Mg] at hrow;have hbs:b<w.heap.size:=ng hh;have hH:Holds encStr w b 0 L.toArray:=fun j hj=>by
  have hj:j<L.length:=by simpa using hj
  rw[Nat.zero_add];have h:=(hrow j (L[j]) (am hj)).2;refine⟨?_,IS hh hfr (by omega)⟩;rw[gZ hh,h,getElem!_pos _ _ (by simpa using hj)];simp
 have hC:=Any.slices_Sort_string Ly b 0 (g 0).cap L w hH hbs hbig;rw[hf] at hC;show Calls P f #[.slice (g 0).base (g 0).len (g 0).cap] w _;rw[hbase,h5];refine hC.mono ?_;rintro e w' ⟨rfl,n,os,rfl⟩;have hother:∀k,k<w.heap.size->k≠b->(Sort.grow (putRow encStr (Sort.ahead w n) b 0 (L.mergeSort fun x y=>decide (x<=y)).toArray) os).heap[k]?=w.heap[k]?:=fun k hk hkb=>by
  rw[Je hk,if_neg (fun q=>hkb q.symm)]
 have hself:(Sort.grow (putRow encStr (Sort.ahead w n) b 0 (L.mergeSort fun x y=>decide (x<=y)).toArray) os).heap[b]?=some (.cells (putCells encStr 0 (sorted L).toArray c) el fr):=by
  rw[Je hbs,if_pos rfl,hh];rfl
 have hln:=G2 L;have R':aF E st g [.buf 1 0 ((sorted L).map V.str)] (Sort.grow (putRow encStr (Sort.ahead w n) b 0 (L.mergeSort fun x y=>decide (x<=y)).toArray) os):={
  os:=R.os
  tape:=R.tape
  output:=R.output
  size:=Nat.le_trans R.size Yz
  gnew:=R.gnew
  sub:=R.sub
  stG:=R.stG
  stw:=fun b0 o v h=>by
   have hne:b0≠b:=fun q=>by
    have:=hst o v (q▸h);omega
   have hw:=R.stw b0 o v h;obtain⟨cc,el',fr',hh'⟩:=R.Bo h;rw[rv (hother b0 (ng hh') hne)];exact hw
  fr:=fun b0 h=>by
   have hlt:b0<E.w0.heap.size:=Nat.lt_of_not_le fun q=>h (R.gnew b0 q);rw[hother b0 (Nat.lt_of_lt_of_le hlt R.size) (fun q=>h (q▸hG))];exact R.fr b0 h
  ob:=fun i o h=>by
    cases i with
    |succ i=>cases h
    |zero=>
      cases Option.some.inj h;simp only[dK,aA];rw[hln];refine⟨Nat.one_pos,h2,bu _,h4,h5,h6,.inr ⟨b,_,el,fr,hb,hbase,hG,hself,?_,?_,?_,hst⟩⟩
      . unfold putCells;rw[Array.size_mapIdx,hsz,Nat.mul_one]
      . rw[Mg];intro i s hs;obtain⟨j,hj⟩:=List.mem_iff_getElem?.1 ((sorted_perm L).mem_iff.1 (List.mem_of_getElem? hs));exact⟨(hrow j s hj).1,Xf (by omega) hs⟩
      . refine⟨hfr.1,fun o h=>hfr.2 o ?_⟩;unfold putCells at h
        rwa [Array.size_mapIdx] at h
  inj:=R.inj}
 refine⟨_,st,_,rfl,R'.CU (base:=none) (sz:=0),?_,fun _ _ _ h=>h,by simp,fun i o h _=>?_⟩
 . simp only[VR];exact⟨_,rfl,by simp[aC]⟩
 . refine cK ?_;have:i<1:=(gt.1 h).1;show i≠1;omega
end Go.VG
namespace Go.Proofs.YtchllohbglebiaaGreatDoor
open Go Go.VG
abbrev Ky:=gA
theorem Dm(a b:Ky):a<b\/a=b\/b<a:=by
 by_cases h:a<b
 . exact .inl h
 . by_cases h2:b<a
   . exact .inr (.inr h2)
   . exact .inr (.inl (List.le_antisymm (List.not_lt.1 h2) (List.not_lt.1 h)))
theorem qC(a:Ky):¬a<a:=List.lt_irrefl a
theorem zD{a b c:Ky} (h:a<b) (h2:b<c):a<c:=List.lt_trans h h2
def cf:List ak->ak->List ak
 |[],a=>[a]
 |b::r,a=>if b.key<a.key then b::cf r a else if b.key=a.key then a::r else a::b::r
mutual
def kt:aM->aM
 |.mk k t n b l m=>.mk k t n b (tp l) (cS m [])
def tp:List aM->List aM
 |[]=>[]
 |v::r=>kt v::tp r
def mw:ak->ak
 |.mk k v=>.mk k (kt v)
def cS:List ak->List ak->List ak
 |[],acc=>acc
 |a::r,acc=>cS r (cf acc (mw a))
end
theorem OG(l:List aM):tp l=l.map kt:=by
 induction l with
 |nil=>simp[tp]
 |cons v r ih=>simp[tp,ih]
theorem OH(l k:List ak) (acc:List ak):cS (l++k) acc=cS k (cS l acc):=by
 induction l generalizing acc with
 |nil=>simp[cS]
 |cons a r ih=>simp only[List.cons_append,cS];exact ih _
theorem OJ(a:ak) (acc:List ak):cS [a] acc=cf acc (mw a):=by simp[cS]
theorem Hq(a:ak):(mw a).key=a.key:=by cases a;simp[mw,ak.key]
theorem OE(a:ak):(mw a).value=kt a.value:=by cases a;simp[mw,ak.value]
def cF(l:List ak):Prop:=l.Pairwise fun a b=>a.key<b.key
theorem qx{R:List ak} {a x:ak} (h:cF R):x∈cf R a↔x=a\/(x∈R/\x.key≠a.key):=by
 induction R with
 |nil=>simp[cf]
 |cons b r ih=>
   have h1:=List.pairwise_cons.1 h;have ih:=ih h1.2;rw[cf];split
   . rename_i hlt;rw[List.mem_cons,ih,List.mem_cons];constructor
     . rintro(rfl|h2|⟨h2,h3⟩)
       . exact .inr ⟨.inl rfl,fun q=>qC _ (q▸hlt)⟩
       . exact .inl h2
       . exact .inr ⟨.inr h2,h3⟩
     . rintro(h2|⟨rfl|h2,h3⟩)
       . exact .inr (.inl h2)
       . exact .inl rfl
       . exact .inr (.inr ⟨h2,h3⟩)
   . split
     . rename_i hlt heq;rw[List.mem_cons,List.mem_cons];constructor
       . rintro(h2|h2)
         . exact .inl h2
         . exact .inr ⟨.inr h2,fun q=>qC _ (by have:=h1.1 x h2;rw[heq,q] at this;exact this)⟩
       . rintro(h2|⟨rfl|h2,h3⟩)
         . exact .inl h2
         . exact absurd heq h3
         . exact .inr h2
     . rename_i hlt hne;have hgt:a.key<b.key:=by rcases Dm b.key a.key with q|q|q;exact absurd q hlt;exact absurd q hne;exact q
       rw[List.mem_cons];constructor
       . rintro(h2|h2)
         . exact .inl h2
         . refine .inr ⟨h2,fun q=>?_⟩;rcases List.mem_cons.1 h2 with rfl|h4
           . exact hne q
           . have:=zD hgt (h1.1 x h4);rw[q] at this;exact qC _ this
       . rintro(h2|⟨h2,h3⟩)
         . exact .inl h2
         . exact .inr h2
theorem p6{R:List ak} {a:ak} (h:cF R):cF (cf R a):=by
 induction R with
 |nil=>exact List.pairwise_singleton _ _
 |cons b r ih=>
   have h1:=List.pairwise_cons.1 h;have ih:=ih h1.2;rw[cf];split
   . rename_i hlt;refine List.pairwise_cons.2 ⟨fun x hx=>?_,ih⟩;rcases(qx h1.2).1 hx with rfl|⟨hx,_⟩
     . exact hlt
     . exact h1.1 x hx
   . split
     . rename_i hlt heq;exact List.pairwise_cons.2 ⟨fun x hx=>heq▸h1.1 x hx,h1.2⟩
     . rename_i hlt hne;have hgt:a.key<b.key:=by rcases Dm b.key a.key with q|q|q;exact absurd q hlt;exact absurd q hne;exact q
       refine List.pairwise_cons.2 ⟨fun x hx=>?_,h⟩;rcases List.mem_cons.1 hx with rfl|hx
       . exact hgt
       . exact zD hgt (h1.1 x hx)
theorem xC:∀{A B:List ak},cF A->cF B->(∀x,x∈A↔x∈B)->A=B
 |[],[],_,_,_=>rfl
 |[],b::B,_,_,h=>absurd ((h b).2 List.mem_cons_self) List.not_mem_nil
 |a::A,[],_,_,h=>absurd ((h a).1 List.mem_cons_self) List.not_mem_nil
 |a::A,b::B,ha,hb,h=>by
   have ha1:=List.pairwise_cons.1 ha;have hb1:=List.pairwise_cons.1 hb;have hab:a=b:=by
    rcases List.mem_cons.1 ((h a).1 List.mem_cons_self) with q|q
    . exact q
    . rcases List.mem_cons.1 ((h b).2 List.mem_cons_self) with q2|q2
      . exact q2.symm
      . exact absurd (zD (hb1.1 a q) (ha1.1 b q2)) (qC _)
   subst hab;refine congrArg _ (xC ha1.2 hb1.2 fun x=>?_);constructor
   . intro hx;rcases List.mem_cons.1 ((h x).1 (d5 _ hx)) with q|q
     . exact absurd (q▸ha1.1 x hx) (qC _)
     . exact q
   . intro hx;rcases List.mem_cons.1 ((h x).2 (d5 _ hx)) with q|q
     . exact absurd (q▸hb1.1 x hx) (qC _)
     . exact q
def aX(k:Ky) (i:Int):List (Ky×Int)->List (Ky×Int)
 |[]=>[(k,i)]
 |(h,j)::r=>if h=k then(h,i)::r else(h,j)::aX k i r
def db(l:List ak):Nat->List (Ky×Int)
 |0=>[]
 |n+1=>aX (l.getD n default).key n (db l n)
abbrev mS(p:List (Ky×Int)):List (V×Int):=p.map fun q=>(.str q.1,q.2)
def kc(p:List (Ky×Int)) (k:Ky):Int:=getM (mS p) (.str k)
theorem ur(q:Ky×Int) (p:List (Ky×Int)):mS (q::p) =(.str q.1,q.2)::mS p:=rfl
theorem CL(h k:Ky) (j:Int) (es:List (V×Int)):bF ((.str h,j)::es) (.str k) =if h=k then some (0,j) else match bF es (.str k) with
   |some (j,q) =>some (j+1,q)
   |none=>none:=by
 simp only[bF,lI,sa];by_cases q:h=k
 . subst q;simp
 . rw[if_neg q,show(h==k) =false from beq_eq_false_iff_ne.2 q];rfl
theorem Zj{p:List (Ky×Int)} {k:Ky} {i:Int} {j:Nat} {q:Int} (h:bF (mS p) (.str k) =some (j,q)):mS (aX k i p) =jk (mS p) j i:=by
 induction p generalizing j with
 |nil=>simp[mS,bF] at h
 |cons x r ih=>
   obtain⟨a,b⟩:=x;rw[ur,CL] at h;rw[aX];by_cases e:a=k
   . rw[if_pos e] at h⊢;cases h;rfl
   . rw[if_neg e] at h⊢;cases hf:bF (mS r) (.str k) with
     |none=>rw[hf] at h;cases h
     |some y=>
       rw[hf] at h;obtain⟨j',q'⟩:=y;cases h;rw[ur,ur,ih hf];rfl
theorem Zk{p:List (Ky×Int)} {k:Ky} {i:Int} (h:bF (mS p) (.str k) =none):mS (aX k i p) =mS p++[(.str k,i)]:=by
 induction p with
 |nil=>rfl
 |cons x r ih=>
   obtain⟨a,b⟩:=x;rw[ur,CL] at h;rw[aX];by_cases e:a=k
   . rw[if_pos e] at h;cases h
   . rw[if_neg e] at h⊢;cases hf:bF (mS r) (.str k) with
     |none=>rw[ur,ih hf];rfl
     |some y=>rw[hf] at h;cases h
theorem LO(p:List (Ky×Int)) (k k':Ky) (i:Int):kc (aX k i p) k'=if k'=k then i else kc p k':=by
 have e:∀(p:List (Ky×Int)) (h k:Ky) (j:Int),kc ((h,j)::p) k=if h=k then j else kc p k:=fun p h k j=>by
  unfold kc getM;rw[ur,CL];by_cases q:h=k
  . rw[if_pos q,if_pos q]
  . rw[if_neg q,if_neg q];cases bF (mS p) (.str k)<;>rfl
 induction p with
 |nil=>
   rw[aX,e];by_cases q:k=k'
   . rw[if_pos q,if_pos q.symm]
   . rw[if_neg q,if_neg (fun z=>q z.symm)]
 |cons x r ih=>
   obtain⟨a,b⟩:=x;rw[aX,e];by_cases q:a=k
   . rw[if_pos q,e,q];by_cases q2:k=k'
     . rw[if_pos q2,if_pos q2.symm]
     . rw[if_neg q2,if_neg (fun z=>q2 z.symm),if_neg q2]
   . rw[if_neg q,e,ih];by_cases q2:a=k'
     . rw[if_pos q2,if_pos q2,if_neg (fun z=>q (q2.trans z))]
     . rw[if_neg q2,if_neg q2]
theorem Gj(p:List (Ky×Int)) (k:Ky) (i:Int):(aX k i p).map Prod.fst=if k∈p.map Prod.fst then p.map Prod.fst else p.map Prod.fst++[k]:=by
 induction p with
 |nil=>simp[aX]
 |cons x r ih=>
   obtain⟨a,b⟩:=x;rw[aX];by_cases q:a=k
   . rw[if_pos q];subst q;simp
   . rw[if_neg q,List.map_cons,ih,List.map_cons];have e:(k∈a::r.map Prod.fst)↔k∈r.map Prod.fst:=by
      rw[List.mem_cons];exact⟨fun h=>h.resolve_left fun z=>q z.symm,.inr⟩
     by_cases q2:k∈r.map Prod.fst
     . rw[if_pos q2,if_pos (e.2 q2)]
     . rw[if_neg q2,if_neg (fun z=>q2 (e.1 z))];rfl
structure PlOk(l:List ak) (n:Nat):Prop where
 nd:((db l n).map Prod.fst).Nodup
 rs:cF (cS (l.take n) [])
 mem:∀x:ak,x∈cS (l.take n) []↔(x.key∈(db l n).map Prod.fst/\x.value=kt (l.getD (kc (db l n) x.key).toNat default).value)
 pos:∀k,0<=kc (db l n) k/\(k∈(db l n).map Prod.fst->kc (db l n) k<n)
theorem E5(l:List ak):∀n,n<=l.length->PlOk l n
 |0,_=>⟨List.nodup_nil,List.Pairwise.nil,fun x=>by simp[db,cS],fun k=>⟨by simp[db,kc,mS,getM,bF],fun h=>by simp[db] at h⟩⟩
 |n+1,h=>by
   have ih:=E5 l n (by omega);have ht:l.take (n+1) =l.take n++[l.getD n default]:=by
    rw[List.take_add_one,ac,am (show n<l.length by omega)];rfl
   have hc:cS (l.take (n+1)) []=cf (cS (l.take n) []) (mw (l.getD n default)):=by rw[ht,OH,OJ]
   have hk:∀k,k∈(db l (n+1)).map Prod.fst↔k=(l.getD n default).key\/k∈(db l n).map Prod.fst:=fun k=>by
    rw[db,Gj];split
    . rename_i q;exact⟨.inr,fun z=>z.elim (fun z=>z▸q) id⟩
    . rw[List.mem_append,List.mem_singleton];exact Or.comm
   refine⟨?_,?_,fun x=>?_,fun k=>?_⟩
   . rw[db,Gj];split
     . exact ih.nd
     . rename_i q;exact List.nodup_append.2 ⟨ih.nd,by simp,fun a ha b hb=>by
        rw[List.mem_singleton] at hb;subst hb;exact fun z=>q (z▸ha)⟩
   . rw[hc];exact p6 ih.rs
   . rw[hc,qx ih.rs,hk,ih.mem,Hq,db,LO];by_cases q:x.key=(l.getD n default).key
     . rw[if_pos q,Int.toNat_natCast];constructor
       . rintro(rfl|⟨_,z⟩)
         . exact⟨.inl q,OE _⟩
         . exact absurd q z
       . rintro⟨_,z⟩;refine .inl ?_;generalize l.getD n default=a at*;obtain⟨k,v⟩:=x;obtain⟨k',v'⟩:=a;simp only[ak.key,ak.value] at q z;rw[mw,q,z]
     . rw[if_neg q];constructor
       . rintro(rfl|⟨z,_⟩)
         . exact absurd (Hq _) q
         . exact⟨.inr z.1,z.2⟩
       . rintro⟨z1,z2⟩;exact .inr ⟨⟨z1.resolve_left q,z2⟩,q⟩
   . rw[db,LO];have hp:=ih.pos k;by_cases q:k=(l.getD n default).key
     . rw[if_pos q];exact⟨by omega,fun _=>by omega⟩
     . rw[if_neg q];refine⟨hp.1,fun z=>?_⟩;rw[<-db,hk] at z;have:=hp.2 (z.resolve_left q);omega
def A7(l:List ak) (k:Ky):ak:=.mk k (kt (l.getD (kc (db l l.length) k).toNat default).value)
theorem YC{ks:List Ky} (h:ks.Nodup):(sorted ks).Pairwise (·<·):=by
 have h1:(sorted ks).Pairwise fun a b=>leB a b=true:=List.pairwise_mergeSort (fun a b c h1 h2=>by
  simp only[leB,decide_eq_true_eq] at*;exact List.le_trans h1 h2) (fun a b=>by
  simp only[leB,Bool.or_eq_true,decide_eq_true_eq];exact List.le_total a b) ks
 have h2:(sorted ks).Nodup:=(sorted_perm ks).nodup_iff.2 h;refine(h1.and h2).imp ?_;rintro a b ⟨q1,q2⟩;simp only[leB,decide_eq_true_eq] at q1;rcases Dm a b with q|q|q
 . exact q
 . exact absurd q q2
 . exact absurd q (List.not_lt.2 q1)
theorem OM(l:List ak) {ks:List Ky} (h:ks.Perm ((db l l.length).map Prod.fst)):(sorted ks).map (A7 l) =cS l []:=by
 have hp:=E5 l l.length (cb _);have hm:=hp.mem;have hr:=hp.rs;rw[List.take_length] at hm hr;refine xC ?_ hr fun x=>?_
 . unfold cF;rw[List.pairwise_map];exact(YC (h.nodup_iff.2 hp.nd)).imp fun q=>q
 . rw[hm,List.mem_map,<-h.mem_iff,<-(sorted_perm ks).mem_iff];constructor
   . rintro⟨k,hk,rfl⟩;exact⟨hk,rfl⟩
   . rintro⟨hk,hv⟩;refine⟨x.key,hk,?_⟩;unfold A7;rw[<-hv];cases x;rfl
def less:List ak->Ky->Nat
 |[],_=>0
 |b::r,k=>if b.key<k then less r k+1 else 0
theorem KQ(l:List ak) (k:Ky):less l k<=l.length:=by
 induction l with
 |nil=>exact cb 0
 |cons b r ih=>
   rw[less];split
   . exact Nat.succ_le_succ ih
   . exact bu _
theorem KR{l:List ak} {k:Ky} {j:Nat} (h:j<less l k):(l.getD j default).key<k:=by
 induction l generalizing j with
 |nil=>exact absurd h (Nat.not_lt_zero _)
 |cons b r ih=>
   rw[less] at h;split at h
   . cases j with
     |zero=>assumption
     |succ j=>exact ih (by omega)
   . exact absurd h (Nat.not_lt_zero _)
theorem KO{l:List ak} {k:Ky} (h:less l k<l.length):¬(l.getD (less l k) default).key<k:=by
 induction l with
 |nil=>exact absurd h (Nat.not_lt_zero _)
 |cons b r ih=>
   rw[less] at h⊢;by_cases q:b.key<k
   . rw[if_pos q] at h⊢;exact ih (by simpa using h)
   . rw[if_neg q] at h⊢;exact q
theorem Tt(l:List ak) (a:ak):cf l a=l.take (less l a.key)++a::(if less l a.key<l.length/\(l.getD (less l a.key) default).key=a.key then l.drop (less l a.key+1) else l.drop (less l a.key)):=by
 induction l with
 |nil=>simp[cf,less]
 |cons b r ih=>
   rw[cf,less];by_cases q:b.key<a.key
   . rw[if_pos q,if_pos q,ih];have e:(less r a.key+1<(b::r).length/\((b::r).getD (less r a.key+1) default).key=a.key)↔(less r a.key<r.length/\(r.getD (less r a.key) default).key=a.key):=by simp
     by_cases z:less r a.key<r.length/\(r.getD (less r a.key) default).key=a.key
     . rw[if_pos z,if_pos (e.2 z)];rfl
     . rw[if_neg z,if_neg (fun y=>z (e.1 y))];rfl
   . rw[if_neg q,if_neg q];by_cases z:b.key=a.key
     . rw[if_pos z,if_pos ⟨Nat.succ_pos _,z⟩];rfl
     . rw[if_neg z,if_neg (fun y=>z y.2)];rfl
theorem zf(l:List ak) (a:ak):(cf l a).length<=l.length+1:=by
 induction l with
 |nil=>simp[cf]
 |cons b r ih=>
   rw[cf];split
   . simp only[List.length_cons];omega
   . split
     . simp only[List.length_cons];omega
     . simp only[List.length_cons];omega
def isA(x:V):Prop:=Wk x (ea (vS x))
def sm_into:Sm:=fun args σ=>match args,σ with
 |[x,y],[]=>some (oe x/\isA y/\(lq x).length<=100000,.list false 7 (aG (cf (lq x) (vS y))),none)
 |_,_=>none
-- #name cf truchmanref24.Into
def sF(k:Nat):Sm:=fun args σ=>match args,σ with
 |[x],[]=>some (qz x/\(my x).nodes<k,ev (kt (my x)),none)
 |_,_=>none
def uN(k:Nat):Sm:=fun args σ=>match args,σ with
 |[x],[]=>some (oe x/\ji (lq x)<k,.list false 7 (aG (cS (lq x) [])),none)
 |_,_=>none
theorem MA{f:Nat} {k:Nat} (h:∀v,v.nodes<k->OK f [ev v] [] (ev (kt v)) none):ax f (sF k):=by
 intro args sg pre x r he hp;unfold sF at he;split at he<;>cases he;exact(h _ hp.2).args (ba.cons hp.1 ba.nil)
theorem Mz{f:Nat} {k:Nat} (h:∀l,ji l<k->OK f [.list false 7 (aG l)] [] (.list false 7 (aG (cS l []))) none):ax f (uN k):=by
 intro args sg pre x r he hp;unfold uN at he;split at he<;>cases he;exact(h _ hp.2).args (ba.cons hp.1 ba.nil)
theorem VV(l:List aM):l.length<=qJ l:=by
 induction l with
 |nil=>exact bu _
 |cons v r ih=>rw[qJ,List.length_cons];have:=Ls v;omega
theorem VW(l:List ak):l.length<=ji l:=by
 induction l with
 |nil=>exact bu _
 |cons v r ih=>rw[ji,List.length_cons,Lr];have:=Ls v.value;omega
theorem OL(v:aM):kt v=.mk v.kind v.text v.num v.bits (v.list.map kt) (cS v.map []):=by cases v;simp[kt,OG,aM.kind,aM.text,aM.num,aM.bits,aM.list,aM.map]
theorem OI(l:List ak) (acc:List ak):(cS l acc).length<=l.length+acc.length:=by
 induction l generalizing acc with
 |nil=>simp[cS]
 |cons a r ih=>
   rw[cS];have:=ih (cf acc (mw a));have:=zf acc (mw a);simp only[List.length_cons];omega
theorem oG{α:Type} {l:List α} {i:Nat} {d:α} (h:i<l.length):l.take (i+1) =l.take i++[l.getD i d]:=by
 rw[List.take_add_one,ac,am h];rfl
end Go.Proofs.YtchllohbglebiaaGreatDoor
