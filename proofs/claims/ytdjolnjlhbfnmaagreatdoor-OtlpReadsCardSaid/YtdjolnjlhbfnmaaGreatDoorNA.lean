/-
  A part of the proof.
-/
import Derived.Test.YtdjolnjlhbfnmaaGreatDoorVgZ
import Derived.Shelf.Sort.Plain
import Derived.Shelf.Slices.In.SortNone
import Derived.Test.YtdjolnjlhbfnmaaGreatDoorVal
set_option linter.unusedSimpArgs false
set_option linter.unusedVariables false
namespace Go.VG
open Go Go.Sort Go.Shelf Go.Proofs
abbrev leB (x y : List UInt8) : Bool := decide (x ≤ y)
def sorted (l : List (List UInt8)) : List (List UInt8) := l.mergeSort leB
theorem sorted_perm (l : List (List UInt8)) : (sorted l).Perm l := List.mergeSort_perm _ _
theorem zC (l : List (List UInt8)) : (sorted l).length = l.length := (sorted_perm l).length_eq
theorem P3 {L : List (List UInt8)} {i : Nat} {x : V} (h : (L.map V.str)[i]? = some x) : ∃ s, L[i]? = some s ∧ x = .str s := by
 rw [List.getElem?_map] at h
 cases hs : L[i]? with
 | none => rw [hs] at h; cases h
 | some s => rw [hs] at h; exact ⟨s, rfl, (Option.some.inj h).symm⟩
theorem DW {st : St} {g : ay} {L : List (List UInt8)} {look : Nat → Option Value} : bP st g (L.map V.str) 1 look 0 ↔ ∀ (i : Nat) (s : List UInt8), L[i]? = some s → s.length ≤ maxLen ∧ look i = some (encStr s) := by
 rw [eW]
 constructor
 . intro h i s hs
   obtain ⟨u, h1, h2, _, h3⟩ := h i (.str s) (by rw [List.getElem?_map, hs]; rfl)
   simp only [VR] at h1
   obtain ⟨rfl, hl⟩ := h1
   have := h3 0 (by omega)
   rw [Nat.zero_add, Nat.mul_one, Nat.add_zero] at this
   exact ⟨hl, this⟩
 . intro h i x hx
   obtain ⟨s, hs, rfl⟩ := P3 hx
   obtain ⟨hl, he⟩ := h i s hs
   refine ⟨encStr s, ?_, rfl, ?_, fun j hj => ?_⟩
   . unfold VR
     exact ⟨rfl, hl⟩
   . intro v hv
     have : v = .string ⟨s.toArray⟩ := by simpa [Value.cells] using hv
     subst this
     rfl
   . have : j = 0 := by omega
     subst this
     rw [Nat.zero_add, Nat.mul_one, Nat.add_zero, he]
     rfl
theorem BQ {w : World} {n b : Nat} {d : Array (List UInt8)} {os : Array Obj} {k : Nat} (hk : k < w.heap.size) :
   (Sort.grow (putRow encStr (Sort.ahead w n) b 0 d) os).heap[k]? = if b = k then (w.heap[k]?).map (onCells (putCells encStr 0 d)) else w.heap[k]? := by
 show ((w.heap.modify b (onCells (putCells encStr 0 d))) ++ os)[k]? = _
 rw [Array.getElem?_append_left (by simpa using hk), Array.getElem?_modify]
theorem OQ {w : World} {n b : Nat} {d : Array (List UInt8)} {os : Array Obj} : w.heap.size ≤ (Sort.grow (putRow encStr (Sort.ahead w n) b 0 d) os).heap.size := by
 show w.heap.size ≤ ((w.heap.modify b (onCells (putCells encStr 0 d))) ++ os).size
 rw [Array.size_append, Array.size_modify]
 exact Nat.le_add_right _ _
theorem Nq {c : Array Value} {d : List (List UInt8)} {i : Nat} {s : List UInt8} (hc : d.length ≤ c.size) (h : d[i]? = some s) : (putCells encStr 0 d.toArray c)[i]? = some (encStr s) := by
 have hi : i < d.length := (List.getElem?_eq_some_iff.1 h).1
 unfold putCells
 rw [Array.getElem?_mapIdx, Array.getElem?_eq_getElem (by omega)]
 show some (if 0 ≤ i ∧ i < 0 + d.toArray.size then encStr d.toArray[i - 0]! else _) = _
 rw [if_pos ⟨Nat.zero_le _, by simpa using hi⟩]
 congr 2
 rw [Nat.sub_zero, getElem!_pos _ _ (by simpa using hi)]
 have := (List.getElem?_eq_some_iff.1 h).2
 simpa using this
theorem OV {P : Program} {gl : Nat → Option (List V)} {f : FuncId} (ρ : Ren) (Ly : Lays.n190 P ρ) (hf : ρ.f 190 = f) (hc : kj P f) (L : List (List UInt8)) (hbig : L.length < 4611686018427387904) :
   ey P gl f [.buf 0] [.buf 1 0 (L.map V.str)] (.tuple []) (some [.buf 1 0 ((sorted L).map V.str), .dead]) := by
 refine ⟨hc, fun E st g w vs R hg hv => ?_⟩
 simp only [aJ] at hv
 obtain ⟨u, us, rfl, hu, rfl⟩ := hv
 simp only [VR] at hu
 obtain ⟨_, rfl⟩ := hu
 have ho := R.ob 0 _ rfl
 simp only [cX] at ho
 obtain ⟨_, h2, _, h4, h5, h6, h7⟩ := ho
 rw [List.length_map] at h4 h5 h6
 by_cases hL : L = []
 . subst hL
   rw [show sorted [] = [] from List.length_eq_zero_iff.1 (zC [])]
   have hC := Any.slices_Sort_string_none Ly (g 0).base (g 0).cap w
   rw [hf] at hC
   show Calls P f #[.slice (g 0).base (g 0).len (g 0).cap] w _
   rw [show (g 0).len = 0 from h5]
   refine hC.mono ?_
   rintro e w' ⟨rfl, rfl⟩
   refine ⟨_, st, _, rfl, R.wo (base := none) (sz := 0), ?_, fun _ _ _ h => h, by simp, fun i o h _ => ?_⟩
   . simp only [VR]
     exact ⟨_, rfl, by simp [aJ]⟩
   . refine cp ?_
     have : i < 1 := (List.getElem?_eq_some_iff.1 h).1
     show i ≠ 1
     omega
 have hpos : 0 < L.length := List.length_pos_iff.2 hL
 rcases h7 with ⟨h7, _⟩ | ⟨b, c, el, fr, hb, hbase, hG, hh, hsz, hrow, hfr, hst⟩
 . omega
 rw [Nat.mul_one] at hsz
 rw [DW] at hrow
 have hbs : b < w.heap.size := jC hh
 have hH : Holds encStr w b 0 L.toArray := fun j hj => by
  have hj : j < L.length := by simpa using hj
  rw [Nat.zero_add]
  have h := (hrow j (L[j]) (List.getElem?_eq_getElem hj)).2
  refine ⟨?_, BM hh hfr (by omega)⟩
  rw [eF hh, h, getElem!_pos _ _ (by simpa using hj)]
  simp
 have hC := Any.slices_Sort_string Ly b 0 (g 0).cap L w hH hbs hbig
 rw [hf] at hC
 show Calls P f #[.slice (g 0).base (g 0).len (g 0).cap] w _
 rw [hbase, h5]
 refine hC.mono ?_
 rintro e w' ⟨rfl, n, os, rfl⟩
 have hother : ∀ k, k < w.heap.size → k ≠ b → (Sort.grow (putRow encStr (Sort.ahead w n) b 0 (L.mergeSort fun x y => decide (x ≤ y)).toArray) os).heap[k]? = w.heap[k]? := fun k hk hkb => by
  rw [BQ hk, if_neg (fun q => hkb q.symm)]
 have hself : (Sort.grow (putRow encStr (Sort.ahead w n) b 0 (L.mergeSort fun x y => decide (x ≤ y)).toArray) os).heap[b]? = some (.cells (putCells encStr 0 (sorted L).toArray c) el fr) := by
  rw [BQ hbs, if_pos rfl, hh]
  rfl
 have hln := zC L
 have R' : aR E st g [.buf 1 0 ((sorted L).map V.str)] (Sort.grow (putRow encStr (Sort.ahead w n) b 0 (L.mergeSort fun x y => decide (x ≤ y)).toArray) os) := {
  os := R.os
  tape := R.tape
  output := R.output
  size := Nat.le_trans R.size OQ
  gnew := R.gnew
  sub := R.sub
  stG := R.stG
  stw := fun b0 o v h => by
   have hne : b0 ≠ b := fun q => by
    have := hst o v (q ▸ h)
    omega
   have hw := R.stw b0 o v h
   obtain ⟨cc, el', fr', hh'⟩ := R.sL h
   rw [nO (hother b0 (jC hh') hne)]
   exact hw
  fr := fun b0 h => by
   have hlt : b0 < E.w0.heap.size := Nat.lt_of_not_le fun q => h (R.gnew b0 q)
   rw [hother b0 (Nat.lt_of_lt_of_le hlt R.size) (fun q => h (q ▸ hG))]
   exact R.fr b0 h
  ob := fun i o h => by
    cases i with
    | succ i => cases h
    | zero =>
      cases Option.some.inj h
      simp only [cX, List.length_map]
      rw [hln]
      refine ⟨Nat.one_pos, h2, Nat.zero_le _, h4, h5, h6, .inr ⟨b, _, el, fr, hb, hbase, hG, hself, ?_, ?_, ?_, hst⟩⟩
      . unfold putCells; rw [Array.size_mapIdx, hsz, Nat.mul_one]
      . rw [DW]
        intro i s hs
        obtain ⟨j, hj⟩ := List.mem_iff_getElem?.1 ((sorted_perm L).mem_iff.1 (List.mem_of_getElem? hs))
        exact ⟨(hrow j s hj).1, Nq (by omega) hs⟩
      . refine ⟨hfr.1, fun o h => hfr.2 o ?_⟩
        unfold putCells at h
        rwa [Array.size_mapIdx] at h
  inj := R.inj }
 refine ⟨_, st, _, rfl, R'.wo (base := none) (sz := 0), ?_, fun _ _ _ h => h, by simp, fun i o h _ => ?_⟩
 . simp only [VR]
   exact ⟨_, rfl, by simp [aJ]⟩
 . refine cp ?_
   have : i < 1 := (List.getElem?_eq_some_iff.1 h).1
   show i ≠ 1
   omega
end Go.VG
set_option maxHeartbeats 4000000
namespace Go.Proofs.YtdjolnjlhbfnmaaGreatDoor
open Go Go.VG
set_option maxRecDepth 100000
abbrev Ky := List UInt8
theorem x7 (a b : Ky) : a < b ∨ a = b ∨ b < a := by
 by_cases h : a < b
 . exact .inl h
 . by_cases h2 : b < a
   . exact .inr (.inr h2)
   . exact .inr (.inl (List.le_antisymm (List.not_lt.1 h2) (List.not_lt.1 h)))
theorem q9 (a : Ky) : ¬ a < a := List.lt_irrefl a
theorem wZ {a b c : Ky} (h : a < b) (h2 : b < c) : a < c := List.lt_trans h h2
def du : List aG → aG → List aG
 | [], a => [a]
 | b :: r, a => if b.key < a.key then b :: du r a else if b.key = a.key then a :: r else a :: b :: r
mutual
def dH : aK → aK
 | .mk k t n b l m => .mk k t n b (lf l) (bM m [])
def lf : List aK → List aK
 | [] => []
 | v :: r => dH v :: lf r
def fv : aG → aG
 | .mk k v => .mk k (dH v)
def bM : List aG → List aG → List aG
 | [], acc => acc
 | a :: r, acc => bM r (du acc (fv a))
end
theorem FD (l : List aK) : lf l = l.map dH := by
 induction l with
 | nil => simp [lf]
 | cons v r ih => simp [lf, ih]
theorem AL (l k : List aG) (acc : List aG) : bM (l ++ k) acc = bM k (bM l acc) := by
 induction l generalizing acc with
 | nil => simp [bM]
 | cons a r ih => simp only [List.cons_append, bM]; exact ih _
theorem AM (a : aG) (acc : List aG) : bM [a] acc = du acc (fv a) := by simp [bM]
theorem AJ (a : aG) : (fv a).key = a.key := by cases a; simp [fv, aG.key]
theorem FC (a : aG) : (fv a).value = dH a.value := by cases a; simp [fv, aG.value]
def oH (l : List aG) : Prop := l.Pairwise fun a b => a.key < b.key
theorem BW {R : List aG} {a x : aG} (h : oH R) : x ∈ du R a ↔ x = a ∨ (x ∈ R ∧ x.key ≠ a.key) := by
 induction R with
 | nil => simp [du]
 | cons b r ih =>
   have h1 := List.pairwise_cons.1 h
   have ih := ih h1.2
   rw [du]
   split
   . rename_i hlt
     rw [List.mem_cons, ih, List.mem_cons]
     constructor
     . rintro (rfl | h2 | ⟨h2, h3⟩)
       . exact .inr ⟨.inl rfl, fun q => q9 _ (q ▸ hlt)⟩
       . exact .inl h2
       . exact .inr ⟨.inr h2, h3⟩
     . rintro (h2 | ⟨rfl | h2, h3⟩)
       . exact .inr (.inl h2)
       . exact .inl rfl
       . exact .inr (.inr ⟨h2, h3⟩)
   . split
     . rename_i hlt heq
       rw [List.mem_cons, List.mem_cons]
       constructor
       . rintro (h2 | h2)
         . exact .inl h2
         . exact .inr ⟨.inr h2, fun q => q9 _ (by have := h1.1 x h2; rw [heq, q] at this; exact this)⟩
       . rintro (h2 | ⟨rfl | h2, h3⟩)
         . exact .inl h2
         . exact absurd heq h3
         . exact .inr h2
     . rename_i hlt hne
       have hgt : a.key < b.key := by rcases x7 b.key a.key with q | q | q; exact absurd q hlt; exact absurd q hne; exact q
       rw [List.mem_cons]
       constructor
       . rintro (h2 | h2)
         . exact .inl h2
         . refine .inr ⟨h2, fun q => ?_⟩
           rcases List.mem_cons.1 h2 with rfl | h4
           . exact hne q
           . have := wZ hgt (h1.1 x h4)
             rw [q] at this
             exact q9 _ this
       . rintro (h2 | ⟨h2, h3⟩)
         . exact .inl h2
         . exact .inr h2
theorem KU {R : List aG} {a : aG} (h : oH R) : oH (du R a) := by
 induction R with
 | nil => exact List.pairwise_singleton _ _
 | cons b r ih =>
   have h1 := List.pairwise_cons.1 h
   have ih := ih h1.2
   rw [du]
   split
   . rename_i hlt
     refine List.pairwise_cons.2 ⟨fun x hx => ?_, ih⟩
     rcases (BW h1.2).1 hx with rfl | ⟨hx, _⟩
     . exact hlt
     . exact h1.1 x hx
   . split
     . rename_i hlt heq
       exact List.pairwise_cons.2 ⟨fun x hx => heq ▸ h1.1 x hx, h1.2⟩
     . rename_i hlt hne
       have hgt : a.key < b.key := by rcases x7 b.key a.key with q | q | q; exact absurd q hlt; exact absurd q hne; exact q
       refine List.pairwise_cons.2 ⟨fun x hx => ?_, h⟩
       rcases List.mem_cons.1 hx with rfl | hx
       . exact hgt
       . exact wZ hgt (h1.1 x hx)
theorem DV : ∀ {A B : List aG}, oH A → oH B → (∀ x, x ∈ A ↔ x ∈ B) → A = B
 | [], [], _, _, _ => rfl
 | [], b :: B, _, _, h => absurd ((h b).2 List.mem_cons_self) List.not_mem_nil
 | a :: A, [], _, _, h => absurd ((h a).1 List.mem_cons_self) List.not_mem_nil
 | a :: A, b :: B, ha, hb, h => by
   have ha1 := List.pairwise_cons.1 ha
   have hb1 := List.pairwise_cons.1 hb
   have hab : a = b := by
    rcases List.mem_cons.1 ((h a).1 List.mem_cons_self) with q | q
    . exact q
    . rcases List.mem_cons.1 ((h b).2 List.mem_cons_self) with q2 | q2
      . exact q2.symm
      . exact absurd (wZ (hb1.1 a q) (ha1.1 b q2)) (q9 _)
   subst hab
   refine congrArg _ (DV ha1.2 hb1.2 fun x => ?_)
   constructor
   . intro hx
     rcases List.mem_cons.1 ((h x).1 (List.mem_cons_of_mem _ hx)) with q | q
     . exact absurd (q ▸ ha1.1 x hx) (q9 _)
     . exact q
   . intro hx
     rcases List.mem_cons.1 ((h x).2 (List.mem_cons_of_mem _ hx)) with q | q
     . exact absurd (q ▸ hb1.1 x hx) (q9 _)
     . exact q
def ba (k : Ky) (i : Int) : List (Ky × Int) → List (Ky × Int)
 | [] => [(k, i)]
 | (h, j) :: r => if h = k then (h, i) :: r else (h, j) :: ba k i r
def cE (l : List aG) : Nat → List (Ky × Int)
 | 0 => []
 | n + 1 => ba (l.getD n default).key n (cE l n)
abbrev mS (p : List (Ky × Int)) : List (V × Int) := p.map fun q => (.str q.1, q.2)
def gE (p : List (Ky × Int)) (k : Ky) : Int := getM (mS p) (.str k)
theorem qb (q : Ky × Int) (p : List (Ky × Int)) : mS (q :: p) = (.str q.1, q.2) :: mS p := rfl
theorem wg (h k : Ky) (j : Int) (es : List (V × Int)) : cB ((.str h, j) :: es) (.str k) = if h = k then some (0, j) else match cB es (.str k) with
   | some (j, q) => some (j + 1, q)
   | none => none := by
 simp only [cB, iR, oq]
 by_cases q : h = k
 . subst q; simp
 . rw [if_neg q, show (h == k) = false from beq_eq_false_iff_ne.2 q]; rfl
theorem Pj {p : List (Ky × Int)} {k : Ky} {i : Int} {j : Nat} {q : Int} (h : cB (mS p) (.str k) = some (j, q)) : mS (ba k i p) = iw (mS p) j i := by
 induction p generalizing j with
 | nil => simp [mS, cB] at h
 | cons x r ih =>
   obtain ⟨a, b⟩ := x
   rw [qb, wg] at h
   rw [ba]
   by_cases e : a = k
   . rw [if_pos e] at h ⊢
     cases h
     rfl
   . rw [if_neg e] at h ⊢
     cases hf : cB (mS r) (.str k) with
     | none => rw [hf] at h; cases h
     | some y =>
       rw [hf] at h
       obtain ⟨j', q'⟩ := y
       cases h
       rw [qb, qb, ih hf]
       rfl
theorem Pk {p : List (Ky × Int)} {k : Ky} {i : Int} (h : cB (mS p) (.str k) = none) : mS (ba k i p) = mS p ++ [(.str k, i)] := by
 induction p with
 | nil => rfl
 | cons x r ih =>
   obtain ⟨a, b⟩ := x
   rw [qb, wg] at h
   rw [ba]
   by_cases e : a = k
   . rw [if_pos e] at h; cases h
   . rw [if_neg e] at h ⊢
     cases hf : cB (mS r) (.str k) with
     | none => rw [qb, ih hf]; rfl
     | some y => rw [hf] at h; cases h
theorem Dt (p : List (Ky × Int)) (k k' : Ky) (i : Int) : gE (ba k i p) k' = if k' = k then i else gE p k' := by
 have e : ∀ (p : List (Ky × Int)) (h k : Ky) (j : Int), gE ((h, j) :: p) k = if h = k then j else gE p k := fun p h k j => by
  unfold gE getM
  rw [qb, wg]
  by_cases q : h = k
  . rw [if_pos q, if_pos q]
  . rw [if_neg q, if_neg q]
    cases cB (mS p) (.str k) <;> rfl
 induction p with
 | nil =>
   rw [ba, e]
   by_cases q : k = k'
   . rw [if_pos q, if_pos q.symm]
   . rw [if_neg q, if_neg (fun z => q z.symm)]
 | cons x r ih =>
   obtain ⟨a, b⟩ := x
   rw [ba, e]
   by_cases q : a = k
   . rw [if_pos q, e, q]
     by_cases q2 : k = k'
     . rw [if_pos q2, if_pos q2.symm]
     . rw [if_neg q2, if_neg (fun z => q2 z.symm), if_neg q2]
   . rw [if_neg q, e, ih]
     by_cases q2 : a = k'
     . rw [if_pos q2, if_pos q2, if_neg (fun z => q (q2.trans z))]
     . rw [if_neg q2, if_neg q2]
theorem zQ (p : List (Ky × Int)) (k : Ky) (i : Int) : (ba k i p).map Prod.fst = if k ∈ p.map Prod.fst then p.map Prod.fst else p.map Prod.fst ++ [k] := by
 induction p with
 | nil => simp [ba]
 | cons x r ih =>
   obtain ⟨a, b⟩ := x
   rw [ba]
   by_cases q : a = k
   . rw [if_pos q]; subst q; simp
   . rw [if_neg q, List.map_cons, ih, List.map_cons]
     have e : (k ∈ a :: r.map Prod.fst) ↔ k ∈ r.map Prod.fst := by
      rw [List.mem_cons]
      exact ⟨fun h => h.resolve_left fun z => q z.symm, .inr⟩
     by_cases q2 : k ∈ r.map Prod.fst
     . rw [if_pos q2, if_pos (e.2 q2)]
     . rw [if_neg q2, if_neg (fun z => q2 (e.1 z))]; rfl
structure PlOk (l : List aG) (n : Nat) : Prop where
 nd : ((cE l n).map Prod.fst).Nodup
 rs : oH (bM (l.take n) [])
 mem : ∀ x : aG, x ∈ bM (l.take n) [] ↔ (x.key ∈ (cE l n).map Prod.fst ∧ x.value = dH (l.getD (gE (cE l n) x.key).toNat default).value)
 pos : ∀ k, 0 ≤ gE (cE l n) k ∧ (k ∈ (cE l n).map Prod.fst → gE (cE l n) k < n)
theorem xy (l : List aG) : ∀ n, n ≤ l.length → PlOk l n
 | 0, _ => ⟨List.nodup_nil, List.Pairwise.nil, fun x => by simp [cE, bM], fun k => ⟨by simp [cE, gE, mS, getM, cB], fun h => by simp [cE] at h⟩⟩
 | n + 1, h => by
   have ih := xy l n (by omega)
   have ht : l.take (n + 1) = l.take n ++ [l.getD n default] := by
    rw [List.take_add_one, List.getD_eq_getElem?_getD, List.getElem?_eq_getElem (show n < l.length by omega)]; rfl
   have hc : bM (l.take (n + 1)) [] = du (bM (l.take n) []) (fv (l.getD n default)) := by rw [ht, AL, AM]
   have hk : ∀ k, k ∈ (cE l (n + 1)).map Prod.fst ↔ k = (l.getD n default).key ∨ k ∈ (cE l n).map Prod.fst := fun k => by
    rw [cE, zQ]
    split
    . rename_i q
      exact ⟨.inr, fun z => z.elim (fun z => z ▸ q) id⟩
    . rw [List.mem_append, List.mem_singleton]; exact Or.comm
   refine ⟨?_, ?_, fun x => ?_, fun k => ?_⟩
   . rw [cE, zQ]
     split
     . exact ih.nd
     . rename_i q
       exact List.nodup_append.2 ⟨ih.nd, by simp, fun a ha b hb => by
        rw [List.mem_singleton] at hb
        subst hb
        exact fun z => q (z ▸ ha)⟩
   . rw [hc]; exact KU ih.rs
   . rw [hc, BW ih.rs, hk, ih.mem, AJ, cE, Dt]
     by_cases q : x.key = (l.getD n default).key
     . rw [if_pos q, Int.toNat_natCast]
       constructor
       . rintro (rfl | ⟨_, z⟩)
         . exact ⟨.inl q, FC _⟩
         . exact absurd q z
       . rintro ⟨_, z⟩
         refine .inl ?_
         generalize l.getD n default = a at *
         obtain ⟨k, v⟩ := x
         obtain ⟨k', v'⟩ := a
         simp only [aG.key, aG.value] at q z
         rw [fv, q, z]
     . rw [if_neg q]
       constructor
       . rintro (rfl | ⟨z, _⟩)
         . exact absurd (AJ _) q
         . exact ⟨.inr z.1, z.2⟩
       . rintro ⟨z1, z2⟩
         exact .inr ⟨⟨z1.resolve_left q, z2⟩, q⟩
   . rw [cE, Dt]
     have hp := ih.pos k
     by_cases q : k = (l.getD n default).key
     . rw [if_pos q]; exact ⟨by omega, fun _ => by omega⟩
     . rw [if_neg q]
       refine ⟨hp.1, fun z => ?_⟩
       rw [← cE, hk] at z
       have := hp.2 (z.resolve_left q)
       omega
def uj (l : List aG) (k : Ky) : aG := .mk k (dH (l.getD (gE (cE l l.length) k).toNat default).value)
theorem OW {ks : List Ky} (h : ks.Nodup) : (sorted ks).Pairwise (· < ·) := by
 have h1 : (sorted ks).Pairwise fun a b => leB a b = true := List.pairwise_mergeSort (fun a b c h1 h2 => by
  simp only [leB, decide_eq_true_eq] at *
  exact List.le_trans h1 h2) (fun a b => by
  simp only [leB, Bool.or_eq_true, decide_eq_true_eq]
  exact List.le_total a b) ks
 have h2 : (sorted ks).Nodup := (sorted_perm ks).nodup_iff.2 h
 refine (h1.and h2).imp ?_
 rintro a b ⟨q1, q2⟩
 simp only [leB, decide_eq_true_eq] at q1
 rcases x7 a b with q | q | q
 . exact q
 . exact absurd q q2
 . exact absurd q (List.not_lt.2 q1)
theorem FI (l : List aG) {ks : List Ky} (h : ks.Perm ((cE l l.length).map Prod.fst)) : (sorted ks).map (uj l) = bM l [] := by
 have hp := xy l l.length (Nat.le_refl _)
 have hm := hp.mem
 have hr := hp.rs
 rw [List.take_length] at hm hr
 refine DV ?_ hr fun x => ?_
 . unfold oH
   rw [List.pairwise_map]
   exact (OW (h.nodup_iff.2 hp.nd)).imp fun q => q
 . rw [hm, List.mem_map, ← h.mem_iff, ← (sorted_perm ks).mem_iff]
   constructor
   . rintro ⟨k, hk, rfl⟩
     exact ⟨hk, rfl⟩
   . rintro ⟨hk, hv⟩
     refine ⟨x.key, hk, ?_⟩
     unfold uj
     rw [← hv]
     cases x; rfl
end Go.Proofs.YtdjolnjlhbfnmaaGreatDoor
