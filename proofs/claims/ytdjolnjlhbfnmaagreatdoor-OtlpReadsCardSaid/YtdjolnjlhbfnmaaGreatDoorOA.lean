/-
  A part of the proof.
-/
import Derived.Test.YtdjolnjlhbfnmaaGreatDoorPQc
import Derived.Test.YtdjolnjlhbfnmaaGreatDoorPSame
set_option linter.unusedSimpArgs false
set_option linter.unusedVariables false
set_option maxHeartbeats 4000000
namespace Go.Proofs.YtdjolnjlhbfnmaaGreatDoor
open Go Go.VG
set_option maxRecDepth 100000
theorem P8 (c : Cu) (n : Int) : (c.c7 n).length + c.p ≤ (c.pass n).p := by
 unfold Cu.c7
 by_cases h : c.may n = true
 . rw [if_pos h]
   have h2 : c.c = 0 ∧ 0 ≤ n ∧ n ≤ (c.e : Int) - c.p := of_decide_eq_true h
   unfold Cu.pass
   rw [if_neg (fun q => q h2.1), if_neg (by omega), if_neg (by omega)]
   show ((c.s.drop c.p).take n.toNat).length + c.p ≤ c.p + n.toNat
   have := List.length_take_le n.toNat (c.s.drop c.p)
   omega
 . rw [if_neg h, List.length_nil, Nat.zero_add]
   exact s7 c n
theorem EP (c : Cu) : c.text.1.length + c.p ≤ c.text.2.p := by
 have hv := qG 10 0 0 c
 have hv : c.p ≤ c.bg.2.p := hv
 unfold Cu.text
 dsimp only
 split
 . rw [mD]; simpa using hv
 . have := P8 c.bg.2 c.bg.1
   show (c.bg.2.c7 c.bg.1).length + c.p ≤ (c.bg.2.pass c.bg.1).p
   omega
theorem P6 (c : Cu) : c.p ≤ c.tag.2.p := by
 have hv : c.p ≤ c.bg.2.p := qG 10 0 0 c
 unfold Cu.tag
 repeat' split
 . exact hv
 . exact hv
 . rw [mD]; exact hv
theorem N2 (c : Cu) : c.fz.text.length + c.p ≤ c.bK.p := by
 have h1 := P6 c
 have h2 := D8 ⟨c.tag.1.1, c.tag.1.2, 0, []⟩ c.tag.2
 have h2 : c.tag.2.p ≤ c.bK.p := h2
 unfold Cu.fz
 split
 . show 0 + c.p ≤ _; omega
 . unfold oE
   repeat' split
   all_goals first
    | (show 0 + c.p ≤ _; omega)
    | skip
   rename_i h3 h4 h5 h6
   have e : c.bK = c.tag.2.text.2 := by
    unfold Cu.bK gC
    rw [if_neg (by assumption), if_neg (by assumption), if_neg (by assumption), if_pos (by assumption)]
   rw [e]
   have := EP c.tag.2
   show c.tag.2.text.1.length + c.p ≤ _
   omega
theorem Bb : ∀ (n : Nat) (c : Cu) (acc : List Pf), c.ok → (bX (dJ n c acc).2).length ≤ (bX acc).length + (c.e - c.p)
 | 0, c, acc, _ => Nat.le_add_right _ _
 | n + 1, c, acc, hc => by
   rw [dJ]
   split
   . split
     . exact Nat.le_add_right _ _
     . have hk := rW hc
       have ht := N2 c
       have ih := Bb n c.bK (acc ++ [c.fz]) hk.1
       rw [iO, List.length_append, hk.2.2] at ih
       have := hk.1.1
       rw [hk.2.2] at this
       omega
   . exact Nat.le_add_right _ _
theorem wF (s : List UInt8) : (bX (aF s)).length ≤ s.length := by
 unfold aF
 split
 . have := Bb (Cu.new s).e (.new s) [] ⟨Nat.zero_le _, Nat.le_refl _⟩
   have e : ((Cu.new s).all []).2 = (dJ (Cu.new s).e (.new s) []).2 := by
    show (dJ ((Cu.new s).e - 0) (.new s) []).2 = _
    rw [Nat.sub_zero]
   rw [e]
   exact Nat.le_trans this (by show 0 + (s.length - 0) ≤ _; omega)
 . exact Nat.zero_le _
theorem tQ (f : Pf) (l : List Pf) : bX (f :: l) = f.text ++ bX l := by simp [bX]
theorem wG : ∀ {l : List Pf} {f : Pf}, f ∈ l → f.text.length ≤ (bX l).length
 | g :: l, f, h => by
   rw [tQ, List.length_append]
   rcases List.mem_cons.1 h with rfl | h
   . omega
   . have := wG h; omega
theorem C3 (p : Pf → Bool) : ∀ l : List Pf, (bX (ar p l)).length ≤ (bX l).length
 | [] => Nat.le_refl _
 | f :: l => by
   have ih := C3 p l
   unfold ar at ih ⊢
   rw [List.filter_cons, tQ, List.length_append]
   split
   . rw [tQ, List.length_append]; omega
   . omega
theorem xa {l : List Pf} (h : l ≠ []) : aQ l ∈ l := by
 have e := List.dropLast_concat_getLast h
 have h2 : aQ l = l.getLast h := by
  conv => lhs; rw [← e]
  exact jf _ _
 rw [h2]
 exact List.getLast_mem h
structure Fits (s : List UInt8) : Prop where
 j : ∀ p, (bX (ar p (aF s))).length ≤ s.length
 t : ∀ p, ∀ f ∈ ar p (aF s), f.text.length ≤ s.length
 l : (aF s).length ≤ s.length
 s : ∀ f ∈ aF s, f.text.length ≤ s.length
theorem fits (s : List UInt8) : Fits s where
 j := fun p => Nat.le_trans (C3 p _) (wF s)
 t := fun p f hf => Nat.le_trans (wG (List.mem_filter.1 hf).1) (wF s)
 l := Fl s
 s := fun f hf => Nat.le_trans (wG hf) (wF s)
def T7 : List Tg := [(1, 2), (2, 0), (3, 0), (4, 1), (7, 2), (5, 2), (6, 2)]
def bu (f : Pf) : Int := if f.wi = 2 ∧ f.no = 1 then 1 else if f.wi = 0 ∧ f.no = 2 then 2 else if f.wi = 0 ∧ f.no = 3 then 3 else if f.wi = 1 ∧ f.no = 4 then 4 else if f.wi = 2 ∧ f.no = 5 then 6 else if f.wi = 2 ∧ f.no = 6 then 7 else if f.wi = 2 ∧ f.no = 7 then 5 else 0
theorem wy (f : Pf) : bn T7 f = true ↔ bu f ≠ 0 := by
 obtain ⟨no, wi, num, text⟩ := f
 unfold bu bn T7
 simp only [List.mem_cons, Prod.mk.injEq, List.not_mem_nil, or_false, decide_eq_true_eq]
 constructor
 . intro h
   repeat' split
   all_goals omega
 . intro h
   repeat' split at h
   all_goals omega
def vz : aK := .mk 0 [] 0 0 [] []
def fP (f : Pf) : aK :=
 if bu f = 2 then .mk 2 [] (IntKind.i64.wrap (if 1 < f.num then 1 else f.num)) 0 [] [] else if bu f = 3 then .mk 3 [] (IntKind.i64.wrap f.num) 0 [] []
 else if bu f = 4 then .mk 4 [] 0 f.num [] [] else if bu f = 5 then .mk 5 f.text 0 0 [] [] else .mk 1 f.text 0 0 [] []
abbrev RV := List UInt8 → Int × aK
def fp (g6 g7 : RV) (s : List UInt8) : Int × aK :=
 if ao s ≠ 0 then (ao s, vz) else if ar (bn T7) (aF s) = [] then (0, vz)
 else if bu (aQ (ar (bn T7) (aF s))) = 6 then g6 (aQ (ar (bn T7) (aF s))).text
 else if bu (aQ (ar (bn T7) (aF s))) = 7 then g7 (aQ (ar (bn T7) (aF s))).text
 else (0, fP (aQ (ar (bn T7) (aF s))))
def fA (v : RV) : List (List UInt8) → List aK → Int × List aK
 | [], acc => (0, acc)
 | x :: xs, acc => if (v x).1 ≠ 0 then ((v x).1, []) else fA v xs (acc ++ [(v x).2])
def az : aG := .mk [] vz
def cO (v : RV) (s : List UInt8) : Int × aG :=
 if ao s ≠ 0 then (ao s, az) else if (v (bX (ar (aD 2 2) (aF s)))).1 ≠ 0 then ((v (bX (ar (aD 2 2) (aF s)))).1, az)
 else (0, .mk (aQ (ar (aD 1 2) (aF s))).text (v (bX (ar (aD 2 2) (aF s)))).2)
def bO (v : RV) : List (List UInt8) → List aG → Int × List aG
 | [], acc => (0, acc)
 | x :: xs, acc => if (cO v x).1 ≠ 0 then ((cO v x).1, []) else bO v xs (acc ++ [(cO v x).2])
def dx (s : List UInt8) : List (List UInt8) := (ar (aD 1 2) (aF s)).map Pf.text
def fq (v : RV) (s : List UInt8) : Int × List aK := if ao s ≠ 0 then (ao s, []) else fA v (dx s) []
def fZ (v : RV) (s : List UInt8) : Int × List aG := if ao s ≠ 0 then (ao s, []) else bO v (dx s) []
def iS (r : Int × List aK) : Int × aK := if r.1 ≠ 0 then (r.1, vz) else (0, .mk 6 [] 0 0 r.2 [])
def jj (r : Int × List aG) : Int × aK := if r.1 ≠ 0 then (r.1, vz) else (0, .mk 7 [] 0 0 [] r.2)
def eb : Nat → RV
 | 0 => fp (fun _ => (33, vz)) (fun _ => (33, vz))
 | k + 1 => fp (fun s => iS (fq (eb k) s)) (fun s => jj (fZ (eb k) s))
theorem DL {v : RV} {L : List (List UInt8)} {acc : List aK} {i : Nat} (h : i < L.length) : fA v (L.drop i) acc = if (v (L.getD i default)).1 ≠ 0 then ((v (L.getD i default)).1, []) else fA v (L.drop (i + 1)) (acc ++ [(v (L.getD i default)).2]) := by
 rw [List.drop_eq_getElem_cons h, fA, List.getD_eq_getElem?_getD, List.getElem?_eq_getElem h]; rfl
theorem uv {v : RV} {L : List (List UInt8)} {acc : List aG} {i : Nat} (h : i < L.length) : bO v (L.drop i) acc = if (cO v (L.getD i default)).1 ≠ 0 then ((cO v (L.getD i default)).1, []) else bO v (L.drop (i + 1)) (acc ++ [(cO v (L.getD i default)).2]) := by
 rw [List.drop_eq_getElem_cons h, bO, List.getD_eq_getElem?_getD, List.getElem?_eq_getElem h]; rfl
theorem DM {v : RV} : ∀ {L : List (List UInt8)} {acc : List aK}, (fA v L acc).1 ≠ 0 → (fA v L acc).2 = []
 | [], acc, h => absurd rfl h
 | x :: L, acc, h => by
   rw [fA] at h ⊢
   by_cases q : (v x).1 ≠ 0
   . rw [if_pos q]
   . rw [if_neg q] at h ⊢; exact DM h
theorem sd {v : RV} : ∀ {L : List (List UInt8)} {acc : List aG}, (bO v L acc).1 ≠ 0 → (bO v L acc).2 = []
 | [], acc, h => absurd rfl h
 | x :: L, acc, h => by
   rw [bO] at h ⊢
   by_cases q : (cO v x).1 ≠ 0
   . rw [if_pos q]
   . rw [if_neg q] at h ⊢; exact sd h
end Go.Proofs.YtdjolnjlhbfnmaaGreatDoor
