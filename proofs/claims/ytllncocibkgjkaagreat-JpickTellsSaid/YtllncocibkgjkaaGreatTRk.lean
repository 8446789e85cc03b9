/-
  A part of the proof.
-/
import Derived.Test.YtllncocibkgjkaaGreatTRb
import Derived.Test.YtllncocibkgjkaaGreatJTb
set_option linter.unusedSimpArgs false
set_option linter.unusedVariables false
set_option maxHeartbeats 4000000
namespace Go.Proofs.YtllncocibkgjkaaGreat
open Go Go.VG
set_option maxRecDepth 100000
abbrev It : Type := List Nd × List UInt8
def hdN (L : List Nd) : Nd := L.getD 0 default
def dd : List It → List Nd
 | [] => []
 | x :: l => x.1 ++ dd l
def uj (g : It → List UInt8) : List It → Nat → List UInt8
 | [], _ => []
 | x :: l, i => (if i = 0 then [] else [44]) ++ (g x ++ uj g l (i + 1))
def valI (x : It) : List UInt8 := x.2
def memI (x : It) : List UInt8 := quote (hdN x.1).key ++ ([58] ++ x.2)
def fB (x : It) : List UInt8 := (hdN x.1).key
inductive TT : Nat → List Nd → List UInt8 → Prop
 | leaf (d : Nat) (k : UInt8) (key t : List UInt8) (h : TkR ⟨k, t⟩) (hl : ez k = true) : TT d [⟨k, key, t, 1⟩] (textT ⟨k, t⟩)
 | lst (d : Nat) (key : List UInt8) (l : List It) (h : ∀ x ∈ l, TT d x.1 x.2) (hk : ∀ x ∈ l, fB x = []) : TT (d + 1) (⟨91, key, [], (dd l).length + 1⟩ :: dd l) (91 :: (uj valI l 0 ++ [93]))
 | obj (d : Nat) (key : List UInt8) (l : List It) (h : ∀ x ∈ l, TT d x.1 x.2) (hk : (l.map fB).Nodup) (ht : ∀ x ∈ l, dk (fB x)) : TT (d + 1) (⟨123, key, [], (dd l).length + 1⟩ :: dd l) (123 :: (uj memI l 0 ++ [125]))
theorem uI : ∀ (l m : List It), dd (l ++ m) = dd l ++ dd m
 | [], _ => rfl
 | x :: l, m => by show x.1 ++ dd (l ++ m) = (x.1 ++ dd l) ++ dd m; rw [uI l m, List.append_assoc]
theorem zP {l : List It} {x : It} (h : x ∈ l) : x.1.length ≤ (dd l).length := by
 induction l with
 | nil => cases h
 | cons y l ih =>
   show x.1.length ≤ (y.1 ++ dd l).length
   rw [List.length_append]
   rcases List.mem_cons.1 h with rfl | h
   . omega
   . have := ih h; omega
theorem uJ {l : List It} {z : Nd} (h : z ∈ dd l) : ∃ x ∈ l, z ∈ x.1 := by
 induction l with
 | nil => cases h
 | cons y l ih =>
   rcases List.mem_append.1 h with h | h
   . exact ⟨y, List.mem_cons_self, h⟩
   . obtain ⟨x, h1, h2⟩ := ih h
     exact ⟨x, List.mem_cons_of_mem _ h1, h2⟩
theorem TT.sz {d : Nat} {L : List Nd} {x : List UInt8} (h : TT d L x) : ∀ z ∈ L, 1 ≤ z.sz ∧ z.sz ≤ L.length := by
 induction h with
 | leaf => intro z hz; rw [List.mem_singleton] at hz; subst hz; exact ⟨Int.le_refl 1, Int.le_refl 1⟩
 | lst d key l h hk ih =>
   intro z hz
   rw [List.length_cons]
   rcases List.mem_cons.1 hz with rfl | hz
   . exact ⟨by show 1 ≤ ((dd l).length : Int) + 1; omega, by show ((dd l).length : Int) + 1 ≤ _; omega⟩
   . obtain ⟨y, hy, hz⟩ := uJ hz
     have := ih y hy z hz
     have := zP hy
     omega
 | obj d key l h hk ht ih =>
   intro z hz
   rw [List.length_cons]
   rcases List.mem_cons.1 hz with rfl | hz
   . exact ⟨by show 1 ≤ ((dd l).length : Int) + 1; omega, by show ((dd l).length : Int) + 1 ≤ _; omega⟩
   . obtain ⟨y, hy, hz⟩ := uJ hz
     have := ih y hy z hz
     have := zP hy
     omega
def NbL (m : Nat) (L : List Nd) : Prop := ∀ z ∈ L, z.key.length ≤ m ∧ z.t.length ≤ m
def jS (L : List Nd) (e : Nat) : Nat → Nat → List Nat
 | 0, _ => []
 | n + 1, k => if k < e then k :: jS L e n (k + (L.getD k default).sz.toNat) else []
def iY (L : List Nd) (a : Nat) : Nat := min L.length (a + (L.getD a default).sz.toNat)
def oA (L : List Nd) (a : Nat) : List Nat := jS L (iY L a) L.length (a + 1)
def cz (L : List Nd) (a : Int) : List Nat := if 0 ≤ a ∧ a < L.length then oA L a.toNat else []
end Go.Proofs.YtllncocibkgjkaaGreat
