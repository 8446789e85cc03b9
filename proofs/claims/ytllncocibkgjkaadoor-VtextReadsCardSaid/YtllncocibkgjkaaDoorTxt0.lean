/-
  A part of the proof.
-/
import Derived.Test.YtllncocibkgjkaaDoorB
set_option linter.unusedSimpArgs false
set_option linter.unusedVariables false
set_option maxHeartbeats 4000000
namespace Go.Proofs.YtllncocibkgjkaaDoor
open Go Go.VG
set_option maxRecDepth 100000
def hexDigits : List UInt8 := [48, 49, 50, 51, 52, 53, 54, 55, 56, 57, 97, 98, 99, 100, 101, 102]
def gz (n : Nat) : UInt8 := hexDigits.getD n 0
def ey : List UInt8 → List UInt8
 | [] => []
 | b :: s => gz (b.toNat / 16) :: gz (b.toNat % 16) :: ey s
@[simp] theorem kG (s : List UInt8) : (ey s).length = 2 * s.length := by
 induction s with
 | nil => rfl
 | cons b s ih => simp [ey, ih]; omega
theorem G4 (s t : List UInt8) : ey (s ++ t) = ey s ++ ey t := by
 induction s with
 | nil => rfl
 | cons b s ih => simp [ey, ih]
def digit (n : Nat) : UInt8 := .ofNat (48 + n)
def dec (n : Nat) : List UInt8 := if n < 10 then [digit n] else dec (n / 10) ++ [digit (n % 10)]
theorem dec_lt {n : Nat} (h : n < 10) : dec n = [digit n] := by rw [dec, if_pos h]
theorem rA {n : Nat} (h : ¬ n < 10) : dec n = dec (n / 10) ++ [digit (n % 10)] := by rw [dec, if_neg h]
theorem rB (n : Nat) : 1 ≤ (dec n).length := by
 rw [dec]; split <;> simp
theorem yw : ∀ (k n : Nat), n < 10 ^ (k + 1) → (dec n).length ≤ k + 1
 | 0, n, h => by rw [dec_lt (by simpa using h)]; simp
 | k + 1, n, h => by
   by_cases hn : n < 10
   . rw [dec_lt hn]; simp
   . rw [rA hn]
     have := yw k (n / 10) (by rw [Nat.pow_succ] at h; exact Nat.div_lt_of_lt_mul (by rw [Nat.mul_comm]; exact h))
     simp; omega
theorem u6 {n : Nat} (h : n < 18446744073709551616) : (dec n).length ≤ 20 := yw 19 n (by omega)
def fK (n : Int) : List UInt8 := if n < 0 then 45 :: dec n.natAbs else dec n.toNat
theorem Dj {n : Int} (h : -9223372036854775808 ≤ n) (h2 : n ≤ 9223372036854775807) : (fK n).length ≤ 21 := by
 unfold fK; split
 . have := u6 (n := n.natAbs) (by omega); simp; omega
 . have := u6 (n := n.toNat) (by omega); omega
def be : Nat → Nat → List UInt8
 | 0, _ => []
 | n + 1, u => be n (u / 256) ++ [.ofNat (u % 256)]
@[simp] theorem KH (n u : Nat) : (be n u).length = n := by induction n generalizing u <;> simp_all [be]
def hJ (c : UInt8) : List UInt8 := if c.toNat = 34 ∨ c.toNat = 92 then [92, c] else if c.toNat < 32 then [92, 117, 48, 48] ++ ey [c] else [c]
def d5 (s : List UInt8) : List UInt8 := s.flatMap hJ
def quote (s : List UInt8) : List UInt8 := 34 :: (d5 s ++ [34])
theorem IZ (c : UInt8) : (hJ c).length ≤ 6 := by unfold hJ; split <;> (try split) <;> simp
theorem Bg (s : List UInt8) : (d5 s).length ≤ 6 * s.length := by
 induction s with
 | nil => simp [d5]
 | cons c s ih => have := IZ c; simp only [d5, List.flatMap_cons, List.length_append, List.length_cons] at ih ⊢; omega
theorem nd (s : List UInt8) : (quote s).length ≤ 6 * s.length + 2 := by have := Bg s; simp [quote]; omega
theorem IY {s : List UInt8} {i : Nat} (h : i < s.length) : d5 (s.take (i + 1)) = d5 (s.take i) ++ hJ (s.getD i 0) := by rw [xe h]; simp [d5]
theorem gI {n : Int} (h : 0 ≤ n ∧ n ≤ 255) : V.int .u8 n = bv (byte n) := by rw [bv, gO h]
end Go.Proofs.YtllncocibkgjkaaDoor
