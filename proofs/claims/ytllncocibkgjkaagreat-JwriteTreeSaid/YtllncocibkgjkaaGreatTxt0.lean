/-
  A part of the proof.
-/
import Derived.Test.YtllncocibkgjkaaGreatB
set_option linter.unusedSimpArgs false
set_option linter.unusedVariables false
set_option maxHeartbeats 4000000
namespace Go.Proofs.YtllncocibkgjkaaGreat
open Go Go.VG
set_option maxRecDepth 100000
def j5 : List UInt8 := [48, 49, 50, 51, 52, 53, 54, 55, 56, 57, 97, 98, 99, 100, 101, 102]
def fY (n : Nat) : UInt8 := j5.getD n 0
def fy : List UInt8 → List UInt8
 | [] => []
 | b :: s => fY (b.toNat / 16) :: fY (b.toNat % 16) :: fy s
@[simp] theorem pJ (s : List UInt8) : (fy s).length = 2 * s.length := by
 induction s with
 | nil => rfl
 | cons b s ih => simp [fy, ih]; omega
theorem zO (s t : List UInt8) : fy (s ++ t) = fy s ++ fy t := by
 induction s with
 | nil => rfl
 | cons b s ih => simp [fy, ih]
theorem zP {n k : Int} (m : Nat) (hn : n = m) (hk : k = m + 1) (h1 : m < 16) : (List.take k.toNat [48, 49, 50, 51, 52, 53, 54, 55, 56, 57, 97, 98, 99, 100, 101, 102]).drop n.toNat = [fY m] := by
 subst hn; subst hk
 rw [show ((m : Int) + 1).toNat = m + 1 by omega]
 exact rb 0 (by show m < 16; omega)
def digit (n : Nat) : UInt8 := .ofNat (48 + n)
def dec (n : Nat) : List UInt8 := if n < 10 then [digit n] else dec (n / 10) ++ [digit (n % 10)]
theorem dec_lt {n : Nat} (h : n < 10) : dec n = [digit n] := by rw [dec, if_pos h]
theorem yB {n : Nat} (h : ¬ n < 10) : dec n = dec (n / 10) ++ [digit (n % 10)] := by rw [dec, if_neg h]
theorem DF (n : Nat) : 1 ≤ (dec n).length := by
 rw [dec]; split <;> simp
theorem yC : ∀ (k n : Nat), n < 10 ^ (k + 1) → (dec n).length ≤ k + 1
 | 0, n, h => by rw [dec_lt (by simpa using h)]; simp
 | k + 1, n, h => by
   by_cases hn : n < 10
   . rw [dec_lt hn]; simp
   . rw [yB hn]
     have := yC k (n / 10) (by rw [Nat.pow_succ] at h; exact Nat.div_lt_of_lt_mul (by rw [Nat.mul_comm]; exact h))
     simp; omega
theorem uc {n : Nat} (h : n < 18446744073709551616) : (dec n).length ≤ 20 := yC 19 n (by omega)
def gy (n : Int) : List UInt8 := if n < 0 then 45 :: dec n.natAbs else dec n.toNat
theorem DE {n : Int} (h : -9223372036854775808 ≤ n) (h2 : n ≤ 9223372036854775807) : (gy n).length ≤ 21 := by
 unfold gy; split
 . have := uc (n := n.natAbs) (by omega); simp; omega
 . have := uc (n := n.toNat) (by omega); omega
def be : Nat → Nat → List UInt8
 | 0, _ => []
 | n + 1, u => be n (u / 256) ++ [.ofNat (u % 256)]
def iK (c : UInt8) : List UInt8 := if c.toNat = 34 ∨ c.toNat = 92 then [92, c] else if c.toNat < 32 then [92, 117, 48, 48] ++ fy [c] else [c]
def d5 (s : List UInt8) : List UInt8 := s.flatMap iK
def quote (s : List UInt8) : List UInt8 := 34 :: (d5 s ++ [34])
theorem K0 (c : UInt8) : (iK c).length ≤ 6 := by unfold iK; split <;> (try split) <;> simp
theorem vE (s : List UInt8) : (d5 s).length ≤ 6 * s.length := by
 induction s with
 | nil => simp [d5]
 | cons c s ih => have := K0 c; simp only [d5, List.flatMap_cons, List.length_append, List.length_cons] at ih ⊢; omega
theorem sn (s : List UInt8) : (quote s).length ≤ 6 * s.length + 2 := by have := vE s; simp [quote]; omega
theorem BJ {s : List UInt8} {i : Nat} (h : i < s.length) : d5 (s.take (i + 1)) = d5 (s.take i) ++ iK (s.getD i 0) := by rw [tv h]; simp [d5]
theorem dw {n : Int} (h : 0 ≤ n ∧ n ≤ 255) : V.int .u8 n = bv (byte n) := by rw [bv, d8 h]
end Go.Proofs.YtllncocibkgjkaaGreat
