/-
  A part of the proof.
-/
import Derived.Test.YtipejldppicijaaGreatDoorB
set_option linter.unusedSimpArgs false
set_option linter.unusedVariables false
set_option maxHeartbeats 4000000
namespace Go.Proofs.YtipejldppicijaaGreatDoor
open Go Go.VG
set_option maxRecDepth 100000
def hexDigits : List UInt8 := [48, 49, 50, 51, 52, 53, 54, 55, 56, 57, 97, 98, 99, 100, 101, 102]
def qx (n : Nat) : UInt8 := hexDigits.getD n 0
def cP : List UInt8 → List UInt8
 | [] => []
 | b :: s => qx (b.toNat / 16) :: qx (b.toNat % 16) :: cP s
@[simp] theorem fX (s : List UInt8) : (cP s).length = 2 * s.length := by
 induction s with
 | nil => rfl
 | cons b s ih => simp [cP, ih]; omega
theorem xk (s t : List UInt8) : cP (s ++ t) = cP s ++ cP t := by
 induction s with
 | nil => rfl
 | cons b s ih => simp [cP, ih]
theorem xl {n k : Int} (m : Nat) (hn : n = m) (hk : k = m + 1) (h1 : m < 16) : (List.take k.toNat [48, 49, 50, 51, 52, 53, 54, 55, 56, 57, 97, 98, 99, 100, 101, 102]).drop n.toNat = [qx m] := by
 subst hn; subst hk
 rw [show ((m : Int) + 1).toNat = m + 1 by omega]
 exact qa 0 (by show m < 16; omega)
def digit (n : Nat) : UInt8 := .ofNat (48 + n)
def dec (n : Nat) : List UInt8 := if n < 10 then [digit n] else dec (n / 10) ++ [digit (n % 10)]
theorem dec_lt {n : Nat} (h : n < 10) : dec n = [digit n] := by rw [dec, if_pos h]
theorem qf {n : Nat} (h : ¬ n < 10) : dec n = dec (n / 10) ++ [digit (n % 10)] := by rw [dec, if_neg h]
theorem B1 (n : Nat) : 1 ≤ (dec n).length := by
 rw [dec]; split <;> simp
theorem wk : ∀ (k n : Nat), n < 10 ^ (k + 1) → (dec n).length ≤ k + 1
 | 0, n, h => by rw [dec_lt (by simpa using h)]; simp
 | k + 1, n, h => by
   by_cases hn : n < 10
   . rw [dec_lt hn]; simp
   . rw [qf hn]
     have := wk k (n / 10) (by rw [Nat.pow_succ] at h; exact Nat.div_lt_of_lt_mul (by rw [Nat.mul_comm]; exact h))
     simp; omega
theorem ma {n : Nat} (h : n < 18446744073709551616) : (dec n).length ≤ 20 := wk 19 n (by omega)
def dr (n : Int) : List UInt8 := if n < 0 then 45 :: dec n.natAbs else dec n.toNat
theorem qd {n : Int} (h : -9223372036854775808 ≤ n) (h2 : n ≤ 9223372036854775807) : (dr n).length ≤ 21 := by
 unfold dr; split
 . have := ma (n := n.natAbs) (by omega); simp; omega
 . have := ma (n := n.toNat) (by omega); omega
theorem B4 {n k : Int} (m : Nat) (hn : n = m) (hk : k = m + 1) (h1 : m < 10) : (List.take k.toNat [48, 49, 50, 51, 52, 53, 54, 55, 56, 57]).drop n.toNat = [digit m] := by
 subst hn; subst hk
 rw [show ((m : Int) + 1).toNat = m + 1 by omega, show ((m : Int)).toNat = m by omega]
 rw [qa 0 (by show m < 10; omega)]
 have : m = 0 ∨ m = 1 ∨ m = 2 ∨ m = 3 ∨ m = 4 ∨ m = 5 ∨ m = 6 ∨ m = 7 ∨ m = 8 ∨ m = 9 := by omega
 rcases this with h | h | h | h | h | h | h | h | h | h <;> subst h <;> rfl
def be : Nat → Nat → List UInt8
 | 0, _ => []
 | n + 1, u => be n (u / 256) ++ [.ofNat (u % 256)]
@[simp] theorem AK (n u : Nat) : (be n u).length = n := by induction n generalizing u <;> simp_all [be]
def nc (c : UInt8) : List UInt8 := if c.toNat = 34 ∨ c.toNat = 92 then [92, c] else if c.toNat < 32 then [92, 117, 48, 48] ++ cP [c] else [c]
def ja (s : List UInt8) : List UInt8 := s.flatMap nc
def quote (s : List UInt8) : List UInt8 := 34 :: (ja s ++ [34])
theorem H6 (c : UInt8) : (nc c).length ≤ 6 := by unfold nc; split <;> (try split) <;> simp
theorem tP (s : List UInt8) : (ja s).length ≤ 6 * s.length := by
 induction s with
 | nil => simp [ja]
 | cons c s ih => have := H6 c; simp only [ja, List.flatMap_cons, List.length_append, List.length_cons] at ih ⊢; omega
theorem nd (s : List UInt8) : (quote s).length ≤ 6 * s.length + 2 := by have := tP s; simp [quote]; omega
theorem yZ {s : List UInt8} {i : Nat} (h : i < s.length) : ja (s.take (i + 1)) = ja (s.take i) ++ nc (s.getD i 0) := by rw [vj h]; simp [ja]
theorem pI {n : Int} (h : 0 ≤ n ∧ n ≤ 255) : V.int .u8 n = bv (byte n) := by rw [bv, dc h]
end Go.Proofs.YtipejldppicijaaGreatDoor
