/-
  Texts: digits to the bases 16 and 10, JSON's texts.
-/
import Derived.Test.YtkkfdkfopdjomaaDoorB
set_option linter.unusedSimpArgs false
set_option linter.unusedVariables false
set_option maxHeartbeats 4000000
namespace Go.Proofs.YtkkfdkfopdjomaaDoor
open Go Go.VG
set_option maxRecDepth 100000
def hexDigits : List UInt8 := [48, 49, 50, 51, 52, 53, 54, 55, 56, 57, 97, 98, 99, 100, 101, 102]
def hexd (n : Nat) : UInt8 := hexDigits.getD n 0
def hexText : List UInt8 → List UInt8
  | [] => []
  | b :: s => hexd (b.toNat / 16) :: hexd (b.toNat % 16) :: hexText s
@[simp] theorem hexText_length (s : List UInt8) : (hexText s).length = 2 * s.length := by
  induction s with
  | nil => rfl
  | cons b s ih => simp [hexText, ih]; omega
theorem hexText_append (s t : List UInt8) : hexText (s ++ t) = hexText s ++ hexText t := by
  induction s with
  | nil => rfl
  | cons b s ih => simp [hexText, ih]
theorem hexd_cut {n k : Int} (m : Nat) (hn : n = m) (hk : k = m + 1) (h1 : m < 16) : (List.take k.toNat [48, 49, 50, 51, 52, 53, 54, 55, 56, 57, 97, 98, 99, 100, 101, 102]).drop n.toNat = [hexd m] := by
  subst hn; subst hk
  rw [show ((m : Int) + 1).toNat = m + 1 by omega]
  exact cut1 0 (by show m < 16; omega)
/-! digits to the base 10 -/
def digit (n : Nat) : UInt8 := .ofNat (48 + n)
def dec (n : Nat) : List UInt8 := if n < 10 then [digit n] else dec (n / 10) ++ [digit (n % 10)]
theorem dec_lt {n : Nat} (h : n < 10) : dec n = [digit n] := by rw [dec, if_pos h]
theorem dec_ge {n : Nat} (h : ¬ n < 10) : dec n = dec (n / 10) ++ [digit (n % 10)] := by rw [dec, if_neg h]
theorem dec_pos (n : Nat) : 1 ≤ (dec n).length := by
  rw [dec]; split <;> simp
theorem dec_len : ∀ (k n : Nat), n < 10 ^ (k + 1) → (dec n).length ≤ k + 1
  | 0, n, h => by rw [dec_lt (by simpa using h)]; simp
  | k + 1, n, h => by
    by_cases hn : n < 10
    · rw [dec_lt hn]; simp
    · rw [dec_ge hn]
      have := dec_len k (n / 10) (by rw [Nat.pow_succ] at h; exact Nat.div_lt_of_lt_mul (by rw [Nat.mul_comm]; exact h))
      simp; omega
theorem dec_len20 {n : Nat} (h : n < 18446744073709551616) : (dec n).length ≤ 20 := dec_len 19 n (by omega)
def decI (n : Int) : List UInt8 := if n < 0 then 45 :: dec n.natAbs else dec n.toNat
theorem decI_len {n : Int} (h : -9223372036854775808 ≤ n) (h2 : n ≤ 9223372036854775807) : (decI n).length ≤ 21 := by
  unfold decI; split
  · have := dec_len20 (n := n.natAbs) (by omega); simp; omega
  · have := dec_len20 (n := n.toNat) (by omega); omega
theorem digit_cut {n k : Int} (m : Nat) (hn : n = m) (hk : k = m + 1) (h1 : m < 10) : (List.take k.toNat [48, 49, 50, 51, 52, 53, 54, 55, 56, 57]).drop n.toNat = [digit m] := by
  subst hn; subst hk
  rw [show ((m : Int) + 1).toNat = m + 1 by omega, show ((m : Int)).toNat = m by omega]
  rw [cut1 0 (by show m < 10; omega)]
  have : m = 0 ∨ m = 1 ∨ m = 2 ∨ m = 3 ∨ m = 4 ∨ m = 5 ∨ m = 6 ∨ m = 7 ∨ m = 8 ∨ m = 9 := by omega
  rcases this with h | h | h | h | h | h | h | h | h | h <;> subst h <;> rfl
/-! bytes of a number, the highest first -/
def be : Nat → Nat → List UInt8
  | 0, _ => []
  | n + 1, u => be n (u / 256) ++ [.ofNat (u % 256)]
@[simp] theorem be_length (n u : Nat) : (be n u).length = n := by induction n generalizing u <;> simp_all [be]
/-! JSON's texts -/
def quoteC (c : UInt8) : List UInt8 := if c.toNat = 34 ∨ c.toNat = 92 then [92, c] else if c.toNat < 32 then [92, 117, 48, 48] ++ hexText [c] else [c]
def quoteB (s : List UInt8) : List UInt8 := s.flatMap quoteC
def quote (s : List UInt8) : List UInt8 := 34 :: (quoteB s ++ [34])
theorem quoteC_len (c : UInt8) : (quoteC c).length ≤ 6 := by unfold quoteC; split <;> (try split) <;> simp
theorem quoteB_len (s : List UInt8) : (quoteB s).length ≤ 6 * s.length := by
  induction s with
  | nil => simp [quoteB]
  | cons c s ih => have := quoteC_len c; simp only [quoteB, List.flatMap_cons, List.length_append, List.length_cons] at ih ⊢; omega
theorem quote_len (s : List UInt8) : (quote s).length ≤ 6 * s.length + 2 := by have := quoteB_len s; simp [quote]; omega
theorem quoteB_next {s : List UInt8} {i : Nat} (h : i < s.length) : quoteB (s.take (i + 1)) = quoteB (s.take i) ++ quoteC (s.getD i 0) := by rw [take_next h]; simp [quoteB]
theorem viewB {n : Int} (h : 0 ≤ n ∧ n ≤ 255) : V.int .u8 n = bv (byte n) := by rw [bv, byte_toNat h]
end Go.Proofs.YtkkfdkfopdjomaaDoor
