/-
  A part of the proof.
-/
import Derived.Test.YtipejldppicijaaGreatDoorB
set_option linter.unusedSimpArgs false
set_option linter.unusedVariables false
set_option maxHeartbeats 4000000
namespace Go.Proofs.YtipejldppicijaaGreatDoor
open Go Go.VG
set_option maxRecDepth 100000
def hexDigits : List UInt8 := [48, 49, 50, 51, 52, 53, 54, 55, 56, 57, 97, 98, 99, 100, 101, 102]
def rX (n : Nat) : UInt8 := hexDigits.getD n 0
def dg : List UInt8 → List UInt8
 | [] => []
 | b :: s => rX (b.toNat / 16) :: rX (b.toNat % 16) :: dg s
@[simp] theorem gm (s : List UInt8) : (dg s).length = 2 * s.length := by
 induction s with
 | nil => rfl
 | cons b s ih => simp [dg, ih]; omega
theorem zQ (s t : List UInt8) : dg (s ++ t) = dg s ++ dg t := by
 induction s with
 | nil => rfl
 | cons b s ih => simp [dg, ih]
theorem zR {n k : Int} (m : Nat) (hn : n = m) (hk : k = m + 1) (h1 : m < 16) : (List.take k.toNat [48, 49, 50, 51, 52, 53, 54, 55, 56, 57, 97, 98, 99, 100, 101, 102]).drop n.toNat = [rX m] := by
 subst hn; subst hk
 rw [show ((m : Int) + 1).toNat = m + 1 by omega]
 exact rC 0 (by show m < 16; omega)
def digit (n : Nat) : UInt8 := .ofNat (48 + n)
def dec (n : Nat) : List UInt8 := if n < 10 then [digit n] else dec (n / 10) ++ [digit (n % 10)]
theorem dec_lt {n : Nat} (h : n < 10) : dec n = [digit n] := by rw [dec, if_pos h]
theorem rF {n : Nat} (h : ¬ n < 10) : dec n = dec (n / 10) ++ [digit (n % 10)] := by rw [dec, if_neg h]
theorem Ew (n : Nat) : 1 ≤ (dec n).length := by
 rw [dec]; split <;> simp
theorem yS : ∀ (k n : Nat), n < 10 ^ (k + 1) → (dec n).length ≤ k + 1
 | 0, n, h => by rw [dec_lt (by simpa using h)]; simp
 | k + 1, n, h => by
   by_cases hn : n < 10
   . rw [dec_lt hn]; simp
   . rw [rF hn]
     have := yS k (n / 10) (by rw [Nat.pow_succ] at h; exact Nat.div_lt_of_lt_mul (by rw [Nat.mul_comm]; exact h))
     simp; omega
theorem nk {n : Nat} (h : n < 18446744073709551616) : (dec n).length ≤ 20 := yS 19 n (by omega)
def dS (n : Int) : List UInt8 := if n < 0 then 45 :: dec n.natAbs else dec n.toNat
theorem pg {n : Int} (h : -9223372036854775808 ≤ n) (h2 : n ≤ 9223372036854775807) : (dS n).length ≤ 21 := by
 unfold dS; split
 . have := nk (n := n.natAbs) (by omega); simp; omega
 . have := nk (n := n.toNat) (by omega); omega
theorem Ez {n k : Int} (m : Nat) (hn : n = m) (hk : k = m + 1) (h1 : m < 10) : (List.take k.toNat [48, 49, 50, 51, 52, 53, 54, 55, 56, 57]).drop n.toNat = [digit m] := by
 subst hn; subst hk
 rw [show ((m : Int) + 1).toNat = m + 1 by omega, show ((m : Int)).toNat = m by omega]
 rw [rC 0 (by show m < 10; omega)]
 have : m = 0 ∨ m = 1 ∨ m = 2 ∨ m = 3 ∨ m = 4 ∨ m = 5 ∨ m = 6 ∨ m = 7 ∨ m = 8 ∨ m = 9 := by omega
 rcases this with h | h | h | h | h | h | h | h | h | h <;> subst h <;> rfl
def be : Nat → Nat → List UInt8
 | 0, _ => []
 | n + 1, u => be n (u / 256) ++ [.ofNat (u % 256)]
@[simp] theorem E7 (n u : Nat) : (be n u).length = n := by induction n generalizing u <;> simp_all [be]
def om (c : UInt8) : List UInt8 := if c.toNat = 34 ∨ c.toNat = 92 then [92, c] else if c.toNat < 32 then [92, 117, 48, 48] ++ dg [c] else [c]
def jS (s : List UInt8) : List UInt8 := s.flatMap om
def quote (s : List UInt8) : List UInt8 := 34 :: (jS s ++ [34])
theorem Lc (c : UInt8) : (om c).length ≤ 6 := by unfold om; split <;> (try split) <;> simp
theorem w6 (s : List UInt8) : (jS s).length ≤ 6 * s.length := by
 induction s with
 | nil => simp [jS]
 | cons c s ih => have := Lc c; simp only [jS, List.flatMap_cons, List.length_append, List.length_cons] at ih ⊢; omega
theorem oq (s : List UInt8) : (quote s).length ≤ 6 * s.length + 2 := by have := w6 s; simp [quote]; omega
theorem C5 {s : List UInt8} {i : Nat} (h : i < s.length) : jS (s.take (i + 1)) = jS (s.take i) ++ om (s.getD i 0) := by rw [xT h]; simp [jS]
theorem jt {n : Int} (h : 0 ≤ n ∧ n ≤ 255) : V.int .u8 n = bv (byte n) := by rw [bv, cE h]
end Go.Proofs.YtipejldppicijaaGreatDoor
