/-
  A part of the proof.
-/
import Derived.Test.YtllncocibkgjkaaB
set_option linter.unusedSimpArgs false
set_option linter.unusedVariables false
set_option maxHeartbeats 4000000
namespace Go.Proofs.Ytllncocibkgjkaa
open Go Go.VG
set_option maxRecDepth 100000
def ie : List UInt8 := [48, 49, 50, 51, 52, 53, 54, 55, 56, 57, 97, 98, 99, 100, 101, 102]
def dX (n : Nat) : UInt8 := ie.getD n 0
def eE : List UInt8 → List UInt8
 | [] => []
 | b :: s => dX (b.toNat / 16) :: dX (b.toNat % 16) :: eE s
@[simp] theorem oK (s : List UInt8) : (eE s).length = 2 * s.length := by
 induction s with
 | nil => rfl
 | cons b s ih => simp [eE, ih]; omega
theorem xU (s t : List UInt8) : eE (s ++ t) = eE s ++ eE t := by
 induction s with
 | nil => rfl
 | cons b s ih => simp [eE, ih]
theorem xV {n k : Int} (m : Nat) (hn : n = m) (hk : k = m + 1) (h1 : m < 16) : (List.take k.toNat [48, 49, 50, 51, 52, 53, 54, 55, 56, 57, 97, 98, 99, 100, 101, 102]).drop n.toNat = [dX m] := by
 subst hn; subst hk
 rw [show ((m : Int) + 1).toNat = m + 1 by omega]
 exact sH 0 (by show m < 16; omega)
def digit (n : Nat) : UInt8 := .ofNat (48 + n)
def dec (n : Nat) : List UInt8 := if n < 10 then [digit n] else dec (n / 10) ++ [digit (n % 10)]
theorem dec_lt {n : Nat} (h : n < 10) : dec n = [digit n] := by rw [dec, if_pos h]
theorem qh {n : Nat} (h : ¬ n < 10) : dec n = dec (n / 10) ++ [digit (n % 10)] := by rw [dec, if_neg h]
theorem qi (n : Nat) : 1 ≤ (dec n).length := by
 rw [dec]; split <;> simp
theorem wQ : ∀ (k n : Nat), n < 10 ^ (k + 1) → (dec n).length ≤ k + 1
 | 0, n, h => by rw [dec_lt (by simpa using h)]; simp
 | k + 1, n, h => by
   by_cases hn : n < 10
   . rw [dec_lt hn]; simp
   . rw [qh hn]
     have := wQ k (n / 10) (by rw [Nat.pow_succ] at h; exact Nat.div_lt_of_lt_mul (by rw [Nat.mul_comm]; exact h))
     simp; omega
theorem sI {n : Nat} (h : n < 18446744073709551616) : (dec n).length ≤ 20 := wQ 19 n (by omega)
def eD (n : Int) : List UInt8 := if n < 0 then 45 :: dec n.natAbs else dec n.toNat
theorem BL {n : Int} (h : -9223372036854775808 ≤ n) (h2 : n ≤ 9223372036854775807) : (eD n).length ≤ 21 := by
 unfold eD; split
 . have := sI (n := n.natAbs) (by omega); simp; omega
 . have := sI (n := n.toNat) (by omega); omega
def be : Nat → Nat → List UInt8
 | 0, _ => []
 | n + 1, u => be n (u / 256) ++ [.ofNat (u % 256)]
def cq (c : UInt8) : List UInt8 := if c.toNat = 34 ∨ c.toNat = 92 then [92, c] else if c.toNat < 32 then [92, 117, 48, 48] ++ eE [c] else [c]
def b8 (s : List UInt8) : List UInt8 := s.flatMap cq
def quote (s : List UInt8) : List UInt8 := 34 :: (b8 s ++ [34])
theorem GY (c : UInt8) : (cq c).length ≤ 6 := by unfold cq; split <;> (try split) <;> simp
theorem ue (s : List UInt8) : (b8 s).length ≤ 6 * s.length := by
 induction s with
 | nil => simp [b8]
 | cons c s ih => have := GY c; simp only [b8, List.flatMap_cons, List.length_append, List.length_cons] at ih ⊢; omega
theorem r9 (s : List UInt8) : (quote s).length ≤ 6 * s.length + 2 := by have := ue s; simp [quote]; omega
theorem zO {s : List UInt8} {i : Nat} (h : i < s.length) : b8 (s.take (i + 1)) = b8 (s.take i) ++ cq (s.getD i 0) := by rw [rS h]; simp [b8]
theorem eK {n : Int} (h : 0 ≤ n ∧ n ≤ 255) : V.int .u8 n = bv (byte n) := by rw [bv, mB h]
end Go.Proofs.Ytllncocibkgjkaa
