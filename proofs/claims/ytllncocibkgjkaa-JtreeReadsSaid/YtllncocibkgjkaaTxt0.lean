/-
  Texts: digits to the bases 16 and 10, JSON's texts.
-/
import Derived.Test.YtllncocibkgjkaaB
set_option linter.unusedSimpArgs false
set_option linter.unusedVariables false
set_option maxHeartbeats 4000000
namespace Go.Proofs.Ytllncocibkgjkaa
open Go Go.VG
set_option maxRecDepth 100000
def acm : List UInt8 := [48, 49, 50, 51, 52, 53, 54, 55, 56, 57, 97, 98, 99, 100, 101, 102]
def hexd (n : Nat) : UInt8 := acm.getD n 0
def acu : List UInt8 → List UInt8
  | [] => []
  | b :: s => hexd (b.toNat / 16) :: hexd (b.toNat % 16) :: acu s
@[simp] theorem aav (s : List UInt8) : (acu s).length = 2 * s.length := by
  induction s with
  | nil => rfl
  | cons b s ih => simp [acu, ih]; omega
theorem ak1 (s t : List UInt8) : acu (s ++ t) = acu s ++ acu t := by
  induction s with
  | nil => rfl
  | cons b s ih => simp [acu, ih]
theorem a0u {n k : Int} (m : Nat) (hn : n = m) (hk : k = m + 1) (h1 : m < 16) : (List.take k.toNat [48, 49, 50, 51, 52, 53, 54, 55, 56, 57, 97, 98, 99, 100, 101, 102]).drop n.toNat = [hexd m] := by
  subst hn; subst hk
  rw [show ((m : Int) + 1).toNat = m + 1 by omega]
  exact cut1 0 (by show m < 16; omega)
def be : Nat → Nat → List UInt8
  | 0, _ => []
  | n + 1, u => be n (u / 256) ++ [.ofNat (u % 256)]
def asq (c : UInt8) : List UInt8 := if c.toNat = 34 ∨ c.toNat = 92 then [92, c] else if c.toNat < 32 then [92, 117, 48, 48] ++ acu [c] else [c]
def alq (s : List UInt8) : List UInt8 := s.flatMap asq
def quote (s : List UInt8) : List UInt8 := 34 :: (alq s ++ [34])
theorem a4f (c : UInt8) : (asq c).length ≤ 6 := by unfold asq; split <;> (try split) <;> simp
theorem an3 (s : List UInt8) : (alq s).length ≤ 6 * s.length := by
  induction s with
  | nil => simp [alq]
  | cons c s ih => have := a4f c; simp only [alq, List.flatMap_cons, List.length_append, List.length_cons] at ih ⊢; omega
theorem axf (s : List UInt8) : (quote s).length ≤ 6 * s.length + 2 := by have := an3 s; simp [quote]; omega
theorem aq7 {s : List UInt8} {i : Nat} (h : i < s.length) : alq (s.take (i + 1)) = alq (s.take i) ++ asq (s.getD i 0) := by rw [am3 h]; simp [alq]
theorem af3 {n : Int} (h : 0 ≤ n ∧ n ≤ 255) : V.int .u8 n = bv (byte n) := by rw [bv, ab3 h]
end Go.Proofs.Ytllncocibkgjkaa
