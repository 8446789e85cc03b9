/-
  A part of the proof.
-/
import Derived.Test.YtllncocibkgjkaaB
set_option linter.unusedSimpArgs false
set_option linter.unusedVariables false
set_option maxHeartbeats 4000000
namespace Go.Proofs.Ytllncocibkgjkaa
open Go Go.VG
set_option maxRecDepth 100000
def iJ : List UInt8 := [48, 49, 50, 51, 52, 53, 54, 55, 56, 57, 97, 98, 99, 100, 101, 102]
def fU (n : Nat) : UInt8 := iJ.getD n 0
def fz : List UInt8 → List UInt8
 | [] => []
 | b :: s => fU (b.toNat / 16) :: fU (b.toNat % 16) :: fz s
@[simp] theorem pg (s : List UInt8) : (fz s).length = 2 * s.length := by
 induction s with
 | nil => rfl
 | cons b s ih => simp [fz, ih]; omega
theorem zp (s t : List UInt8) : fz (s ++ t) = fz s ++ fz t := by
 induction s with
 | nil => rfl
 | cons b s ih => simp [fz, ih]
theorem zq {n k : Int} (m : Nat) (hn : n = m) (hk : k = m + 1) (h1 : m < 16) : (List.take k.toNat [48, 49, 50, 51, 52, 53, 54, 55, 56, 57, 97, 98, 99, 100, 101, 102]).drop n.toNat = [fU m] := by
 subst hn; subst hk
 rw [show ((m : Int) + 1).toNat = m + 1 by omega]
 exact qQ 0 (by show m < 16; omega)
def be : Nat → Nat → List UInt8
 | 0, _ => []
 | n + 1, u => be n (u / 256) ++ [.ofNat (u % 256)]
def ir (c : UInt8) : List UInt8 := if c.toNat = 34 ∨ c.toNat = 92 then [92, c] else if c.toNat < 32 then [92, 117, 48, 48] ++ fz [c] else [c]
def cY (s : List UInt8) : List UInt8 := s.flatMap ir
def quote (s : List UInt8) : List UInt8 := 34 :: (cY s ++ [34])
theorem IK (c : UInt8) : (ir c).length ≤ 6 := by unfold ir; split <;> (try split) <;> simp
theorem v8 (s : List UInt8) : (cY s).length ≤ 6 * s.length := by
 induction s with
 | nil => simp [cY]
 | cons c s ih => have := IK c; simp only [cY, List.flatMap_cons, List.length_append, List.length_cons] at ih ⊢; omega
theorem rU (s : List UInt8) : (quote s).length ≤ 6 * s.length + 2 := by have := v8 s; simp [quote]; omega
theorem B1 {s : List UInt8} {i : Nat} (h : i < s.length) : cY (s.take (i + 1)) = cY (s.take i) ++ ir (s.getD i 0) := by rw [sF h]; simp [cY]
theorem da {n : Int} (h : 0 ≤ n ∧ n ≤ 255) : V.int .u8 n = bv (byte n) := by rw [bv, d6 h]
end Go.Proofs.Ytllncocibkgjkaa
