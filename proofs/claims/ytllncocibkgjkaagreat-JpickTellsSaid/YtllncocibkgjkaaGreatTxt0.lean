/-
  A part of the proof.
-/
import Derived.Test.YtllncocibkgjkaaGreatB
set_option linter.unusedSimpArgs false
set_option linter.unusedVariables false
set_option maxHeartbeats 4000000
namespace Go.Proofs.YtllncocibkgjkaaGreat
open Go Go.VG
set_option maxRecDepth 100000
def iW : List UInt8 := [48, 49, 50, 51, 52, 53, 54, 55, 56, 57, 97, 98, 99, 100, 101, 102]
def hexd (n : Nat) : UInt8 := iW.getD n 0
def Ao : List UInt8 → List UInt8
 | [] => []
 | b :: s => hexd (b.toNat / 16) :: hexd (b.toNat % 16) :: Ao s
def be : Nat → Nat → List UInt8
 | 0, _ => []
 | n + 1, u => be n (u / 256) ++ [.ofNat (u % 256)]
def Kw (c : UInt8) : List UInt8 := if c.toNat = 34 ∨ c.toNat = 92 then [92, c] else if c.toNat < 32 then [92, 117, 48, 48] ++ Ao [c] else [c]
def Kv (s : List UInt8) : List UInt8 := s.flatMap Kw
def quote (s : List UInt8) : List UInt8 := 34 :: (Kv s ++ [34])
theorem eD {n : Int} (h : 0 ≤ n ∧ n ≤ 255) : V.int .u8 n = bv (byte n) := by rw [bv, db h]
end Go.Proofs.YtllncocibkgjkaaGreat
