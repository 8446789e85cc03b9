/-
  A part of the proof.
-/
import Derived.Test.YtipejldppicijaaGreatDoorB
set_option linter.unusedSimpArgs false
set_option linter.unusedVariables false
set_option maxHeartbeats 4000000
namespace Go.Proofs.YtipejldppicijaaGreatDoor
open Go Go.VG
set_option maxRecDepth 100000
def be : Nat → Nat → List UInt8
 | 0, _ => []
 | n + 1, u => be n (u / 256) ++ [.ofNat (u % 256)]
theorem mQ {n : Int} (h : 0 ≤ n ∧ n ≤ 255) : V.int .u8 n = bv (byte n) := by rw [bv, cq h]
end Go.Proofs.YtipejldppicijaaGreatDoor
