/-
  A part of the proof.
-/
import Derived.Test.YtipejldppicijaaGreatDoorCVe
set_option linter.unusedSimpArgs false
set_option linter.unusedVariables false
set_option maxHeartbeats 4000000
namespace Go.Proofs.YtipejldppicijaaGreatDoor
open Go Go.VG
set_option maxRecDepth 100000
def eX (k : Nat) : Nat → Cu → Int → List Fd → Option (List Fd × Cu)
 | 0, _, _, _ => none
 | n + 1, c, last, acc =>
   if (c.aC last).1.2 = 0 then some (acc, (c.aC last).2)
   else eX k n (bO k ⟨(c.aC last).1.1, (c.aC last).1.2, 0, 0, [], []⟩ (c.aC last).2).2 (c.aC last).1.1 (acc ++ [(bO k ⟨(c.aC last).1.1, (c.aC last).1.2, 0, 0, [], []⟩ (c.aC last).2).1])
def oR (k : Nat) (s : List UInt8) : Option (List Fd × Cu) := eX k (s.length + 1) (Cu.new s) 0 []
end Go.Proofs.YtipejldppicijaaGreatDoor
