/-
  A part of the proof.
-/
import Derived.Test.YtllncocibkgjkaaJTx
set_option linter.unusedSimpArgs false
set_option linter.unusedVariables false
set_option maxHeartbeats 4000000
namespace Go.Proofs.Ytllncocibkgjkaa
open Go Go.VG
set_option maxRecDepth 100000
end Go.Proofs.Ytllncocibkgjkaa
namespace Go.Proofs.Ytllncocibkgjkaa
open Go Go.VG
set_option maxRecDepth 100000
def v1 : List UInt8 := [91, 49, 44, 32, 34, 97, 34, 93]
def v2 : List UInt8 := [116, 114, 117]
def v3 : List UInt8 := [116, 114, 117, 112]
deriving instance DecidableEq for Tk
end Go.Proofs.Ytllncocibkgjkaa
