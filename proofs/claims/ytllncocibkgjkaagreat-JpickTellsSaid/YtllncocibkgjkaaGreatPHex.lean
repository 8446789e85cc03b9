/-
  A part of the proof.
-/
import Derived.Test.YtllncocibkgjkaaGreatTxt0
set_option linter.unusedSimpArgs false
set_option linter.unusedVariables false
set_option maxHeartbeats 4000000
namespace Go.Proofs.YtllncocibkgjkaaGreat
open Go Go.VG
set_option maxRecDepth 100000
end Go.Proofs.YtllncocibkgjkaaGreat
