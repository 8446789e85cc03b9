/-
  A part of the proof.
-/
import Derived.Test.YtllncocibkgjkaaTRa
set_option linter.unusedSimpArgs false
set_option linter.unusedVariables false
set_option maxHeartbeats 4000000
namespace Go.Proofs.Ytllncocibkgjkaa
open Go Go.VG
set_option maxRecDepth 100000
def cK (s : List UInt8) : Int :=
 if (Cu.new s).aE ≠ 0 then (Cu.new s).aE
 else if (gv 32 (Cu.new s).next.2 [] (Cu.new s).next.1).1 ≠ 0 then (gv 32 (Cu.new s).next.2 [] (Cu.new s).next.1).1
 else if (gv 32 (Cu.new s).next.2 [] (Cu.new s).next.1).2.2.next.2.k ≠ 0 ∨ (gv 32 (Cu.new s).next.2 [] (Cu.new s).next.1).2.2.next.1.c ≠ 0 then 2 else 0
def fW (s : List UInt8) : List Nd := if cK s = 0 then (gv 32 (Cu.new s).next.2 [] (Cu.new s).next.1).2.1 else []
end Go.Proofs.Ytllncocibkgjkaa
