/-
  A part of the proof.
-/
import Derived.Test.YtllncocibkgjkaaTRb
import Derived.Test.YtllncocibkgjkaaJTu
set_option linter.unusedSimpArgs false
set_option linter.unusedVariables false
set_option maxHeartbeats 4000000
namespace Go.Proofs.Ytllncocibkgjkaa
open Go Go.VG
set_option maxRecDepth 100000
def upT : List V → List Tk
 | [] => []
 | .agg [.int _ a, .str t] :: r => ⟨byte a, t⟩ :: upT r
 | _ :: r => default :: upT r
def cL : List V → List Nd
 | [] => []
 | .agg [.int _ a, .str k, .str t, .int _ n] :: r => ⟨byte a, k, t, n⟩ :: cL r
 | _ :: r => default :: cL r
@[simp] theorem jn (l : List Nd) : cL (l.map aX) = l := by
 induction l with
 | nil => rfl
 | cons b s ih =>
   have h : byte (b.k.toNat : Int) = b.k := cF _
   simp only [List.map_cons, aX, eNc, cL, ih, h]
def jJ (l : List V) : Prop := l = (cL l).map aX
theorem ns {l : List Nd} : jJ (l.map aX) := by unfold jJ; rw [jn]
abbrev eNb (L : List Nd) : O := .buf 4 0 (L.map aX)
def upK : List V → List (List UInt8)
 | [] => []
 | .str t :: r => t :: upK r
 | _ :: r => [] :: upK r
def lS (l : List V) : Prop := l = (upK l).map V.str
-- #name r13within truchmanref13.within
end Go.Proofs.Ytllncocibkgjkaa
