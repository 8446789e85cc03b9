/-
  The document's bytes of a field; fields side by side.
-/
import Derived.Test.YtkkfdkfopdjomaaDoorPRg
set_option linter.unusedSimpArgs false
set_option linter.unusedVariables false
set_option maxHeartbeats 4000000
namespace Go.Proofs.YtkkfdkfopdjomaaDoor
open Go Go.VG
set_option maxRecDepth 100000
theorem tagB_nil {n w : Int} : tagB n w = [] ↔ ¬ mayT n w = true := by
  unfold tagB
  split
  · rename_i h
    have := tagU_lt h
    have := vput_len (u := tagU n w) (by omega)
    exact ⟨fun q => by rw [q] at this; simp at this, fun q => absurd h q⟩
  · rename_i h
    exact ⟨fun _ => h, fun _ => rfl⟩
theorem fldB_len {f : Pf} (h : 0 ≤ f.num ∧ f.num ≤ 18446744073709551615) (ht : f.text.length ≤ 18446744073709551615) : (fldB f).length ≤ 20 + f.text.length := by
  have h1 := tagB_len f.no f.wi
  have h2 := conB_len h ht
  unfold fldB
  split
  · rw [List.length_append]; omega
  · simp
theorem take_ePf {a : List Pf} {i : Nat} (h : i < a.length) (x : V) (hx : x = ePf (a.getD i default)) : (a.take i).map ePf ++ [x] = (a.take (i + 1)).map ePf := by
  rw [List.take_add_one, List.map_append, hx, List.getD_eq_getElem?_getD, List.getElem?_eq_getElem h]
  rfl
/-- the fields' bytes, one behind the other -/
def fldsB (l : List Pf) : List UInt8 := (l.map fldB).flatten
end Go.Proofs.YtkkfdkfopdjomaaDoor
