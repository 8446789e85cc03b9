/-
  The examples of the laws of fields.
-/
import Derived.Test.YtgiocgghmlmgfaaDoorPRj
import Derived.Test.YtgiocgghmlmgfaaDoorPRp
set_option linter.unusedSimpArgs false
set_option linter.unusedVariables false
set_option maxHeartbeats 4000000
namespace Go.Proofs.YtgiocgghmlmgfaaDoor
open Go Go.VG
set_option maxRecDepth 100000
def w1 : List UInt8 := [8, 150, 1, 18, 2, 97, 98]
def w2 : List UInt8 := [18, 3, 97, 98]
def wf2 : Pf := ⟨2, 2, 0, [97, 98]⟩
def wF : List UInt8 → List Pf
  | [_, _, _, _, _, _, _] => [⟨1, 0, 150, []⟩, ⟨2, 2, 0, [97, 98]⟩]
  | _ => []
def wC : List UInt8 → Int
  | [_, _, _, _, _, _, _] => 0
  | _ => 1
theorem w1_all : aFds w1 = wF w1 ∧ aFine w1 = wC w1 := by
  constructor
  · have h : (aFds w1).map (fun f => (f.no, f.wi, f.num, f.text)) = (wF w1).map (fun f => (f.no, f.wi, f.num, f.text)) := by decide +kernel
    exact List.map_inj_right (fun a b q => by cases a; cases b; cases q; rfl) |>.mp h
  · decide +kernel
theorem w2_all : aFds w2 = wF w2 ∧ aFine w2 = wC w2 := by
  have h : aFine w2 = 1 := by decide +kernel
  exact ⟨by unfold aFds; rw [h, if_neg (by decide)]; rfl, h⟩
theorem w_fld : fldB wf2 = [18, 2, 97, 98] := by decide +kernel
def sm_allW : Sm := fun args σ => match args, σ with
  | [.str s], [] => some (s = w1 ∨ s = w2, .tuple [.buf 0, .int .i64 (wC s)], some [.buf 4 0 ((wF s).map ePf)])
  | _, _ => none
theorem k_allW : SOK 7 sm_allW := by
  intro args sg pre x r he hp
  unfold sm_allW at he
  split at he <;> cases he
  rcases hp with rfl | rfl
  · have h := f_pAll_1 w1 (by decide)
    rw [w1_all.1, w1_all.2] at h
    exact h
  · have h := f_pAll_1 w2 (by decide)
    rw [w2_all.1, w2_all.2] at h
    exact h
def sm_putW (F : Pf → List UInt8) : Sm := fun args σ => match args, σ with
  | [.buf 0, .agg [.int .i64 n, .int .i64 w, .int .u64 u, .str t]], [.buf 1 0 l] => some (l.length ≤ 800000000 ∧ t.length ≤ 1000000000, .buf 1, some [.buf 1 0 l, .buf 1 0 (l ++ bl (F ⟨n, w, u, t⟩))])
  | _, _ => none
theorem k_putW {F : Pf → List UInt8} (hF : ∀ f, F f = fldB f) : SOK 9 (sm_putW F) := by
  intro args sg pre x r he hp
  unfold sm_putW at he
  split at he <;> cases he
  rw [hF]
  exact f_pFPut_1 _ ⟨_, _, _, _⟩ hp
def sm_sizeW (F : Pf → List UInt8) : Sm := fun args σ => match args, σ with
  | [.agg [.int .i64 n, .int .i64 w, .int .u64 u, .str t]], [] => some (t.length ≤ 1000000000, .int .i64 ((F ⟨n, w, u, t⟩).length : Nat), none)
  | _, _ => none
theorem k_sizeW {F : Pf → List UInt8} (hF : ∀ f, F f = fldB f) : SOK 69 (sm_sizeW F) := by
  intro args sg pre x r he hp
  unfold sm_sizeW at he
  split at he <;> cases he
  rw [hF]
  exact f_pFSize_1 ⟨_, _, _, _⟩ hp
end Go.Proofs.YtgiocgghmlmgfaaDoor
