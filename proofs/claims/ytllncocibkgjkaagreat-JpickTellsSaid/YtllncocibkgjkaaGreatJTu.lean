/-
  A part of the proof.
-/
import Derived.Test.YtllncocibkgjkaaGreatJTy
set_option linter.unusedSimpArgs false
set_option linter.unusedVariables false
set_option maxHeartbeats 4000000
namespace Go.Proofs.YtllncocibkgjkaaGreat
open Go Go.VG
set_option maxRecDepth 100000
theorem JD {c : Cu} (h : c.aX.2.k ≠ 0) : c.aX.1.c = 0 := by
 unfold Cu.aX at h ⊢
 by_cases h0 : c.c ≠ 0
 . rw [if_pos h0] at h; exact absurd rfl h
 rw [if_neg h0] at h ⊢
 have e3 : ({ c with p := cu cm c.aa c.p } : Cu).c = 0 := by show c.c = 0; omega
 generalize ({ c with p := cu cm c.aa c.p } : Cu) = d at *
 have hh : ∀ (x : CO) (k : UInt8), (held x k).2.k ≠ 0 → (held x k).1.c = 0 := fun x k h => by
  unfold held at h ⊢
  by_cases z : x.1.c = 0
  . exact z
  . rw [if_neg z] at h; exact absurd rfl h
 have hw : ∀ k, (d.cF k).2.k ≠ 0 → (d.cF k).1.c = 0 := fun k h => by
  unfold Cu.cF at h ⊢
  by_cases z : dj d (spell k) 0 ≠ 0
  . rw [if_pos z] at h; exact absurd rfl h
  . rw [if_neg z]; exact e3
 unfold Cu.fK at h ⊢
 repeat' split at h
 all_goals first
  | exact absurd rfl h
  | skip
 . rename_i q1 q2; rw [if_neg q1, if_pos q2]; exact e3
 . rename_i q1 q2 q3; rw [if_neg q1, if_neg q2, if_pos q3]; exact hh _ _ h
 . rename_i q1 q2 q3 q4; rw [if_neg q1, if_neg q2, if_neg q3, if_pos q4]; exact hh _ _ h
 . rename_i q1 q2 q3 q4 q5; rw [if_neg q1, if_neg q2, if_neg q3, if_neg q4, if_pos q5]; exact hw _ h
 . rename_i q1 q2 q3 q4 q5 q6; rw [if_neg q1, if_neg q2, if_neg q3, if_neg q4, if_neg q5, if_pos q6]; exact hw _ h
end Go.Proofs.YtllncocibkgjkaaGreat
