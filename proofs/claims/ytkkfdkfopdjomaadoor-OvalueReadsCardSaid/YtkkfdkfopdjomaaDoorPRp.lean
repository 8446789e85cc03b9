/-
  Fields: no more than bytes.
-/
import Derived.Test.YtkkfdkfopdjomaaDoorPRj
set_option linter.unusedSimpArgs false
set_option linter.unusedVariables false
set_option maxHeartbeats 4000000
namespace Go.Proofs.YtkkfdkfopdjomaaDoor
open Go Go.VG
set_option maxRecDepth 100000
theorem each_len : ∀ (n : Nat) (c : Cu) (acc : List Pf), c.ok → acc.length ≤ c.p → (eachGo n c acc).2.length ≤ c.e
  | 0, c, acc, h, h2 => by rw [eachGo]; exact Nat.le_trans h2 h.1
  | n + 1, c, acc, h, h2 => by
    rw [eachGo]
    have hk := nxt_ok h
    split
    · split
      · exact Nat.le_trans h2 h.1
      · rename_i q
        have h0 : c.nxtC.c = 0 := by simpa using q
        have := nxt_adv h0
        have := each_len n c.nxtC (acc ++ [c.nxt]) hk.1 (by rw [List.length_append, List.length_singleton]; omega)
        rw [hk.2.2] at this
        exact this
    · exact Nat.le_trans h2 h.1
theorem aFds_len (s : List UInt8) : (aFds s).length ≤ s.length := by
  unfold aFds
  split
  · exact each_len _ (Cu.new s) [] ⟨Nat.zero_le _, Nat.le_refl _⟩ (Nat.zero_le _)
  · simp
end Go.Proofs.YtkkfdkfopdjomaaDoor
