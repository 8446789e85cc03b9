/-
  The document's cursor, numbers and words.
-/
import Derived.Test.YtjkbahllghofoaaCRt
set_option linter.unusedSimpArgs false
set_option linter.unusedVariables false
set_option maxHeartbeats 4000000
namespace Go.Proofs.Ytjkbahllghofoaa
open Go Go.VG
set_option maxRecDepth 100000
abbrev eCa (c : Cu) : V := .agg [.str c.s, .int .i64 c.p, .int .i64 c.e, .int .i64 c.c]
theorem viewCa {s : List UInt8} {a e : Nat} {c : Int} (_ : True) : V.agg [.str s, .int .i64 (.ofNat a), .int .i64 (.ofNat e), .int .i64 c] = eCa ⟨s, a, e, c⟩ := rfl
def Cu.why (c : Cu) (n : Int) : Int := (c.pass n).c
theorem why_eq (c : Cu) (n : Int) : c.why n = if c.c ≠ 0 then c.c else if n < 0 then 13 else if (c.e : Int) - c.p < n then 1 else 0 := by
  unfold Cu.why Cu.pass
  by_cases h : c.c ≠ 0
  · rw [if_pos h, if_pos h]
  · rw [if_neg h, if_neg h]
    by_cases h2 : n < 0
    · rw [if_pos h2, if_pos h2]
    · rw [if_neg h2, if_neg h2]
      by_cases h3 : n > (c.e : Int) - c.p
      · rw [if_pos h3, if_pos (by omega)]
      · rw [if_neg h3, if_neg (by omega)]; simpa using h
theorem why_0 {c : Cu} {n : Int} (h : c.why n = 0) : (c.c = 0 ∧ 0 ≤ n ∧ n ≤ (c.e : Int) - c.p) ∧ c.pass n = ⟨c.s, c.p + n.toNat, c.e, 0⟩ ∧ c.takeV n = (c.s.drop c.p).take n.toNat := by
  have hc : c.c = 0 ∧ 0 ≤ n ∧ n ≤ (c.e : Int) - c.p := by
    rw [why_eq] at h
    split at h
    · rename_i q; exact absurd h q
    · split at h
      · cases h
      · split at h
        · cases h
        · rename_i q1 q2 q3; exact ⟨by simpa using q1, by omega, by omega⟩
  refine ⟨hc, ?_, ?_⟩
  · unfold Cu.pass
    rw [if_neg (by omega), if_neg (by omega), if_neg (by omega), hc.1]
  · unfold Cu.takeV Cu.may
    rw [if_pos (decide_eq_true hc)]
theorem why_n {c : Cu} {n : Int} (h : ¬ c.why n = 0) : c.pass n = ⟨c.s, c.p, c.e, c.why n⟩ ∧ c.takeV n = [] := by
  have h0 := h
  rw [why_eq] at h
  have hm : ¬ (c.c = 0 ∧ 0 ≤ n ∧ n ≤ (c.e : Int) - c.p) := fun q => h (by rw [if_neg (by omega), if_neg (by omega), if_neg (by omega)])
  constructor
  · unfold Cu.why
    unfold Cu.pass
    by_cases q : c.c ≠ 0
    · rw [if_pos q]
    · rw [if_neg q]
      by_cases q2 : n < 0
      · rw [if_pos q2]
      · rw [if_neg q2, if_pos (by omega)]
  · unfold Cu.takeV Cu.may
    rw [if_neg (by rw [decide_eq_false hm]; decide)]
end Go.Proofs.Ytjkbahllghofoaa
