/-
  All fields of a text: what the program reads.
-/
import Derived.Test.YtjkbahllghofoaaPRb
set_option linter.unusedSimpArgs false
set_option linter.unusedVariables false
set_option maxHeartbeats 4000000
namespace Go.Proofs.Ytjkbahllghofoaa
open Go Go.VG
set_option maxRecDepth 100000
theorem pass_adv (c : Cu) (n : Int) : c.p ≤ (c.pass n).p := by
  unfold Cu.pass
  repeat' split
  all_goals (first | exact Nat.le_refl _ | (dsimp only; omega))
theorem fail_p (c : Cu) (k : Int) : (c.fail k).p = c.p := by unfold Cu.fail; split <;> rfl
theorem vr_adv : ∀ (j i u : Nat) (c : Cu), c.p ≤ (vrGo j i u c).2.p
  | 0, i, u, c => by rw [vrGo]; exact Nat.le_of_eq (fail_p c 4).symm
  | j + 1, i, u, c => by
    have hb := pass_adv c 1
    rw [vrGo]
    split
    · exact hb
    · split
      · show c.p ≤ (c.byte.fail 4).p
        rw [fail_p]; exact hb
      · split
        · exact hb
        · exact Nat.le_trans hb (vr_adv j _ _ c.byte)
theorem vread_adv {c : Cu} (h : c.vread.2.c = 0) : c.p < c.vread.2.p := by
  have h1 : c.vread = vrGo 10 0 0 c := rfl
  rw [vrGo] at h1
  have hb : c.byte.c = 0 → c.byte.p = c.p + 1 := fun hb => by
    unfold Cu.byte Cu.pass at hb ⊢
    split
    · rename_i q; rw [if_pos q] at hb; exact absurd hb q
    · rename_i q
      rw [if_neg q] at hb
      split
      · rename_i q2; rw [if_pos q2] at hb; cases hb
      · rename_i q2
        rw [if_neg q2] at hb
        split
        · rename_i q3; rw [if_pos q3] at hb; cases hb
        · rfl
  rw [h1] at h ⊢
  split at h
  · rename_i q; exact absurd h q
  · rename_i q
    rw [if_neg q]
    have hb := hb (by simpa using q)
    split at h
    · rename_i q2; rw [if_pos q2]; show c.p < (c.byte.fail 4).p; rw [fail_p]; omega
    · rename_i q2
      rw [if_neg q2]
      split at h
      · rename_i q3; rw [if_pos q3]; show c.p < c.byte.p; omega
      · rename_i q3
        rw [if_neg q3]
        have := vr_adv 9 (0 + 1) (0 + (c.byteV.toNat - 128) * 2 ^ (7 * 0)) c.byte
        omega
theorem text_adv (c : Cu) : c.p ≤ c.text.2.p := by
  have hv := vr_adv 10 0 0 c
  have hq := pass_adv c.vread.2 c.vread.1
  unfold Cu.text
  dsimp only
  split
  · rw [fail_p]; exact hv
  · exact Nat.le_trans hv hq
theorem nxC_adv (f : Pf) (c : Cu) : c.p ≤ (nxC f c).p := by
  unfold nxC
  repeat' split
  · exact vr_adv 10 0 0 c
  · exact pass_adv c 8
  · exact pass_adv c 4
  · exact text_adv c
  · exact Nat.le_refl _
theorem nxC_err {c : Cu} (h : ¬ c.c = 0) (f : Pf) : nxC f c = c := by
  unfold nxC
  repeat' split
  · rw [vr_err h]
  · exact pass_err h 8
  · exact pass_err h 4
  · unfold Cu.text
    rw [vr_err h]
    dsimp only
    rw [if_neg (fun q => h q.1)]
    exact pass_err h _
  · rfl
theorem nxt_adv {c : Cu} (h : c.nxtC.c = 0) : c.p < c.nxtC.p := by
  have h1 : c.tag.2.c = 0 := by
    rcases Decidable.em (c.tag.2.c = 0) with q | q
    · exact q
    · unfold Cu.nxtC at h; rw [nxC_err q] at h; exact absurd h q
  have h2 : c.vread.2.c = 0 := by
    unfold Cu.tag at h1
    split at h1
    · rename_i q; exact absurd h1 q
    · rename_i q; simpa using q
  have h3 : c.vread.2.p ≤ c.tag.2.p := by
    unfold Cu.tag
    repeat' split
    · exact Nat.le_refl _
    · exact Nat.le_refl _
    · exact Nat.le_of_eq (fail_p _ 14).symm
  have := vread_adv h2
  have := nxC_adv ⟨c.tag.1.1, c.tag.1.2, 0, []⟩ c.tag.2
  unfold Cu.nxtC
  omega
def eachGo : Nat → Cu → List Pf → Cu × List Pf
  | 0, c, acc => (c, acc)
  | n + 1, c, acc => if c.c = 0 ∧ c.left > 0 then (if c.nxtC.c ≠ 0 then (c.nxtC, acc) else eachGo n c.nxtC (acc ++ [c.nxt])) else (c, acc)
def Cu.all (c : Cu) (acc : List Pf) : Cu × List Pf := eachGo (c.e - c.p) c acc
def yP : YT := fun args sg kl => match args, sg, memN 1 kl with
  | [.agg [.int .i64 n, .int .i64 w, .int .u64 u, .str t]], [.cells [.str s, .int .i64 a, .int .i64 b, .int .i64 c], .cells [.buf 3], .cells [.ptr 0 0], .buf 4 0 l, .cells [.int .i64 n2, .int .i64 w2, .int .u64 u2, .str t2]], false =>
    some (l.length ≤ 2000000000, .bool true, [.cells [.str s, .int .i64 a, .int .i64 b, .int .i64 c], .cells [.buf 3], .cells [.ptr 0 0], .buf 4 0 (l ++ [.agg [.int .i64 n, .int .i64 w, .int .u64 u, .str t]]), .cells [.int .i64 n2, .int .i64 w2, .int .u64 u2, .str t2]], [3])
  | _, _, _ => none
def aFine (s : List UInt8) : Int := ((Cu.new s).all []).1.c
def aFds (s : List UInt8) : List Pf := if aFine s = 0 then ((Cu.new s).all []).2 else []
end Go.Proofs.Ytjkbahllghofoaa
