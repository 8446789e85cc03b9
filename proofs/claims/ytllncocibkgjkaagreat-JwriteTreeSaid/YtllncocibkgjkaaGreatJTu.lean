/-
  A part of the proof.
-/
import Derived.Test.YtllncocibkgjkaaGreatJTy
set_option linter.unusedSimpArgs false
set_option linter.unusedVariables false
set_option maxHeartbeats 4000000
namespace Go.Proofs.YtllncocibkgjkaaGreat
open Go Go.VG
set_option maxRecDepth 100000
theorem G7 (k : UInt8) (t : List UInt8) (hp : t.length ≤ 10000000) : OK 74 ([.agg [bv k, .str t]]) ([]) (.str (cq ⟨k, t⟩)) (none) := by
 refine aq (C := cx [(75, sZ), (67, oM), (105, tb)]) (ar ⟨Ai, rJ, Ak, trivial⟩) (fn := Tryz.f74) rfl rfl rfl rfl fun hw hs => ?_
 have hb : k.toNat < 256 := k.toNat_lt
 have hbb : byte k.toNat = k := c5 _
 have sT : bJ k = true ↔ (k.toNat = 123 ∨ k.toNat = 125 ∨ k.toNat = 91 ∨ k.toNat = 93 ∨ k.toNat = 58 ∨ k.toNat = 44) := decide_eq_true_iff
 repeat' ((conv => whnf); first | apply ak | (apply al <;> intro h) | apply nT)
 all_goals try conv => whnf
 all_goals try (refine ab.mk ?_; try dsimp only)
 all_goals (try simp only [aP] at *)
 all_goals first | refine stay ?_ | omega | (simp (discharger := omega) [-List.getD_eq_getElem?_getD, wR] <;> omega) | skip
 all_goals (try simp only [hbb] at *)
 all_goals first
  | omega
  | exact ⟨by omega, trivial⟩
  | skip
 all_goals
  rw [show cq ⟨k, t⟩ = if k.toNat = 115 then quote t else if k.toNat = 110 then t else if bJ k = true then [k] else spell k from rfl]
  repeat (first | rw [if_pos (by rw [sT]; omega)] | rw [if_neg (by rw [sT]; omega)] | rw [if_pos (by omega)] | rw [if_neg (by omega)])
  refine a8.mk [] ?_ <;> (repeat' first | trivial)
def xa : Sm := fun args σ => match args, σ with
 | [.agg [.int .u8 n_k, .str t]], [] => some ((0 ≤ n_k ∧ n_k ≤ 255) ∧ (t.length ≤ 10000000), .str (cq ⟨(byte n_k), t⟩), none)
 | _, _ => none
theorem I2 : ay 74 xa := by
 intro args sg pre x r he hp
 unfold xa at he
 split at he <;> cases he
 . rw [dw (hp).1]; exact G7 (hp := hp.2) ..
theorem J2 {c : Cu} (h : c.aN.2.k ≠ 0) : c.aN.1.c = 0 := by
 unfold Cu.aN at h ⊢
 by_cases h0 : c.c ≠ 0
 . rw [if_pos h0] at h; exact absurd rfl h
 rw [if_neg h0] at h ⊢
 have e3 : ({ c with p := cg bQ c.a9 c.p } : Cu).c = 0 := by show c.c = 0; omega
 generalize ({ c with p := cg bQ c.a9 c.p } : Cu) = d at *
 have hh : ∀ (x : CO) (k : UInt8), (held x k).2.k ≠ 0 → (held x k).1.c = 0 := fun x k h => by
  unfold held at h ⊢
  by_cases z : x.1.c = 0
  . exact z
  . rw [if_neg z] at h; exact absurd rfl h
 have hw : ∀ k, (d.cr k).2.k ≠ 0 → (d.cr k).1.c = 0 := fun k h => by
  unfold Cu.cr at h ⊢
  by_cases z : cS d (spell k) 0 ≠ 0
  . rw [if_pos z] at h; exact absurd rfl h
  . rw [if_neg z]; exact e3
 unfold Cu.ez at h ⊢
 repeat' split at h
 all_goals first
  | exact absurd rfl h
  | skip
 . rename_i q1 q2; rw [if_neg q1, if_pos q2]; exact e3
 . rename_i q1 q2 q3; rw [if_neg q1, if_neg q2, if_pos q3]; exact hh _ _ h
 . rename_i q1 q2 q3 q4; rw [if_neg q1, if_neg q2, if_neg q3, if_pos q4]; exact hh _ _ h
 . rename_i q1 q2 q3 q4 q5; rw [if_neg q1, if_neg q2, if_neg q3, if_neg q4, if_pos q5]; exact hw _ h
 . rename_i q1 q2 q3 q4 q5 q6; rw [if_neg q1, if_neg q2, if_neg q3, if_neg q4, if_neg q5, if_pos q6]; exact hw _ h
end Go.Proofs.YtllncocibkgjkaaGreat
