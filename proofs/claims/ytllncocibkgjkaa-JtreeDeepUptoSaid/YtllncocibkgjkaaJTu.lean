/-
  A part of the proof.
-/
import Derived.Test.YtllncocibkgjkaaJTy
set_option linter.unusedSimpArgs false
set_option linter.unusedVariables false
set_option maxHeartbeats 4000000
namespace Go.Proofs.Ytllncocibkgjkaa
open Go Go.VG
set_option maxRecDepth 100000
def KG : Sm := fun args σ => match args, σ with
 | [.str s], [] => some (s.length ≤ 10000000, .tuple [.buf 0, .int .i64 (lT s).2], some [.buf 2 0 ((lT s).1.map vT)])
 | _, _ => none
theorem F0 (k : UInt8) (t : List UInt8) (hp : t.length ≤ 10000000) : OK 15 ([.agg [bv k, .str t]]) ([]) (.str (bI ⟨k, t⟩)) (none) := by
 refine aC (C := cx [(39, sl), (40, oq), (41, sq)]) (ay ⟨zE, rm, zG, trivial⟩) (fn := Try.f15) rfl rfl rfl rfl fun hw hs => ?_
 have hb : k.toNat < 256 := k.toNat_lt
 have hbb : byte k.toNat = k := bH _
 have sT : bB k = true ↔ (k.toNat = 123 ∨ k.toNat = 125 ∨ k.toNat = 91 ∨ k.toNat = 93 ∨ k.toNat = 58 ∨ k.toNat = 44) := decide_eq_true_iff
 repeat' ((conv => whnf); first | apply al | (apply ao <;> intro h) | apply nE)
 all_goals try conv => whnf
 all_goals try (refine ae.mk ?_; try dsimp only)
 all_goals (try simp only [aR] at *)
 all_goals first | refine stay ?_ | omega | (simp (discharger := omega) [-List.getD_eq_getElem?_getD, wR] <;> omega) | skip
 all_goals (try simp only [hbb] at *)
 all_goals first
  | omega
  | exact ⟨by omega, trivial⟩
  | skip
 all_goals
  rw [show bI ⟨k, t⟩ = if k.toNat = 115 then quote t else if k.toNat = 110 then t else if bB k = true then [k] else spell k from rfl]
  repeat (first | rw [if_pos (by rw [sT]; omega)] | rw [if_neg (by rw [sT]; omega)] | rw [if_pos (by omega)] | rw [if_neg (by omega)])
  refine a8.mk [] ?_ <;> (repeat' first | trivial)
def wm : Sm := fun args σ => match args, σ with
 | [.agg [.int .u8 n_k, .str t]], [] => some ((0 ≤ n_k ∧ n_k ≤ 255) ∧ (t.length ≤ 10000000), .str (bI ⟨(byte n_k), t⟩), none)
 | _, _ => none
theorem GS : aD 15 wm := by
 intro args sg pre x r he hp
 unfold wm at he
 split at he <;> cases he
 . rw [da (hp).1]; exact F0 (hp := hp.2) ..
def v1 : List UInt8 := [91, 49, 44, 32, 34, 97, 34, 93]
def v2 : List UInt8 := [116, 114, 117]
def v3 : List UInt8 := [116, 114, 117, 112]
deriving instance DecidableEq for Tk
theorem HM {c : Cu} (h : c.aJ.2.k ≠ 0) : c.aJ.1.c = 0 := by
 unfold Cu.aJ at h ⊢
 by_cases h0 : c.c ≠ 0
 . rw [if_pos h0] at h; exact absurd rfl h
 rw [if_neg h0] at h ⊢
 have e3 : ({ c with p := cm bO c.a9 c.p } : Cu).c = 0 := by show c.c = 0; omega
 generalize ({ c with p := cm bO c.a9 c.p } : Cu) = d at *
 have hh : ∀ (x : CO) (k : UInt8), (held x k).2.k ≠ 0 → (held x k).1.c = 0 := fun x k h => by
  unfold held at h ⊢
  by_cases z : x.1.c = 0
  . exact z
  . rw [if_neg z] at h; exact absurd rfl h
 have hw : ∀ k, (d.cr k).2.k ≠ 0 → (d.cr k).1.c = 0 := fun k h => by
  unfold Cu.cr at h ⊢
  by_cases z : cP d (spell k) 0 ≠ 0
  . rw [if_pos z] at h; exact absurd rfl h
  . rw [if_neg z]; exact e3
 unfold Cu.ew at h ⊢
 repeat' split at h
 all_goals first
  | exact absurd rfl h
  | skip
 . rename_i q1 q2; rw [if_neg q1, if_pos q2]; exact e3
 . rename_i q1 q2 q3; rw [if_neg q1, if_neg q2, if_pos q3]; exact hh _ _ h
 . rename_i q1 q2 q3 q4; rw [if_neg q1, if_neg q2, if_neg q3, if_pos q4]; exact hh _ _ h
 . rename_i q1 q2 q3 q4 q5; rw [if_neg q1, if_neg q2, if_neg q3, if_neg q4, if_pos q5]; exact hw _ h
 . rename_i q1 q2 q3 q4 q5 q6; rw [if_neg q1, if_neg q2, if_neg q3, if_neg q4, if_neg q5, if_pos q6]; exact hw _ h
end Go.Proofs.Ytllncocibkgjkaa
