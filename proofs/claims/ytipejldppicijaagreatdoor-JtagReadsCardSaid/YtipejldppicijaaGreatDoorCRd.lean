/-
  A part of the proof.
-/
import Derived.Test.YtipejldppicijaaGreatDoorCRb
set_option linter.unusedSimpArgs false
set_option linter.unusedVariables false
set_option maxHeartbeats 4000000
namespace Go.Proofs.YtipejldppicijaaGreatDoor
open Go Go.VG
set_option maxRecDepth 100000
theorem kK {c : Cu} {k : Int} (h : ¬ k = 0) : ¬ (c.fail k).c = 0 := by unfold Cu.fail; split <;> assumption
theorem Cg (c : Cu) (last : Int) (hp : c.ok) : OK 33 ([.ptr 0 0, .int .i64 last]) ([.cells (eC c)]) (.tuple [.int .i64 (c.aC last).1.1, .int .u8 (c.aC last).1.2]) (some [.cells (eC (c.aC last).2)]) := by
 refine ah (C := cx [(64, gS), (35, fJ), (65, la), (66, eZ), (68, jb), (67, qM)]) (ai ⟨iX, gj, ny, fW, kT, xC, trivial⟩) (fn := Tryz.f33) rfl rfl rfl rfl fun hw hs => ?_
 have hb := gp hp 1
 have hv := lp hb.1
 have h1 := @mR c.byte
 have h256 := c.ao.toNat_lt
 have h15 : jL .u8 (c.ao.toNat : Int) 15 = ((c.ao.toNat % 16 : Nat) : Int) := wJ _ (by omega)
 have h4 : IntKind.i64.wrap (cB .u8 (c.ao.toNat : Int) 4) = ((c.ao.toNat / 16 : Nat) : Int) := by
  have e : cB .u8 (c.ao.toNat : Int) 4 = ((c.ao.toNat / 16 : Nat) : Int) := by
   show (c.ao.toNat : Int).fdiv 16 = _
   rw [Int.fdiv_eq_ediv_of_nonneg _ (by decide)]; omega
  rw [e, bL]; omega
 repeat' ((conv => whnf); first | apply ab | apply ax | (apply ae <;> intro h))
 all_goals try conv => whnf
 all_goals try (refine a7.mk ?_; try dsimp only)
 all_goals (try simp only [h15, h4, Int.toNat_natCast] at *)
 all_goals (try simp only [aU] at *)
 all_goals first | refine stay ?_ | trivial | omega | (simp (discharger := omega) [-List.getD_eq_getElem?_getD, wR] <;> omega) | skip
 all_goals first
  | exact ⟨trivial, hb.1⟩
  | (exfalso; omega)
  | (exfalso; exact absurd (by assumption) (kK (c := c.byte) (k := 4) (by decide)))
  | (exfalso; exact absurd (by assumption) (kK (c := c.byte.av.2) (k := 4) (by decide)))
  | (show a6 _ _ _ _ _ _
     have he : c.aC last = c.aC last := rfl
     conv at he => rhs; unfold Cu.aC dj
     repeat (first | rw [if_pos (by first | assumption | omega | exact bJ.2 (by assumption))] at he | rw [if_neg (by first | assumption | omega | exact fun q => absurd (bJ.1 q) (by assumption))] at he)
     rw [he]
     (refine a6.mk [] ?_ <;> (repeat' first | trivial | rfl | exact fw _ _ | apply ak | apply dp | apply az | apply cQ | apply bI | apply dz | apply er | apply dq | apply bT | apply bo))
     done)
  | skip
def qt : Sm := fun args σ => match args, σ with
 | [.ptr 0 0, .int .i64 last], [.cells ([.str s_c, .int .i64 (.ofNat a_c), .int .i64 (.ofNat e_c), .int .i64 c_c])] => some (True ∧ ((Cu.mk s_c a_c e_c c_c).ok), .tuple [.int .i64 ((Cu.mk s_c a_c e_c c_c).aC last).1.1, .int .u8 ((Cu.mk s_c a_c e_c c_c).aC last).1.2], some [.cells (eC ((Cu.mk s_c a_c e_c c_c).aC last).2)])
 | _, _ => none
theorem xd : a9 33 qt := by
 intro args sg pre x r he hp
 unfold qt at he
 split at he <;> cases he
 . rw [bP (hp).1]; exact Cg (hp := hp.2) ..
end Go.Proofs.YtipejldppicijaaGreatDoor
