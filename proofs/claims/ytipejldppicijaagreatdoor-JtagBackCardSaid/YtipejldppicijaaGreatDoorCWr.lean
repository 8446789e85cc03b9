/-
  A part of the proof.
-/
import Derived.Test.YtipejldppicijaaGreatDoorCWq
set_option linter.unusedSimpArgs false
set_option linter.unusedVariables false
set_option maxHeartbeats 4000000
namespace Go.Proofs.YtipejldppicijaaGreatDoor
open Go Go.VG
set_option maxRecDepth 100000

theorem jl {w : CS} {c id k : Int} (h : ¬ c = 0) : (w.fail c).may id k = (w.fail c, false) := by
 have : (w.fail c).code ≠ 0 := by unfold CS.fail; split <;> simp_all
 unfold CS.may; rw [if_pos this]
theorem Bt {w : CS} {id k : Int} (h : ¬ w.code = 0) : w.may id k = (w, false) := by
 unfold CS.may; rw [if_pos h]
theorem Iq (w : CS) (c : Int) : (w.fail c).out = w.out ∧ (w.fail c).l = w.l := by unfold CS.fail; split <;> exact ⟨rfl, rfl⟩
theorem Ec {k : Int} (h1 : ¬ k = 3) (h2 : ¬ k = 4) (h3 : ¬ k = 5) (h4 : ¬ k = 6) : c7 k = 0 := by unfold c7; rw [if_neg h1, if_neg h2, if_neg h3, if_neg h4]
theorem Gj (w : CS) (id : Int) (hp : w.out.length ≤ 1800000000 ∧ w.l.length ≤ 800) : OK 47 ([.ptr 0 0, .int .i64 id]) (aN w) (.tuple []) (some (aN (w.struct id))) := by
 refine af (C := cx [(98, lD), (99, lB), (100, jY), (101, sW)]) (ah ⟨nU, nS, my, Ap, trivial⟩) (fn := Tryz.f47) rfl rfl rfl rfl fun hw hs => ?_
 have e1 : (w.l.map eP).length = w.l.length := by simp
 have m1 := fP w id 12
 repeat' ((conv => whnf); first | apply a9 | apply aJ | ((first | apply al | apply bu) <;> intro h))
 all_goals try conv => whnf
 all_goals try (refine a8.mk ?_; try dsimp only)
 all_goals try refine stay ?_
 all_goals (try simp only [bD, bN, cond_true, Int.toNat_natCast, List.length_append, List.length_map, List.length_singleton] at *)
 all_goals first
  | (show a7 _ _ _ _ _ _
     skip)
  | exact ⟨aR (by omega) (by omega), trivial⟩
  | exact ⟨trivial, aR (by omega) (by omega), by omega, by omega⟩
  | exact ⟨aR (by omega) (by omega), by omega, by omega⟩
  | exact ⟨aR (by omega) (by omega), by omega⟩
  | omega
  | exact ⟨by omega, by omega⟩
  | exact (fu (by assumption)).2.1 (by assumption)
  | (have := (fu (by assumption)).2.1; omega)
  | skip
 all_goals
  show a7 _ _ _ _ _ _
  unfold CS.struct
  repeat (first | rw [if_pos (by first | assumption | omega)] | rw [if_neg (by first | assumption | omega | exact fO (by assumption))])
 all_goals (try rw [jE (by assumption)])
 all_goals
  refine a7.mk [] ?_ <;> (repeat' first | trivial)
 all_goals (first | rfl | simp [CS.begin])
def jq : Sm := fun args σ => match args, σ with
 | [.ptr 0 0, .int .i64 id], [.cells [.buf 1, .buf 2, .int .i64 c_w], .buf 1 0 o_w, .buf 4 0 l_w] => some (dk o_w l_w ∧ ((b9 o_w l_w c_w).out.length ≤ 1800000000 ∧ (b9 o_w l_w c_w).l.length ≤ 800), .tuple [], some (aN ((b9 o_w l_w c_w).struct id)))
 | _, _ => none
theorem l6 : aa 47 jq := by
 intro args sg pre x r he hp
 unfold jq at he
 split at he <;> cases he
 . rw [eL (hp).1]; exact Gj (hp := hp.2) ..
theorem Gc (w : CS) (id n k : Int) (hp : w.out.length ≤ 1800000000 ∧ w.l.length ≤ 800) : OK 102 ([.ptr 0 0, .int .i64 id, .int .i64 n, .int .u8 k]) (aN w) (.tuple []) (some (aN (w.list id n k))) := by
 refine af (C := cx [(98, lD), (134, wL), (99, lB), (100, jY), (101, sW)]) (ah ⟨nU, J0, nS, my, Ap, trivial⟩) (fn := Tryz.f102) rfl rfl rfl rfl fun hw hs => ?_
 have e1 : (w.l.map eP).length = w.l.length := by simp
 have m1 := fP w id 9
 have hk : 0 ≤ k ∧ k ≤ 255 := hw.2.2.2.1
 have pl := @sw n (byte k)
 repeat' ((conv => whnf); first | apply a9 | apply aJ | ((first | apply al | apply bu) <;> intro h))
 all_goals try conv => whnf
 all_goals try (refine a8.mk ?_; try dsimp only)
 all_goals first | refine stay ?_ | trivial | skip
 all_goals (try simp only [bD, bN, cond_true, Int.toNat_natCast, List.length_append, List.length_map, List.length_singleton] at *)
 all_goals first
  | (show a7 _ _ _ _ _ _
     skip)
  | exact ⟨aR (by omega) (by omega), trivial⟩
  | exact ⟨trivial, aR (by omega) (by omega), by omega, by omega⟩
  | exact ⟨aR (by omega) (by omega), by omega, by omega⟩
  | exact ⟨aR (by omega) (by omega), by omega⟩
  | omega
  | exact ⟨by omega, by omega⟩
  | exact (fu (by assumption)).2.1 (by assumption)
  | (have := (fu (by assumption)).2.1; omega)
  | skip
 all_goals (try exact ⟨⟨by omega, by omega⟩, trivial⟩)
 all_goals (try (rw [← cN, uI]; refine ⟨trivial, aR ?_ ?_, ?_, ?_⟩ <;> (try dsimp only) <;> (try simp only [List.length_append]) <;> omega))
 all_goals (try rw [← cN, uI])
 all_goals
  show a7 _ _ _ _ _ _
  unfold CS.list
  repeat (first | rw [if_pos (by first | assumption | omega)] | rw [if_neg (by first | assumption | omega | exact fO (by assumption))])
 all_goals (try rw [jE (by assumption)])
 all_goals
  refine a7.mk [] ?_ <;> (repeat' first | trivial)
 all_goals (first | rfl | simp [CS.begin, cN])
def sX : Sm := fun args σ => match args, σ with
 | [.ptr 0 0, .int .i64 id, .int .i64 n, .int .u8 k], [.cells [.buf 1, .buf 2, .int .i64 c_w], .buf 1 0 o_w, .buf 4 0 l_w] => some (dk o_w l_w ∧ ((b9 o_w l_w c_w).out.length ≤ 1800000000 ∧ (b9 o_w l_w c_w).l.length ≤ 800), .tuple [], some (aN ((b9 o_w l_w c_w).list id n k)))
 | _, _ => none
theorem Aq : aa 102 sX := by
 intro args sg pre x r he hp
 unfold sX at he
 split at he <;> cases he
 . rw [eL (hp).1]; exact Gc (hp := hp.2) ..
theorem G9 (w : CS) (hp : w.out.length ≤ 1800000000 ∧ w.l.length ≤ 800) : OK 49 ([.ptr 0 0]) (aN w) (.tuple []) (some (aN w.fin)) := by
 refine af (C := cx [(98, lD), (103, oz), (99, lB)]) (ah ⟨nU, rZ, nS, trivial⟩) (fn := Tryz.f49) rfl rfl rfl rfl fun hw hs => ?_
 have e1 : (w.l.map eP).length = w.l.length := by simp
 repeat' ((conv => whnf); first | apply a9 | apply aJ | ((first | apply al | apply bu) <;> intro h) | with_reducible (first | refine uB (fun h => ?_) fun h => ?_ | refine pH ?_ ?_))
 all_goals try conv => whnf
 all_goals try (refine a8.mk ?_; try dsimp only)
 all_goals first | refine stay ?_ | (simp only [aW]; omega) | skip
 all_goals (try simp only [bD, bN, cond_true, Int.toNat_natCast, List.length_append, List.length_map, List.length_singleton] at *)
 all_goals first
  | (show a7 _ _ _ _ _ _
     skip)
  | exact ⟨aR (by omega) (by omega), trivial⟩
  | exact ⟨trivial, aR (by omega) (by omega), by omega, by omega⟩
  | exact ⟨aR (by omega) (by omega), by omega, by omega⟩
  | exact ⟨aR (by omega) (by omega), by omega⟩
  | omega
  | exact ⟨by omega, by omega⟩
  | exact (fu (by assumption)).2.1 (by assumption)
  | (have := (fu (by assumption)).2.1; omega)
  | skip
 all_goals (try (refine ⟨?_, ?_⟩ <;> (simp (discharger := omega) only [wR]; omega)))
 all_goals
  show a7 _ _ _ _ _ _
  unfold CS.fin
  repeat (first | rw [if_pos (by first | assumption | omega)] | rw [if_neg (by first | assumption | omega | exact fO (by assumption))])
 all_goals (try rw [jE (by assumption)])
 all_goals
  refine a7.mk [] ?_ <;> (repeat' first | trivial | apply ab | apply aE)
 all_goals (try rw [show (IntKind.i64.wrap (↑w.l.length - 1)).toNat = w.l.length - 1 by (simp (discharger := omega) only [wR]; omega)])
 all_goals (first | rfl | (simp [cN, bl, bv, List.map_take]; done))
def im : Sm := fun args σ => match args, σ with
 | [.ptr 0 0], [.cells [.buf 1, .buf 2, .int .i64 c_w], .buf 1 0 o_w, .buf 4 0 l_w] => some (dk o_w l_w ∧ ((b9 o_w l_w c_w).out.length ≤ 1800000000 ∧ (b9 o_w l_w c_w).l.length ≤ 800), .tuple [], some (aN (b9 o_w l_w c_w).fin))
 | _, _ => none
theorem jh : aa 49 im := by
 intro args sg pre x r he hp
 unfold im at he
 split at he <;> cases he
 . rw [eL (hp).1]; exact G9 (hp := hp.2) ..
theorem G5  (hp : True) : OK 27 ([.nilptr]) ([]) (.tuple [.str [], .int .i64 9]) (none) := by
 refine af (C := cx []) (ah trivial) (fn := Tryz.f27) rfl rfl rfl rfl fun hw hs => ?_
 all_goals try conv => whnf
 all_goals try (refine a8.mk ?_; try dsimp only)
 all_goals try refine stay ?_
 refine a7.mk [] ?_ <;> (repeat' first | trivial)
theorem G6 (w : CS) (hp : True) : OK 27 ([.ptr 0 0]) (aN w) (.tuple [.str w.done.1, .int .i64 w.done.2]) (none) := by
 refine af (C := cx []) (ah trivial) (fn := Tryz.f27) rfl rfl rfl rfl fun hw hs => ?_
 have e1 : (w.l.map eP).length = w.l.length := by simp
 repeat' ((conv => whnf); first | apply aJ | (apply al <;> intro h) | apply je)
 all_goals try conv => whnf
 all_goals try (refine a8.mk ?_; try dsimp only)
 all_goals try refine stay ?_
 all_goals
  have he : w.done = w.done := rfl
  conv at he => rhs; unfold CS.done
  repeat (first | rw [if_pos (by first | assumption | omega | (simp [*]; done) | (simp; omega))] at he | rw [if_neg (by first | omega | (intro hh; rcases hh with hh | hh; (· omega); (· simp_all)))] at he)
  rw [he]
  refine a7.mk [] ?_ <;> (repeat' first | trivial)
def qP : Sm := fun args σ => match args, σ with
 | [.nilptr], [] => some (True, .tuple [.str [], .int .i64 9], none)
 | [.ptr 0 0], [.cells [.buf 1, .buf 2, .int .i64 c_w], .buf 1 0 o_w, .buf 4 0 l_w] => some (dk o_w l_w ∧ (True), .tuple [.str (b9 o_w l_w c_w).done.1, .int .i64 (b9 o_w l_w c_w).done.2], none)
 | _, _ => none
theorem vn : aa 27 qP := by
 intro args sg pre x r he hp
 unfold qP at he
 split at he <;> cases he
 . exact G5 (hp := hp) ..
 . rw [eL (hp).1]; exact G6 (hp := hp.2) ..
theorem Gf  (hp : True) : OK 25 ([]) ([]) (.ptr 0 0) (some (aN .new)) := by
 refine af (C := cx []) (ah trivial) (fn := Tryz.f25) rfl rfl rfl rfl fun hw hs => ?_
 all_goals try conv => whnf
 all_goals try (refine a8.mk ?_; try dsimp only)
 all_goals try refine stay ?_
 refine a7.mk [.cell 0 0 1, .cell 0 1 4] ?_ <;> (repeat' first | trivial)
def qQ : Sm := fun args σ => match args, σ with
 | [], [] => some (True, .ptr 0 0, some (aN .new))
 | _, _ => none
theorem vo : aa 25 qQ := by
 intro args sg pre x r he hp
 unfold qQ at he
 split at he <;> cases he
 . exact Gf (hp := hp) ..
end Go.Proofs.YtipejldppicijaaGreatDoor
