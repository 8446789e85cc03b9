/-
  A part of the proof.
-/
import Derived.Test.YtipejldppicijaaGreatDoorCWq
set_option linter.unusedSimpArgs false
set_option linter.unusedVariables false
set_option maxHeartbeats 4000000
namespace Go.Proofs.YtipejldppicijaaGreatDoor
open Go Go.VG
set_option maxRecDepth 100000

theorem iu {w : CS} {c id k : Int} (h : ¬ c = 0) : (w.fail c).may id k = (w.fail c, false) := by
 have : (w.fail c).code ≠ 0 := by unfold CS.fail; split <;> simp_all
 unfold CS.may; rw [if_pos this]
theorem Gt {w : CS} {id k : Int} (h : ¬ w.code = 0) : w.may id k = (w, false) := by
 unfold CS.may; rw [if_pos h]
theorem Eg (w : CS) (c : Int) : (w.fail c).out = w.out ∧ (w.fail c).l = w.l := by unfold CS.fail; split <;> exact ⟨rfl, rfl⟩
theorem AN {k : Int} (h1 : ¬ k = 3) (h2 : ¬ k = 4) (h3 : ¬ k = 5) (h4 : ¬ k = 6) : gL k = 0 := by unfold gL; rw [if_neg h1, if_neg h2, if_neg h3, if_neg h4]
theorem CD (w : CS) (id : Int) (hp : w.out.length ≤ 1800000000 ∧ w.l.length ≤ 800) : OK 47 ([.ptr 0 0, .int .i64 id]) (aM w) (.tuple []) (some (aM (w.struct id))) := by
 refine ai (C := cx [(98, ku), (99, kr), (100, jc), (101, rk)]) (aj ⟨mP, mN, ll, xL, trivial⟩) (fn := Tryz.f47) rfl rfl rfl rfl fun hw hs => ?_
 have e1 : (w.l.map eP).length = w.l.length := by simp
 have m1 := fZ w id 12
 repeat' ((conv => whnf); first | apply a9 | apply aQ | ((first | apply ao | apply bE) <;> intro h))
 all_goals try conv => whnf
 all_goals try (refine a8.mk ?_; try dsimp only)
 all_goals try refine stay ?_
 all_goals (try simp only [bu, bC, cond_true, Int.toNat_natCast, List.length_append, List.length_map, List.length_singleton] at *)
 all_goals first
  | (show a7 _ _ _ _ _ _
     skip)
  | exact ⟨aP (by omega) (by omega), trivial⟩
  | exact ⟨trivial, aP (by omega) (by omega), by omega, by omega⟩
  | exact ⟨aP (by omega) (by omega), by omega, by omega⟩
  | exact ⟨aP (by omega) (by omega), by omega⟩
  | omega
  | exact ⟨by omega, by omega⟩
  | exact (eU (by assumption)).2.1 (by assumption)
  | (have := (eU (by assumption)).2.1; omega)
  | skip
 all_goals
  show a7 _ _ _ _ _ _
  unfold CS.struct
  repeat (first | rw [if_pos (by first | assumption | omega)] | rw [if_neg (by first | assumption | omega | exact gw (by assumption))])
 all_goals (try rw [iS (by assumption)])
 all_goals
  refine a7.mk [] ?_ <;> (repeat' first | trivial)
 all_goals (first | rfl | simp [CS.begin])
def jd : Sm := fun args σ => match args, σ with
 | [.ptr 0 0, .int .i64 id], [.cells [.buf 1, .buf 2, .int .i64 c_w], .buf 1 0 o_w, .buf 4 0 l_w] => some (d7 o_w l_w ∧ ((aU o_w l_w c_w).out.length ≤ 1800000000 ∧ (aU o_w l_w c_w).l.length ≤ 800), .tuple [], some (aM ((aU o_w l_w c_w).struct id)))
 | _, _ => none
theorem ln : aa 47 jd := by
 intro args sg pre x r he hp
 unfold jd at he
 split at he <;> cases he
 . rw [ee (hp).1]; exact CD (hp := hp.2) ..
theorem Cx (w : CS) (id n k : Int) (hp : w.out.length ≤ 1800000000 ∧ w.l.length ≤ 800) : OK 102 ([.ptr 0 0, .int .i64 id, .int .i64 n, .int .u8 k]) (aM w) (.tuple []) (some (aM (w.list id n k))) := by
 refine ai (C := cx [(98, ku), (134, ur), (99, kr), (100, jc), (101, rk)]) (aj ⟨mP, EX, mN, ll, xL, trivial⟩) (fn := Tryz.f102) rfl rfl rfl rfl fun hw hs => ?_
 have e1 : (w.l.map eP).length = w.l.length := by simp
 have m1 := fZ w id 9
 have hk : 0 ≤ k ∧ k ≤ 255 := hw.2.2.2.1
 have pl := @yU n (byte k)
 repeat' ((conv => whnf); first | apply a9 | apply aQ | ((first | apply ao | apply bE) <;> intro h))
 all_goals try conv => whnf
 all_goals try (refine a8.mk ?_; try dsimp only)
 all_goals first | refine stay ?_ | trivial | skip
 all_goals (try simp only [bu, bC, cond_true, Int.toNat_natCast, List.length_append, List.length_map, List.length_singleton] at *)
 all_goals first
  | (show a7 _ _ _ _ _ _
     skip)
  | exact ⟨aP (by omega) (by omega), trivial⟩
  | exact ⟨trivial, aP (by omega) (by omega), by omega, by omega⟩
  | exact ⟨aP (by omega) (by omega), by omega, by omega⟩
  | exact ⟨aP (by omega) (by omega), by omega⟩
  | omega
  | exact ⟨by omega, by omega⟩
  | exact (eU (by assumption)).2.1 (by assumption)
  | (have := (eU (by assumption)).2.1; omega)
  | skip
 all_goals (try exact ⟨⟨by omega, by omega⟩, trivial⟩)
 all_goals (try (rw [← cq, wh]; refine ⟨trivial, aP ?_ ?_, ?_, ?_⟩ <;> (try dsimp only) <;> (try simp only [List.length_append]) <;> omega))
 all_goals (try rw [← cq, wh])
 all_goals
  show a7 _ _ _ _ _ _
  unfold CS.list
  repeat (first | rw [if_pos (by first | assumption | omega)] | rw [if_neg (by first | assumption | omega | exact gw (by assumption))])
 all_goals (try rw [iS (by assumption)])
 all_goals
  refine a7.mk [] ?_ <;> (repeat' first | trivial)
 all_goals (first | rfl | simp [CS.begin, cq])
def ux : Sm := fun args σ => match args, σ with
 | [.ptr 0 0, .int .i64 id, .int .i64 n, .int .u8 k], [.cells [.buf 1, .buf 2, .int .i64 c_w], .buf 1 0 o_w, .buf 4 0 l_w] => some (d7 o_w l_w ∧ ((aU o_w l_w c_w).out.length ≤ 1800000000 ∧ (aU o_w l_w c_w).l.length ≤ 800), .tuple [], some (aM ((aU o_w l_w c_w).list id n k)))
 | _, _ => none
theorem F0 : aa 102 ux := by
 intro args sg pre x r he hp
 unfold ux at he
 split at he <;> cases he
 . rw [ee (hp).1]; exact Cx (hp := hp.2) ..
theorem Ct (w : CS) (hp : w.out.length ≤ 1800000000 ∧ w.l.length ≤ 800) : OK 49 ([.ptr 0 0]) (aM w) (.tuple []) (some (aM w.fin)) := by
 refine ai (C := cx [(98, ku), (103, nj), (99, kr)]) (aj ⟨mP, qC, mN, trivial⟩) (fn := Tryz.f49) rfl rfl rfl rfl fun hw hs => ?_
 have e1 : (w.l.map eP).length = w.l.length := by simp
 repeat' ((conv => whnf); first | apply a9 | apply aQ | ((first | apply ao | apply bE) <;> intro h) | with_reducible (first | refine sl (fun h => ?_) fun h => ?_ | refine sR ?_ ?_))
 all_goals try conv => whnf
 all_goals try (refine a8.mk ?_; try dsimp only)
 all_goals first | refine stay ?_ | (simp only [aV]; omega) | skip
 all_goals (try simp only [bu, bC, cond_true, Int.toNat_natCast, List.length_append, List.length_map, List.length_singleton] at *)
 all_goals first
  | (show a7 _ _ _ _ _ _
     skip)
  | exact ⟨aP (by omega) (by omega), trivial⟩
  | exact ⟨trivial, aP (by omega) (by omega), by omega, by omega⟩
  | exact ⟨aP (by omega) (by omega), by omega, by omega⟩
  | exact ⟨aP (by omega) (by omega), by omega⟩
  | omega
  | exact ⟨by omega, by omega⟩
  | exact (eU (by assumption)).2.1 (by assumption)
  | (have := (eU (by assumption)).2.1; omega)
  | skip
 all_goals (try (refine ⟨?_, ?_⟩ <;> (simp (discharger := omega) only [wR]; omega)))
 all_goals
  show a7 _ _ _ _ _ _
  unfold CS.fin
  repeat (first | rw [if_pos (by first | assumption | omega)] | rw [if_neg (by first | assumption | omega | exact gw (by assumption))])
 all_goals (try rw [iS (by assumption)])
 all_goals
  refine a7.mk [] ?_ <;> (repeat' first | trivial | apply ah | apply aG)
 all_goals (try rw [show (IntKind.i64.wrap (↑w.l.length - 1)).toNat = w.l.length - 1 by (simp (discharger := omega) only [wR]; omega)])
 all_goals (first | rfl | (simp [cq, bl, bv, List.map_take]; done))
def iz : Sm := fun args σ => match args, σ with
 | [.ptr 0 0], [.cells [.buf 1, .buf 2, .int .i64 c_w], .buf 1 0 o_w, .buf 4 0 l_w] => some (d7 o_w l_w ∧ ((aU o_w l_w c_w).out.length ≤ 1800000000 ∧ (aU o_w l_w c_w).l.length ≤ 800), .tuple [], some (aM (aU o_w l_w c_w).fin))
 | _, _ => none
theorem jU : aa 49 iz := by
 intro args sg pre x r he hp
 unfold iz at he
 split at he <;> cases he
 . rw [ee (hp).1]; exact Ct (hp := hp.2) ..
theorem Cp  (hp : True) : OK 27 ([.nilptr]) ([]) (.tuple [.str [], .int .i64 9]) (none) := by
 refine ai (C := cx []) (aj trivial) (fn := Tryz.f27) rfl rfl rfl rfl fun hw hs => ?_
 all_goals try conv => whnf
 all_goals try (refine a8.mk ?_; try dsimp only)
 all_goals try refine stay ?_
 refine a7.mk [] ?_ <;> (repeat' first | trivial)
theorem Cq (w : CS) (hp : True) : OK 27 ([.ptr 0 0]) (aM w) (.tuple [.str w.done.1, .int .i64 w.done.2]) (none) := by
 refine ai (C := cx []) (aj trivial) (fn := Tryz.f27) rfl rfl rfl rfl fun hw hs => ?_
 have e1 : (w.l.map eP).length = w.l.length := by simp
 repeat' ((conv => whnf); first | apply aQ | (apply ao <;> intro h) | apply ig)
 all_goals try conv => whnf
 all_goals try (refine a8.mk ?_; try dsimp only)
 all_goals try refine stay ?_
 all_goals
  have he : w.done = w.done := rfl
  conv at he => rhs; unfold CS.done
  repeat (first | rw [if_pos (by first | assumption | omega | (simp [*]; done) | (simp; omega))] at he | rw [if_neg (by first | omega | (intro hh; rcases hh with hh | hh; (· omega); (· simp_all)))] at he)
  rw [he]
  refine a7.mk [] ?_ <;> (repeat' first | trivial)
def pt : Sm := fun args σ => match args, σ with
 | [.nilptr], [] => some (True, .tuple [.str [], .int .i64 9], none)
 | [.ptr 0 0], [.cells [.buf 1, .buf 2, .int .i64 c_w], .buf 1 0 o_w, .buf 4 0 l_w] => some (d7 o_w l_w ∧ (True), .tuple [.str (aU o_w l_w c_w).done.1, .int .i64 (aU o_w l_w c_w).done.2], none)
 | _, _ => none
theorem sY : aa 27 pt := by
 intro args sg pre x r he hp
 unfold pt at he
 split at he <;> cases he
 . exact Cp (hp := hp) ..
 . rw [ee (hp).1]; exact Cq (hp := hp.2) ..
theorem CA  (hp : True) : OK 25 ([]) ([]) (.ptr 0 0) (some (aM .new)) := by
 refine ai (C := cx []) (aj trivial) (fn := Tryz.f25) rfl rfl rfl rfl fun hw hs => ?_
 all_goals try conv => whnf
 all_goals try (refine a8.mk ?_; try dsimp only)
 all_goals try refine stay ?_
 refine a7.mk [.cell 0 0 1, .cell 0 1 4] ?_ <;> (repeat' first | trivial)
def pw : Sm := fun args σ => match args, σ with
 | [], [] => some (True, .ptr 0 0, some (aM .new))
 | _, _ => none
theorem sZ : aa 25 pw := by
 intro args sg pre x r he hp
 unfold pw at he
 split at he <;> cases he
 . exact CA (hp := hp) ..
end Go.Proofs.YtipejldppicijaaGreatDoor
