/-
  A part of the proof.
-/
import Derived.Test.YtipejldppicijaaGreatDoorCWm
set_option linter.unusedSimpArgs false
set_option linter.unusedVariables false
set_option maxHeartbeats 4000000
namespace Go.Proofs.YtipejldppicijaaGreatDoor
open Go Go.VG
set_option maxRecDepth 100000
theorem Cv (w : CS) (c : Int) (hp : True) : OK 99 ([.ptr 0 0, .int .i64 c]) (aM w) (.tuple []) (some (aM (w.fail c))) := by
 refine ai (C := cx []) (aj trivial) (fn := Tryz.f99) rfl rfl rfl rfl fun hw hs => ?_
 repeat' ((conv => whnf); (apply ao <;> intro h))
 all_goals try conv => whnf
 all_goals try (refine a8.mk ?_; try dsimp only)
 all_goals try refine stay ?_
 all_goals
  unfold CS.fail
  first | rw [if_pos (by assumption)] | rw [if_neg (by assumption)]
  refine a7.mk [] ?_ <;> (repeat' first | trivial)
def kr : Sm := fun args σ => match args, σ with
 | [.ptr 0 0, .int .i64 c], [.cells [.buf 1, .buf 2, .int .i64 c_w], .buf 1 0 o_w, .buf 4 0 l_w] => some (d7 o_w l_w ∧ (True), .tuple [], some (aM ((aU o_w l_w c_w).fail c)))
 | _, _ => none
theorem mN : aa 99 kr := by
 intro args sg pre x r he hp
 unfold kr at he
 split at he <;> cases he
 . rw [ee (hp).1]; exact Cv (hp := hp.2) ..
theorem CB  (hp : True) : OK 98 ([.nilptr]) ([]) (.bool false) (none) := by
 refine ai (C := cx []) (aj trivial) (fn := Tryz.f98) rfl rfl rfl rfl fun hw hs => ?_
 all_goals try conv => whnf
 all_goals try (refine a8.mk ?_; try dsimp only)
 all_goals try refine stay ?_
 refine a7.mk [] ?_ <;> (repeat' first | trivial)
theorem CC (w : CS) (hp : True) : OK 98 ([.ptr 0 0]) (aM w) (.bool (w.code == 0)) (none) := by
 refine ai (C := cx []) (aj trivial) (fn := Tryz.f98) rfl rfl rfl rfl fun hw hs => ?_
 all_goals try conv => whnf
 all_goals try (refine a8.mk ?_; try dsimp only)
 all_goals try refine stay ?_
 all_goals
  refine a7.mk [] ?_ <;> (repeat' first | trivial)
def ku : Sm := fun args σ => match args, σ with
 | [.nilptr], [] => some (True, .bool false, none)
 | [.ptr 0 0], [.cells [.buf 1, .buf 2, .int .i64 c_w], .buf 1 0 o_w, .buf 4 0 l_w] => some (d7 o_w l_w ∧ (True), .bool ((aU o_w l_w c_w).code == 0), none)
 | _, _ => none
theorem mP : aa 98 ku := by
 intro args sg pre x r he hp
 unfold ku at he
 split at he <;> cases he
 . exact CB (hp := hp) ..
 . rw [ee (hp).1]; exact CC (hp := hp.2) ..
theorem CF (w : CS) (hp : w.l.length ≤ 1000) : OK 103 ([.ptr 0 0]) (aM w) (if w.l.length = 0 then .nilptr else .bptr 2 (w.l.length - 1) 0) (none) := by
 refine ai (C := cx []) (aj trivial) (fn := Tryz.f103) rfl rfl rfl rfl fun hw hs => ?_
 have e1 : (w.l.map eP).length = w.l.length := by simp
 repeat' ((conv => whnf); first | apply a9 | (apply ao <;> intro h))
 all_goals try conv => whnf
 all_goals try (refine a8.mk ?_; try dsimp only)
 all_goals first | refine stay ?_ | (simp (discharger := omega) only [wR]; omega) | skip
 all_goals first
  | (show a7 _ _ _ _ _ _
     simp only [List.length_map] at *
     first | rw [if_pos (by omega)] | rw [if_neg (by omega)]
     refine a7.mk [] ?_ <;> (repeat' first | trivial | apply ah)
     all_goals first
      | (rw [show (IntKind.i64.wrap (↑w.l.length - 1)).toNat = w.l.length - 1 by (simp (discharger := omega) only [wR]; omega)]; rfl)
      | rfl
    )
  | skip
def nj : Sm := fun args σ => match args, σ with
 | [.ptr 0 0], [.cells [.buf 1, .buf 2, .int .i64 c_w], .buf 1 0 o_w, .buf 4 0 l_w] => some (d7 o_w l_w ∧ ((aU o_w l_w c_w).l.length ≤ 1000), if (aU o_w l_w c_w).l.length = 0 then .nilptr else .bptr 2 ((aU o_w l_w c_w).l.length - 1) 0, none)
 | _, _ => none
theorem qC : aa 103 nj := by
 intro args sg pre x r he hp
 unfold nj at he
 split at he <;> cases he
 . rw [ee (hp).1]; exact CF (hp := hp.2) ..
theorem Cy (id k : Int) (hp : True) : OK 100 ([.nilptr, .int .i64 id, .int .u8 k]) ([]) (.bool false) (none) := by
 refine ai (C := cx [(98, ku), (103, nj), (99, kr), (62, lL), (133, rf)]) (aj ⟨mP, qC, mN, od, xJ, trivial⟩) (fn := Tryz.f100) rfl rfl rfl rfl fun hw hs => ?_
 repeat' ((conv => whnf); apply a9)
 all_goals try conv => whnf
 all_goals try (refine a8.mk ?_; try dsimp only)
 all_goals try refine stay ?_
 refine a7.mk [] ?_ <;> (repeat' first | trivial)
theorem Cz (w : CS) (id k : Int) (hp : w.out.length ≤ 1900000000 ∧ w.l.length ≤ 1000) : OK 100 ([.ptr 0 0, .int .i64 id, .int .u8 k]) (aM w) (.bool (w.may id k).2) (some (aM (w.may id k).1)) := by
  refine ai (C := cx [(98, ku), (103, nj), (99, kr), (62, lL), (133, rf)]) (aj ⟨mP, qC, mN, od, xJ, trivial⟩) (fn := Tryz.f100) rfl rfl rfl rfl fun hw hs => ?_
  have e1 : (w.l.map eP).length = w.l.length := by simp
  have hkd := IJ hs
  have hk : 0 ≤ k ∧ k ≤ 255 := hw.2.2.1
  repeat' ((conv => whnf); first | apply a9 | apply aQ | ((first | apply ao | apply bE) <;> intro h) | with_reducible (first | refine sl (fun h => ?_) fun h => ?_ | refine sR ?_ ?_))
  all_goals try conv => whnf
  all_goals try (refine a8.mk ?_; try dsimp only)
  all_goals first | refine stay ?_ | omega | (simp only [aV]; omega) | skip
  all_goals (try rw [bu] at *)
  all_goals first
   | exact ⟨aP (by omega) (by omega), trivial⟩
   | exact ⟨aP (by omega) (by omega), by omega⟩
   | omega
   | (have hkd := hkd (by omega); exact ⟨⟨by omega, by omega⟩, ⟨by omega, by omega⟩, trivial⟩)
   | (refine ⟨⟨by omega, by omega⟩, ?_⟩; rw [bC]; omega)
   | skip
  all_goals first
   | (show a7   _ _ _ _ _ _
      try simp only [List.length_append, bC] at *
      try rw [iS (by assumption)]
      have he : w.may id k = w.may id k := rfl
      conv at he => rhs; unfold CS.may
      repeat (first | rw [if_pos (by first | assumption | omega | exact oZ.2 (by assumption))] at he | rw [if_neg (by first | assumption | omega | exact gw (by assumption) | exact fun q => absurd (oZ.1 q) (by assumption))] at he)
      rw [he]
      first
       | (refine a7.mk [] ?_ <;> (repeat' first | trivial | rfl | exact cZ _ _ | apply ah | apply b9 | apply ax | apply ct | apply aG | apply cf | apply cY | apply de | apply cg | apply aX)
          all_goals first
           | rfl
           | (show (List.map eP w.l).set _ _ = List.map eP (CS.kj w _).l
              simp only [CS.kj, List.map_set]
              done))
       | (refine a7.mk [.swap 1 3] ?_ <;> (repeat' first | trivial | rfl | exact cZ _ _ | apply ah | apply b9 | apply ax | apply ct | apply aG | apply cf | apply cY | apply de | apply cg | apply aX)
          all_goals first
           | rfl
           | (show (List.map eP w.l).set _ _ = List.map eP (CS.kj w _).l
              simp only [CS.kj, List.map_set]
              done)
           | (show bl _ ++ bl _ = bl _
              rw [← cq]
              done)))
   | skip
def jc : Sm := fun args σ => match args, σ with
 | [.nilptr, .int .i64 id, .int .u8 k], [] => some (True, .bool false, none)
 | [.ptr 0 0, .int .i64 id, .int .u8 k], [.cells [.buf 1, .buf 2, .int .i64 c_w], .buf 1 0 o_w, .buf 4 0 l_w] => some (d7 o_w l_w ∧ ((aU o_w l_w c_w).out.length ≤ 1900000000 ∧ (aU o_w l_w c_w).l.length ≤ 1000), .bool ((aU o_w l_w c_w).may id k).2, some (aM ((aU o_w l_w c_w).may id k).1))
 | _, _ => none
theorem ll : aa 100 jc := by
 intro args sg pre x r he hp
 unfold jc at he
 split at he <;> cases he
 . exact Cy (hp := hp) ..
 . rw [ee (hp).1]; exact Cz (hp := hp.2) ..
end Go.Proofs.YtipejldppicijaaGreatDoor
