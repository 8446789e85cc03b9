/-
  A part of the proof.
-/
import Derived.Test.YtipejldppicijaaGreatDoorCWm
set_option linter.unusedSimpArgs false
set_option linter.unusedVariables false
set_option maxHeartbeats 4000000
namespace Go.Proofs.YtipejldppicijaaGreatDoor
open Go Go.VG
set_option maxRecDepth 100000
theorem BY (w : CS) (c : Int) (hp : True) : OK 99 ([.ptr 0 0, .int .i64 c]) (b6 w) (.tuple []) (some (b6 (w.fail c))) := by
 refine ah (C := cx []) (ai trivial) (fn := Tryz.f99) rfl rfl rfl rfl fun hw hs => ?_
 repeat' ((conv => whnf); (apply ae <;> intro h))
 all_goals try conv => whnf
 all_goals try (refine a7.mk ?_; try dsimp only)
 all_goals try refine stay ?_
 all_goals
  unfold CS.fail
  first | rw [if_pos (by assumption)] | rw [if_neg (by assumption)]
  refine a6.mk [] ?_ <;> (repeat' first | trivial)
def k9 : Sm := fun args σ => match args, σ with
 | [.ptr 0 0, .int .i64 c], [.cells [.buf 1, .buf 2, .int .i64 c_w], .buf 1 0 o_w, .buf 4 0 l_w] => some (du o_w l_w ∧ (True), .tuple [], some (b6 ((aX o_w l_w c_w).fail c)))
 | _, _ => none
theorem m8 : a9 99 k9 := by
 intro args sg pre x r he hp
 unfold k9 at he
 split at he <;> cases he
 . rw [fh (hp).1]; exact BY (hp := hp.2) ..
theorem C4  (hp : True) : OK 98 ([.nilptr]) ([]) (.bool false) (none) := by
 refine ah (C := cx []) (ai trivial) (fn := Tryz.f98) rfl rfl rfl rfl fun hw hs => ?_
 all_goals try conv => whnf
 all_goals try (refine a7.mk ?_; try dsimp only)
 all_goals try refine stay ?_
 refine a6.mk [] ?_ <;> (repeat' first | trivial)
theorem C5 (w : CS) (hp : True) : OK 98 ([.ptr 0 0]) (b6 w) (.bool (w.code == 0)) (none) := by
 refine ah (C := cx []) (ai trivial) (fn := Tryz.f98) rfl rfl rfl rfl fun hw hs => ?_
 all_goals try conv => whnf
 all_goals try (refine a7.mk ?_; try dsimp only)
 all_goals try refine stay ?_
 all_goals
  refine a6.mk [] ?_ <;> (repeat' first | trivial)
def ka : Sm := fun args σ => match args, σ with
 | [.nilptr], [] => some (True, .bool false, none)
 | [.ptr 0 0], [.cells [.buf 1, .buf 2, .int .i64 c_w], .buf 1 0 o_w, .buf 4 0 l_w] => some (du o_w l_w ∧ (True), .bool ((aX o_w l_w c_w).code == 0), none)
 | _, _ => none
theorem ma : a9 98 ka := by
 intro args sg pre x r he hp
 unfold ka at he
 split at he <;> cases he
 . exact C4 (hp := hp) ..
 . rw [fh (hp).1]; exact C5 (hp := hp.2) ..
theorem C8 (w : CS) (hp : w.l.length ≤ 1000) : OK 103 ([.ptr 0 0]) (b6 w) (if w.l.length = 0 then .nilptr else .bptr 2 (w.l.length - 1) 0) (none) := by
 refine ah (C := cx []) (ai trivial) (fn := Tryz.f103) rfl rfl rfl rfl fun hw hs => ?_
 have e1 : (w.l.map eP).length = w.l.length := by simp
 repeat' ((conv => whnf); first | apply ab | (apply ae <;> intro h))
 all_goals try conv => whnf
 all_goals try (refine a7.mk ?_; try dsimp only)
 all_goals first | refine stay ?_ | (simp (discharger := omega) only [wR]; omega) | skip
 all_goals first
  | (show a6 _ _ _ _ _ _
     simp only [List.length_map] at *
     first | rw [if_pos (by omega)] | rw [if_neg (by omega)]
     refine a6.mk [] ?_ <;> (repeat' first | trivial | apply ak)
     all_goals first
      | (rw [show (IntKind.i64.wrap (↑w.l.length - 1)).toNat = w.l.length - 1 by (simp (discharger := omega) only [wR]; omega)]; rfl)
      | rfl
    )
  | skip
def mC : Sm := fun args σ => match args, σ with
 | [.ptr 0 0], [.cells [.buf 1, .buf 2, .int .i64 c_w], .buf 1 0 o_w, .buf 4 0 l_w] => some (du o_w l_w ∧ ((aX o_w l_w c_w).l.length ≤ 1000), if (aX o_w l_w c_w).l.length = 0 then .nilptr else .bptr 2 ((aX o_w l_w c_w).l.length - 1) 0, none)
 | _, _ => none
theorem pG : a9 103 mC := by
 intro args sg pre x r he hp
 unfold mC at he
 split at he <;> cases he
 . rw [fh (hp).1]; exact C8 (hp := hp.2) ..
theorem C1 (id k : Int) (hp : True) : OK 100 ([.nilptr, .int .i64 id, .int .u8 k]) ([]) (.bool false) (none) := by
 refine ah (C := cx [(98, ka), (103, mC), (99, k9), (62, lf), (133, qi)]) (ai ⟨ma, pG, m8, nA, wX, trivial⟩) (fn := Tryz.f100) rfl rfl rfl rfl fun hw hs => ?_
 repeat' ((conv => whnf); apply ab)
 all_goals try conv => whnf
 all_goals try (refine a7.mk ?_; try dsimp only)
 all_goals try refine stay ?_
 refine a6.mk [] ?_ <;> (repeat' first | trivial)
theorem C2 (w : CS) (id k : Int) (hp : w.out.length ≤ 1900000000 ∧ w.l.length ≤ 1000) : OK 100 ([.ptr 0 0, .int .i64 id, .int .u8 k]) (b6 w) (.bool (w.may id k).2) (some (b6 (w.may id k).1)) := by
  refine ah (C := cx [(98, ka), (103, mC), (99, k9), (62, lf), (133, qi)]) (ai ⟨ma, pG, m8, nA, wX, trivial⟩) (fn := Tryz.f100) rfl rfl rfl rfl fun hw hs => ?_
  have e1 : (w.l.map eP).length = w.l.length := by simp
  have hkd := HF hs
  have hk : 0 ≤ k ∧ k ≤ 255 := hw.2.2.1
  repeat' ((conv => whnf); first | apply ab | apply ax | ((first | apply ae | apply aV) <;> intro h) | with_reducible (first | refine rG (fun h => ?_) fun h => ?_ | refine se ?_ ?_))
  all_goals try conv => whnf
  all_goals try (refine a7.mk ?_; try dsimp only)
  all_goals first | refine stay ?_ | omega | (simp only [fX]; omega) | skip
  all_goals (try rw [ep] at *)
  all_goals first
   | exact ⟨bU (by omega) (by omega), trivial⟩
   | exact ⟨bU (by omega) (by omega), by omega⟩
   | omega
   | (have hkd := hkd (by omega); exact ⟨⟨by omega, by omega⟩, ⟨by omega, by omega⟩, trivial⟩)
   | (refine ⟨⟨by omega, by omega⟩, ?_⟩; rw [dL]; omega)
   | skip
  all_goals first
   | (show a6   _ _ _ _ _ _
      try simp only [List.length_append, dL] at *
      try rw [iR (by assumption)]
      have he : w.may id k = w.may id k := rfl
      conv at he => rhs; unfold CS.may
      repeat (first | rw [if_pos (by first | assumption | omega | exact l8.2 (by assumption))] at he | rw [if_neg (by first | assumption | omega | exact gM (by assumption) | exact fun q => absurd (l8.1 q) (by assumption))] at he)
      rw [he]
      first
       | (refine a6.mk [] ?_ <;> (repeat' first | trivial | rfl | exact fw _ _ | apply ak | apply dp | apply az | apply cQ | apply bI | apply dz | apply er | apply dq | apply bT | apply bo)
          all_goals first
           | rfl
           | (show (List.map eP w.l).set _ _ = List.map eP (CS.jZ w _).l
              simp only [CS.jZ, List.map_set]
              done))
       | (refine a6.mk [.swap 1 3] ?_ <;> (repeat' first | trivial | rfl | exact fw _ _ | apply ak | apply dp | apply az | apply cQ | apply bI | apply dz | apply er | apply dq | apply bT | apply bo)
          all_goals first
           | rfl
           | (show (List.map eP w.l).set _ _ = List.map eP (CS.jZ w _).l
              simp only [CS.jZ, List.map_set]
              done)
           | (show bl _ ++ bl _ = bl _
              rw [← fq]
              done)))
   | skip
def lh : Sm := fun args σ => match args, σ with
 | [.nilptr, .int .i64 id, .int .u8 k], [] => some (True, .bool false, none)
 | [.ptr 0 0, .int .i64 id, .int .u8 k], [.cells [.buf 1, .buf 2, .int .i64 c_w], .buf 1 0 o_w, .buf 4 0 l_w] => some (du o_w l_w ∧ ((aX o_w l_w c_w).out.length ≤ 1900000000 ∧ (aX o_w l_w c_w).l.length ≤ 1000), .bool ((aX o_w l_w c_w).may id k).2, some (b6 ((aX o_w l_w c_w).may id k).1))
 | _, _ => none
theorem nC : a9 100 lh := by
 intro args sg pre x r he hp
 unfold lh at he
 split at he <;> cases he
 . exact C1 (hp := hp) ..
 . rw [fh (hp).1]; exact C2 (hp := hp.2) ..
end Go.Proofs.YtipejldppicijaaGreatDoor
