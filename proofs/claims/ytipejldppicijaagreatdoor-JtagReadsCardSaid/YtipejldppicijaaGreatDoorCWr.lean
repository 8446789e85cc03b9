/-
  A part of the proof.
-/
import Derived.Test.YtipejldppicijaaGreatDoorCWq
set_option linter.unusedSimpArgs false
set_option linter.unusedVariables false
set_option maxHeartbeats 4000000
namespace Go.Proofs.YtipejldppicijaaGreatDoor
open Go Go.VG
set_option maxRecDepth 100000

theorem ia {w : CS} {c id k : Int} (h : ¬ c = 0) : (w.fail c).may id k = (w.fail c, false) := by
 have : (w.fail c).code ≠ 0 := by unfold CS.fail; split <;> simp_all
 unfold CS.may; rw [if_pos this]
theorem FP {w : CS} {id k : Int} (h : ¬ w.code = 0) : w.may id k = (w, false) := by
 unfold CS.may; rw [if_pos h]
theorem DS (w : CS) (c : Int) : (w.fail c).out = w.out ∧ (w.fail c).l = w.l := by unfold CS.fail; split <;> exact ⟨rfl, rfl⟩
theorem Aj {k : Int} (h1 : ¬ k = 3) (h2 : ¬ k = 4) (h3 : ¬ k = 5) (h4 : ¬ k = 6) : iI k = 0 := by unfold iI; rw [if_neg h1, if_neg h2, if_neg h3, if_neg h4]
theorem C6 (w : CS) (id : Int) (hp : w.out.length ≤ 1800000000 ∧ w.l.length ≤ 800) : OK 47 ([.ptr 0 0, .int .i64 id]) (b6 w) (.tuple []) (some (b6 (w.struct id))) := by
 refine ah (C := cx [(98, ka), (99, k9), (100, lh), (101, ql)]) (ai ⟨ma, m8, nC, x7, trivial⟩) (fn := Tryz.f47) rfl rfl rfl rfl fun hw hs => ?_
 have e1 : (w.l.map eP).length = w.l.length := by simp
 have m1 := gm w id 12
 repeat' ((conv => whnf); first | apply ab | apply ax | ((first | apply ae | apply aV) <;> intro h))
 all_goals try conv => whnf
 all_goals try (refine a7.mk ?_; try dsimp only)
 all_goals try refine stay ?_
 all_goals (try simp only [ep, dL, cond_true, Int.toNat_natCast, List.length_append, List.length_map, List.length_singleton] at *)
 all_goals first
  | (show a6 _ _ _ _ _ _
     skip)
  | exact ⟨bU (by omega) (by omega), trivial⟩
  | exact ⟨trivial, bU (by omega) (by omega), by omega, by omega⟩
  | exact ⟨bU (by omega) (by omega), by omega, by omega⟩
  | exact ⟨bU (by omega) (by omega), by omega⟩
  | omega
  | exact ⟨by omega, by omega⟩
  | exact (fY (by assumption)).2.1 (by assumption)
  | (have := (fY (by assumption)).2.1; omega)
  | skip
 all_goals
  show a6 _ _ _ _ _ _
  unfold CS.struct
  repeat (first | rw [if_pos (by first | assumption | omega)] | rw [if_neg (by first | assumption | omega | exact gM (by assumption))])
 all_goals (try rw [iR (by assumption)])
 all_goals
  refine a6.mk [] ?_ <;> (repeat' first | trivial)
 all_goals (first | rfl | simp [CS.begin])
def qo : Sm := fun args σ => match args, σ with
 | [.ptr 0 0, .int .i64 id], [.cells [.buf 1, .buf 2, .int .i64 c_w], .buf 1 0 o_w, .buf 4 0 l_w] => some (du o_w l_w ∧ ((aX o_w l_w c_w).out.length ≤ 1800000000 ∧ (aX o_w l_w c_w).l.length ≤ 800), .tuple [], some (b6 ((aX o_w l_w c_w).struct id)))
 | _, _ => none
theorem xa : a9 47 qo := by
 intro args sg pre x r he hp
 unfold qo at he
 split at he <;> cases he
 . rw [fh (hp).1]; exact C6 (hp := hp.2) ..
theorem C0 (w : CS) (id n k : Int) (hp : w.out.length ≤ 1800000000 ∧ w.l.length ≤ 800) : OK 102 ([.ptr 0 0, .int .i64 id, .int .i64 n, .int .u8 k]) (b6 w) (.tuple []) (some (b6 (w.list id n k))) := by
 refine ah (C := cx [(98, ka), (134, tH), (99, k9), (100, lh), (101, ql)]) (ai ⟨ma, Eu, m8, nC, x7, trivial⟩) (fn := Tryz.f102) rfl rfl rfl rfl fun hw hs => ?_
 have e1 : (w.l.map eP).length = w.l.length := by simp
 have m1 := gm w id 9
 have hk : 0 ≤ k ∧ k ≤ 255 := hw.2.2.2.1
 have pl := @ym n (byte k)
 repeat' ((conv => whnf); first | apply ab | apply ax | ((first | apply ae | apply aV) <;> intro h))
 all_goals try conv => whnf
 all_goals try (refine a7.mk ?_; try dsimp only)
 all_goals first | refine stay ?_ | trivial | skip
 all_goals (try simp only [ep, dL, cond_true, Int.toNat_natCast, List.length_append, List.length_map, List.length_singleton] at *)
 all_goals first
  | (show a6 _ _ _ _ _ _
     skip)
  | exact ⟨bU (by omega) (by omega), trivial⟩
  | exact ⟨trivial, bU (by omega) (by omega), by omega, by omega⟩
  | exact ⟨bU (by omega) (by omega), by omega, by omega⟩
  | exact ⟨bU (by omega) (by omega), by omega⟩
  | omega
  | exact ⟨by omega, by omega⟩
  | exact (fY (by assumption)).2.1 (by assumption)
  | (have := (fY (by assumption)).2.1; omega)
  | skip
 all_goals (try exact ⟨⟨by omega, by omega⟩, trivial⟩)
 all_goals (try (rw [← fq, vA]; refine ⟨trivial, bU ?_ ?_, ?_, ?_⟩ <;> (try dsimp only) <;> (try simp only [List.length_append]) <;> omega))
 all_goals (try rw [← fq, vA])
 all_goals
  show a6 _ _ _ _ _ _
  unfold CS.list
  repeat (first | rw [if_pos (by first | assumption | omega)] | rw [if_neg (by first | assumption | omega | exact gM (by assumption))])
 all_goals (try rw [iR (by assumption)])
 all_goals
  refine a6.mk [] ?_ <;> (repeat' first | trivial)
 all_goals (first | rfl | simp [CS.begin, fq])
def tK : Sm := fun args σ => match args, σ with
 | [.ptr 0 0, .int .i64 id, .int .i64 n, .int .u8 k], [.cells [.buf 1, .buf 2, .int .i64 c_w], .buf 1 0 o_w, .buf 4 0 l_w] => some (du o_w l_w ∧ ((aX o_w l_w c_w).out.length ≤ 1800000000 ∧ (aX o_w l_w c_w).l.length ≤ 800), .tuple [], some (b6 ((aX o_w l_w c_w).list id n k)))
 | _, _ => none
theorem Ey : a9 102 tK := by
 intro args sg pre x r he hp
 unfold tK at he
 split at he <;> cases he
 . rw [fh (hp).1]; exact C0 (hp := hp.2) ..
theorem BX (w : CS) (hp : w.out.length ≤ 1800000000 ∧ w.l.length ≤ 800) : OK 49 ([.ptr 0 0]) (b6 w) (.tuple []) (some (b6 w.fin)) := by
 refine ah (C := cx [(98, ka), (103, mC), (99, k9)]) (ai ⟨ma, pG, m8, trivial⟩) (fn := Tryz.f49) rfl rfl rfl rfl fun hw hs => ?_
 have e1 : (w.l.map eP).length = w.l.length := by simp
 repeat' ((conv => whnf); first | apply ab | apply ax | ((first | apply ae | apply aV) <;> intro h) | with_reducible (first | refine rG (fun h => ?_) fun h => ?_ | refine se ?_ ?_))
 all_goals try conv => whnf
 all_goals try (refine a7.mk ?_; try dsimp only)
 all_goals first | refine stay ?_ | (simp only [fX]; omega) | skip
 all_goals (try simp only [ep, dL, cond_true, Int.toNat_natCast, List.length_append, List.length_map, List.length_singleton] at *)
 all_goals first
  | (show a6 _ _ _ _ _ _
     skip)
  | exact ⟨bU (by omega) (by omega), trivial⟩
  | exact ⟨trivial, bU (by omega) (by omega), by omega, by omega⟩
  | exact ⟨bU (by omega) (by omega), by omega, by omega⟩
  | exact ⟨bU (by omega) (by omega), by omega⟩
  | omega
  | exact ⟨by omega, by omega⟩
  | exact (fY (by assumption)).2.1 (by assumption)
  | (have := (fY (by assumption)).2.1; omega)
  | skip
 all_goals (try (refine ⟨?_, ?_⟩ <;> (simp (discharger := omega) only [wR]; omega)))
 all_goals
  show a6 _ _ _ _ _ _
  unfold CS.fin
  repeat (first | rw [if_pos (by first | assumption | omega)] | rw [if_neg (by first | assumption | omega | exact gM (by assumption))])
 all_goals (try rw [iR (by assumption)])
 all_goals
  refine a6.mk [] ?_ <;> (repeat' first | trivial | apply ak | apply bI)
 all_goals (try rw [show (IntKind.i64.wrap (↑w.l.length - 1)).toNat = w.l.length - 1 by (simp (discharger := omega) only [wR]; omega)])
 all_goals (first | rfl | (simp [fq, bl, bv, List.map_take]; done))
def oq : Sm := fun args σ => match args, σ with
 | [.ptr 0 0], [.cells [.buf 1, .buf 2, .int .i64 c_w], .buf 1 0 o_w, .buf 4 0 l_w] => some (du o_w l_w ∧ ((aX o_w l_w c_w).out.length ≤ 1800000000 ∧ (aX o_w l_w c_w).l.length ≤ 800), .tuple [], some (b6 (aX o_w l_w c_w).fin))
 | _, _ => none
theorem sk : a9 49 oq := by
 intro args sg pre x r he hp
 unfold oq at he
 split at he <;> cases he
 . rw [fh (hp).1]; exact BX (hp := hp.2) ..
theorem BV  (hp : True) : OK 27 ([.nilptr]) ([]) (.tuple [.str [], .int .i64 9]) (none) := by
 refine ah (C := cx []) (ai trivial) (fn := Tryz.f27) rfl rfl rfl rfl fun hw hs => ?_
 all_goals try conv => whnf
 all_goals try (refine a7.mk ?_; try dsimp only)
 all_goals try refine stay ?_
 refine a6.mk [] ?_ <;> (repeat' first | trivial)
theorem BW (w : CS) (hp : True) : OK 27 ([.ptr 0 0]) (b6 w) (.tuple [.str w.done.1, .int .i64 w.done.2]) (none) := by
 refine ah (C := cx []) (ai trivial) (fn := Tryz.f27) rfl rfl rfl rfl fun hw hs => ?_
 have e1 : (w.l.map eP).length = w.l.length := by simp
 repeat' ((conv => whnf); first | apply ax | (apply ae <;> intro h) | apply goI)
 all_goals try conv => whnf
 all_goals try (refine a7.mk ?_; try dsimp only)
 all_goals try refine stay ?_
 all_goals
  have he : w.done = w.done := rfl
  conv at he => rhs; unfold CS.done
  repeat (first | rw [if_pos (by first | assumption | omega | (simp [*]; done) | (simp; omega))] at he | rw [if_neg (by first | omega | (intro hh; rcases hh with hh | hh; (· omega); (· simp_all)))] at he)
  rw [he]
  refine a6.mk [] ?_ <;> (repeat' first | trivial)
def qm : Sm := fun args σ => match args, σ with
 | [.nilptr], [] => some (True, .tuple [.str [], .int .i64 9], none)
 | [.ptr 0 0], [.cells [.buf 1, .buf 2, .int .i64 c_w], .buf 1 0 o_w, .buf 4 0 l_w] => some (du o_w l_w ∧ (True), .tuple [.str (aX o_w l_w c_w).done.1, .int .i64 (aX o_w l_w c_w).done.2], none)
 | _, _ => none
theorem x8 : a9 27 qm := by
 intro args sg pre x r he hp
 unfold qm at he
 split at he <;> cases he
 . exact BV (hp := hp) ..
 . rw [fh (hp).1]; exact BW (hp := hp.2) ..
theorem C3  (hp : True) : OK 25 ([]) ([]) (.ptr 0 0) (some (b6 .new)) := by
 refine ah (C := cx []) (ai trivial) (fn := Tryz.f25) rfl rfl rfl rfl fun hw hs => ?_
 all_goals try conv => whnf
 all_goals try (refine a7.mk ?_; try dsimp only)
 all_goals try refine stay ?_
 refine a6.mk [.cell 0 0 1, .cell 0 1 4] ?_ <;> (repeat' first | trivial)
def qn : Sm := fun args σ => match args, σ with
 | [], [] => some (True, .ptr 0 0, some (b6 .new))
 | _, _ => none
theorem x9 : a9 25 qn := by
 intro args sg pre x r he hp
 unfold qn at he
 split at he <;> cases he
 . exact C3 (hp := hp) ..
end Go.Proofs.YtipejldppicijaaGreatDoor
