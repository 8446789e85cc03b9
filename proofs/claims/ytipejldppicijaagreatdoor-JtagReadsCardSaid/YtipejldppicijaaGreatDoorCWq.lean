/-
  A part of the proof.
-/
import Derived.Test.YtipejldppicijaaGreatDoorCWp
set_option linter.unusedSimpArgs false
set_option linter.unusedVariables false
set_option maxHeartbeats 4000000
namespace Go.Proofs.YtipejldppicijaaGreatDoor
open Go Go.VG
set_option maxRecDepth 100000
theorem G7 {last id : Int} {k : UInt8} : (l5 last id k).length ≤ 11 := by
 unfold l5
 split
 . simp
 . split
   . simp
   . rename_i h1 _
     have := iy (u := iA id) (by have := re (n := id) (by omega); omega)
     simp; omega
theorem ym {n : Int} {k : UInt8} : (l6 n k).length ≤ 11 := by
 unfold l6
 split
 . simp
 . split
   . simp
   . rename_i h1 _
     have := iy (u := n.toNat) (by omega)
     simp; omega
theorem gm (w : CS) (id k : Int) : (w.may id k).1.out.length ≤ w.out.length + 11 ∧ (w.may id k).1.l.length = w.l.length := by
 have := @G7 w.top.last id (byte k)
 unfold CS.may CS.jZ
 repeat' split
 all_goals (constructor <;> simp)
 all_goals omega
theorem fY {w : CS} {id k : Int} (h : (w.may id k).2 = true) : (w.may id k).1.code = 0 ∧ ¬ (w.may id k).1.l.length = 0 ∧ w.code = 0 := by
 rw [(gm w id k).2]
 revert h
 unfold CS.may CS.jZ
 repeat' split
 all_goals simp_all
theorem BU (w : CS) (p : Pl) (hp : w.out.length ≤ 1900000000 ∧ w.l.length ≤ 900) : OK 101 ([.ptr 0 0, eP p]) (b6 w) (.tuple []) (some (b6 (w.begin p))) := by
 refine ah (C := cx []) (ai trivial) (fn := Tryz.f101) rfl rfl rfl rfl fun hw hs => ?_
 have e1 : (w.l.map eP).length = w.l.length := by simp
 repeat' ((conv => whnf); apply ab)
 all_goals try conv => whnf
 all_goals try (refine a7.mk ?_; try dsimp only)
 all_goals first | refine stay ?_ | trivial | (simp only [fX]; omega) | (simp (discharger := omega) [-List.getD_eq_getElem?_getD, wR] <;> omega) | skip
 all_goals first
  | (show a6 _ _ _ _ _ _
     refine a6.mk [.swap 2 4] ?_ <;> (repeat' first | trivial | apply ak | apply bI)
     all_goals simp [CS.begin])
  | skip
def ql : Sm := fun args σ => match args, σ with
 | [.ptr 0 0, .agg [.bool b_p, .int .i64 m_p, .int .i64 n_p, .int .u8 k_p]], [.cells [.buf 1, .buf 2, .int .i64 c_w], .buf 1 0 o_w, .buf 4 0 l_w] => some (True ∧ (du o_w l_w ∧ ((aX o_w l_w c_w).out.length ≤ 1900000000 ∧ (aX o_w l_w c_w).l.length ≤ 900)), .tuple [], some (b6 ((aX o_w l_w c_w).begin (Pl.mk b_p m_p n_p k_p))))
 | _, _ => none
theorem x7 : a9 101 ql := by
 intro args sg pre x r he hp
 unfold ql at he
 split at he <;> cases he
 . rw [viewP (hp).1]; rw [fh (hp.2).1]; exact BU (hp := hp.2.2) ..
theorem BZ (w : CS) (id : Int) (b : Bool) (hp : w.out.length ≤ 1800000000 ∧ w.l.length ≤ 900) : OK 61 ([.ptr 0 0, .int .i64 id, .bool b]) (b6 w) (.tuple []) (some (b6 (w.flag id b))) := by
 refine ah (C := cx [(100, lh), (103, mC)]) (ai ⟨nC, pG, trivial⟩) (fn := Tryz.f61) rfl rfl rfl rfl fun hw hs => ?_
 have e1 : (w.l.map eP).length = w.l.length := by simp
 have m1 := gm w id 1
 have m2 := gm w id 2
 repeat' ((conv => whnf); first | apply ab | (apply aV <;> intro h) | with_reducible (first | refine rG (fun h => ?_) fun h => ?_ | refine se ?_ ?_))
 all_goals try conv => whnf
 all_goals try (refine a7.mk ?_; try dsimp only)
 all_goals try refine stay ?_
 all_goals (try simp only [ep, dL, cond_true, Int.toNat_natCast, List.length_append, List.length_map, List.length_singleton] at *)
 all_goals first
  | (show a6 _ _ _ _ _ _
     skip)
  | exact ⟨bU (by omega) (by omega), trivial⟩
  | exact ⟨bU (by omega) (by omega), by omega, by omega⟩
  | exact ⟨bU (by omega) (by omega), by omega⟩
  | omega
  | exact ⟨by omega, by omega⟩
  | exact (fY (by assumption)).2.1 (by assumption)
  | (have := (fY (by assumption)).2.1; omega)
  | skip
 all_goals
  show a6 _ _ _ _ _ _
  unfold CS.flag
  repeat (first | rw [if_pos (by first | assumption | omega)] | rw [if_neg (by first | assumption | omega | exact gM (by assumption))])
 all_goals
  show a6 _ _ _ _ _ _
  unfold CS.pw
  repeat (first | rw [if_pos (by first | assumption | omega)] | rw [if_neg (by first | assumption | omega | exact gM (by assumption))])
 all_goals
  refine a6.mk [] ?_ <;> (repeat' first | trivial | apply ak | apply bI)
 all_goals (first | rfl | simp [fq, bl, bv, byte])
def tJ : Sm := fun args σ => match args, σ with
 | [.ptr 0 0, .int .i64 id, .bool b], [.cells [.buf 1, .buf 2, .int .i64 c_w], .buf 1 0 o_w, .buf 4 0 l_w] => some (du o_w l_w ∧ ((aX o_w l_w c_w).out.length ≤ 1800000000 ∧ (aX o_w l_w c_w).l.length ≤ 900), .tuple [], some (b6 ((aX o_w l_w c_w).flag id b)))
 | _, _ => none
theorem Ew : a9 61 tJ := by
 intro args sg pre x r he hp
 unfold tJ at he
 split at he <;> cases he
 . rw [fh (hp).1]; exact BZ (hp := hp.2) ..
theorem C7 (w : CS) (id : Int) (s : List UInt8) (hp : (w.out.length ≤ 1800000000 ∧ w.l.length ≤ 900) ∧ s.length ≤ 90000000) : OK 58 ([.ptr 0 0, .int .i64 id, .str s]) (b6 w) (.tuple []) (some (b6 (w.put id 8 (cg s.length ++ s)))) := by
 refine ah (C := cx [(100, lh), (116, mK)]) (ai ⟨nC, pM, trivial⟩) (fn := Tryz.f58) rfl rfl rfl rfl fun hw hs => ?_
 have e1 : (w.l.map eP).length = w.l.length := by simp
 have m1 := gm w id 8
 have hu : IntKind.u64.wrap s.length = s.length := by (simp (discharger := omega) only [wR]; omega)
 have hv := iy (u := s.length) (by omega)
 repeat' ((conv => whnf); first | apply ab | (apply aV <;> intro h))
 all_goals try conv => whnf
 all_goals try (refine a7.mk ?_; try dsimp only)
 all_goals (try simp only [hu] at *)
 all_goals try refine stay ?_
 all_goals (try simp only [ep, dL, cond_true, Int.toNat_natCast, List.length_append, List.length_map, List.length_singleton] at *)
 all_goals first
  | (show a6 _ _ _ _ _ _
     skip)
  | exact ⟨bU (by omega) (by omega), trivial⟩
  | exact ⟨bU (by omega) (by omega), by omega, by omega⟩
  | exact ⟨bU (by omega) (by omega), by omega⟩
  | omega
  | exact ⟨by omega, by omega⟩
  | exact (fY (by assumption)).2.1 (by assumption)
  | (have := (fY (by assumption)).2.1; omega)
  | skip
 all_goals
  show a6 _ _ _ _ _ _
  unfold CS.put
  repeat (first | rw [if_pos (by first | assumption | omega)] | rw [if_neg (by first | assumption | omega | exact gM (by assumption))])
 all_goals first
  | (refine a6.mk [] ?_ <;> (repeat' first | trivial | rfl | exact fw _ _ | apply ak | apply dp | apply az | apply cQ | apply bI | apply dz | apply er | apply dq | apply bT | apply bo)
     all_goals (first | rfl | simp [fq]; done))
  | (refine a6.mk [.swap 1 3] ?_ <;> (repeat' first | trivial | rfl | exact fw _ _ | apply ak | apply dp | apply az | apply cQ | apply bI | apply dz | apply er | apply dq | apply bT | apply bo)
     all_goals (first | rfl | simp [fq]))
def tL : Sm := fun args σ => match args, σ with
 | [.ptr 0 0, .int .i64 id, .str s], [.cells [.buf 1, .buf 2, .int .i64 c_w], .buf 1 0 o_w, .buf 4 0 l_w] => some (du o_w l_w ∧ (((aX o_w l_w c_w).out.length ≤ 1800000000 ∧ (aX o_w l_w c_w).l.length ≤ 900) ∧ s.length ≤ 90000000), .tuple [], some (b6 ((aX o_w l_w c_w).put id 8 (cg s.length ++ s))))
 | _, _ => none
theorem Ez : a9 58 tL := by
 intro args sg pre x r he hp
 unfold tL at he
 split at he <;> cases he
 . rw [fh (hp).1]; exact C7 (hp := hp.2) ..
end Go.Proofs.YtipejldppicijaaGreatDoor
