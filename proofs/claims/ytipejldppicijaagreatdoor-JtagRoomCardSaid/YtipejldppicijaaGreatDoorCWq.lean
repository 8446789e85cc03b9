/-
  A part of the proof.
-/
import Derived.Test.YtipejldppicijaaGreatDoorCWp
set_option linter.unusedSimpArgs false
set_option linter.unusedVariables false
set_option maxHeartbeats 4000000
namespace Go.Proofs.YtipejldppicijaaGreatDoor
open Go Go.VG
set_option maxRecDepth 100000
theorem GQ {last id : Int} {k : UInt8} : (bQ last id k).length ≤ 11 := by
 unfold bQ
 split
 . simp
 . split
   . simp
   . rename_i h1 _
     have := fh (u := fj id) (by have := nA (n := id) (by omega); omega)
     simp; omega
theorem yU {n : Int} {k : UInt8} : (lB n k).length ≤ 11 := by
 unfold lB
 split
 . simp
 . split
   . simp
   . rename_i h1 _
     have := fh (u := n.toNat) (by omega)
     simp; omega
theorem fZ (w : CS) (id k : Int) : (w.may id k).1.out.length ≤ w.out.length + 11 ∧ (w.may id k).1.l.length = w.l.length := by
 have := @GQ w.top.last id (byte k)
 unfold CS.may CS.kj
 repeat' split
 all_goals (constructor <;> simp)
 all_goals omega
theorem eU {w : CS} {id k : Int} (h : (w.may id k).2 = true) : (w.may id k).1.code = 0 ∧ ¬ (w.may id k).1.l.length = 0 ∧ w.code = 0 := by
 rw [(fZ w id k).2]
 revert h
 unfold CS.may CS.kj
 repeat' split
 all_goals simp_all
theorem Co (w : CS) (p : Pl) (hp : w.out.length ≤ 1900000000 ∧ w.l.length ≤ 900) : OK 101 ([.ptr 0 0, eP p]) (aM w) (.tuple []) (some (aM (w.begin p))) := by
 refine ai (C := cx []) (aj trivial) (fn := Tryz.f101) rfl rfl rfl rfl fun hw hs => ?_
 have e1 : (w.l.map eP).length = w.l.length := by simp
 repeat' ((conv => whnf); apply a9)
 all_goals try conv => whnf
 all_goals try (refine a8.mk ?_; try dsimp only)
 all_goals first | refine stay ?_ | trivial | (simp only [aV]; omega) | (simp (discharger := omega) [-List.getD_eq_getElem?_getD, wR] <;> omega) | skip
 all_goals first
  | (show a7 _ _ _ _ _ _
     refine a7.mk [.swap 2 4] ?_ <;> (repeat' first | trivial | apply ah | apply aG)
     all_goals simp [CS.begin])
  | skip
def rk : Sm := fun args σ => match args, σ with
 | [.ptr 0 0, .agg [.bool b_p, .int .i64 m_p, .int .i64 n_p, .int .u8 k_p]], [.cells [.buf 1, .buf 2, .int .i64 c_w], .buf 1 0 o_w, .buf 4 0 l_w] => some (True ∧ (d7 o_w l_w ∧ ((aU o_w l_w c_w).out.length ≤ 1900000000 ∧ (aU o_w l_w c_w).l.length ≤ 900)), .tuple [], some (aM ((aU o_w l_w c_w).begin (Pl.mk b_p m_p n_p k_p))))
 | _, _ => none
theorem xL : aa 101 rk := by
 intro args sg pre x r he hp
 unfold rk at he
 split at he <;> cases he
 . rw [viewP (hp).1]; rw [ee (hp.2).1]; exact Co (hp := hp.2.2) ..
theorem Cw (w : CS) (id : Int) (b : Bool) (hp : w.out.length ≤ 1800000000 ∧ w.l.length ≤ 900) : OK 61 ([.ptr 0 0, .int .i64 id, .bool b]) (aM w) (.tuple []) (some (aM (w.flag id b))) := by
 refine ai (C := cx [(100, jc), (103, nj)]) (aj ⟨ll, qC, trivial⟩) (fn := Tryz.f61) rfl rfl rfl rfl fun hw hs => ?_
 have e1 : (w.l.map eP).length = w.l.length := by simp
 have m1 := fZ w id 1
 have m2 := fZ w id 2
 repeat' ((conv => whnf); first | apply a9 | (apply bE <;> intro h) | with_reducible (first | refine sl (fun h => ?_) fun h => ?_ | refine sR ?_ ?_))
 all_goals try conv => whnf
 all_goals try (refine a8.mk ?_; try dsimp only)
 all_goals try refine stay ?_
 all_goals (try simp only [bu, bC, cond_true, Int.toNat_natCast, List.length_append, List.length_map, List.length_singleton] at *)
 all_goals first
  | (show a7 _ _ _ _ _ _
     skip)
  | exact ⟨aP (by omega) (by omega), trivial⟩
  | exact ⟨aP (by omega) (by omega), by omega, by omega⟩
  | exact ⟨aP (by omega) (by omega), by omega⟩
  | omega
  | exact ⟨by omega, by omega⟩
  | exact (eU (by assumption)).2.1 (by assumption)
  | (have := (eU (by assumption)).2.1; omega)
  | skip
 all_goals
  show a7 _ _ _ _ _ _
  unfold CS.flag
  repeat (first | rw [if_pos (by first | assumption | omega)] | rw [if_neg (by first | assumption | omega | exact gw (by assumption))])
 all_goals
  show a7 _ _ _ _ _ _
  unfold CS.mB
  repeat (first | rw [if_pos (by first | assumption | omega)] | rw [if_neg (by first | assumption | omega | exact gw (by assumption))])
 all_goals
  refine a7.mk [] ?_ <;> (repeat' first | trivial | apply ah | apply aG)
 all_goals (first | rfl | simp [cq, bl, bv, byte])
def kt : Sm := fun args σ => match args, σ with
 | [.ptr 0 0, .int .i64 id, .bool b], [.cells [.buf 1, .buf 2, .int .i64 c_w], .buf 1 0 o_w, .buf 4 0 l_w] => some (d7 o_w l_w ∧ ((aU o_w l_w c_w).out.length ≤ 1800000000 ∧ (aU o_w l_w c_w).l.length ≤ 900), .tuple [], some (aM ((aU o_w l_w c_w).flag id b)))
 | _, _ => none
theorem mO : aa 61 kt := by
 intro args sg pre x r he hp
 unfold kt at he
 split at he <;> cases he
 . rw [ee (hp).1]; exact Cw (hp := hp.2) ..
theorem Cr (id b : Int) (hp : True) : OK 60 ([.nilptr, .int .i64 id, .int .u64 b]) ([]) (.tuple []) (none) := by
 refine ai (C := cx [(100, jc), (119, rE)]) (aj ⟨ll, y4, trivial⟩) (fn := Tryz.f60) rfl rfl rfl rfl fun hw hs => ?_
 repeat' ((conv => whnf); apply a9)
 all_goals try conv => whnf
 all_goals try (refine a8.mk ?_; try dsimp only)
 all_goals try refine stay ?_
 refine a7.mk [] ?_ <;> (repeat' first | trivial)
theorem Cs (w : CS) (id b : Int) (hp : w.out.length ≤ 1800000000 ∧ w.l.length ≤ 900) : OK 60 ([.ptr 0 0, .int .i64 id, .int .u64 b]) (aM w) (.tuple []) (some (aM (w.put id 7 (low 8 b.toNat)))) := by
 refine ai (C := cx [(100, jc), (119, rE)]) (aj ⟨ll, y4, trivial⟩) (fn := Tryz.f60) rfl rfl rfl rfl fun hw hs => ?_
 have e1 : (w.l.map eP).length = w.l.length := by simp
 have m1 := fZ w id 7
 have hb : 0 ≤ b ∧ b ≤ 18446744073709551615 := hw.2.2.1
 repeat' ((conv => whnf); first | apply a9 | (apply bE <;> intro h))
 all_goals try conv => whnf
 all_goals try (refine a8.mk ?_; try dsimp only)
 all_goals try refine stay ?_
 all_goals (try simp only [bu, bC, cond_true, Int.toNat_natCast, List.length_append, List.length_map, List.length_singleton] at *)
 all_goals first
  | (show a7 _ _ _ _ _ _
     skip)
  | exact ⟨aP (by omega) (by omega), trivial⟩
  | exact ⟨aP (by omega) (by omega), by omega, by omega⟩
  | exact ⟨aP (by omega) (by omega), by omega⟩
  | omega
  | exact ⟨by omega, by omega⟩
  | exact (eU (by assumption)).2.1 (by assumption)
  | (have := (eU (by assumption)).2.1; omega)
  | skip
 all_goals
  show a7 _ _ _ _ _ _
  unfold CS.put
  repeat (first | rw [if_pos (by first | assumption | omega)] | rw [if_neg (by first | assumption | omega | exact gw (by assumption))])
 all_goals first
  | (refine a7.mk [] ?_ <;> (repeat' first | trivial | rfl | exact cZ _ _ | apply ah | apply b9 | apply ax | apply ct | apply aG | apply cf | apply cY | apply de | apply cg | apply aX)
     all_goals (first | rfl | simp [cq]; done))
  | (refine a7.mk [.swap 1 3] ?_ <;> (repeat' first | trivial | rfl | exact cZ _ _ | apply ah | apply b9 | apply ax | apply ct | apply aG | apply cf | apply cY | apply de | apply cg | apply aX)
     all_goals (first | rfl | simp [cq]))
def lN : Sm := fun args σ => match args, σ with
 | [.nilptr, .int .i64 id, .int .u64 b], [] => some (True, .tuple [], none)
 | [.ptr 0 0, .int .i64 id, .int .u64 b], [.cells [.buf 1, .buf 2, .int .i64 c_w], .buf 1 0 o_w, .buf 4 0 l_w] => some (d7 o_w l_w ∧ ((aU o_w l_w c_w).out.length ≤ 1800000000 ∧ (aU o_w l_w c_w).l.length ≤ 900), .tuple [], some (aM ((aU o_w l_w c_w).put id 7 (low 8 b.toNat))))
 | _, _ => none
theorem og : aa 60 lN := by
 intro args sg pre x r he hp
 unfold lN at he
 split at he <;> cases he
 . exact Cr (hp := hp) ..
 . rw [ee (hp).1]; exact Cs (hp := hp.2) ..
theorem CE (w : CS) (id : Int) (s : List UInt8) (hp : (w.out.length ≤ 1800000000 ∧ w.l.length ≤ 900) ∧ s.length ≤ 90000000) : OK 58 ([.ptr 0 0, .int .i64 id, .str s]) (aM w) (.tuple []) (some (aM (w.put id 8 (aY s.length ++ s)))) := by
 refine ai (C := cx [(100, jc), (116, np)]) (aj ⟨ll, qF, trivial⟩) (fn := Tryz.f58) rfl rfl rfl rfl fun hw hs => ?_
 have e1 : (w.l.map eP).length = w.l.length := by simp
 have m1 := fZ w id 8
 have hu : IntKind.u64.wrap s.length = s.length := by (simp (discharger := omega) only [wR]; omega)
 have hv := fh (u := s.length) (by omega)
 repeat' ((conv => whnf); first | apply a9 | (apply bE <;> intro h))
 all_goals try conv => whnf
 all_goals try (refine a8.mk ?_; try dsimp only)
 all_goals (try simp only [hu] at *)
 all_goals try refine stay ?_
 all_goals (try simp only [bu, bC, cond_true, Int.toNat_natCast, List.length_append, List.length_map, List.length_singleton] at *)
 all_goals first
  | (show a7 _ _ _ _ _ _
     skip)
  | exact ⟨aP (by omega) (by omega), trivial⟩
  | exact ⟨aP (by omega) (by omega), by omega, by omega⟩
  | exact ⟨aP (by omega) (by omega), by omega⟩
  | omega
  | exact ⟨by omega, by omega⟩
  | exact (eU (by assumption)).2.1 (by assumption)
  | (have := (eU (by assumption)).2.1; omega)
  | skip
 all_goals
  show a7 _ _ _ _ _ _
  unfold CS.put
  repeat (first | rw [if_pos (by first | assumption | omega)] | rw [if_neg (by first | assumption | omega | exact gw (by assumption))])
 all_goals first
  | (refine a7.mk [] ?_ <;> (repeat' first | trivial | rfl | exact cZ _ _ | apply ah | apply b9 | apply ax | apply ct | apply aG | apply cf | apply cY | apply de | apply cg | apply aX)
     all_goals (first | rfl | simp [cq]; done))
  | (refine a7.mk [.swap 1 3] ?_ <;> (repeat' first | trivial | rfl | exact cZ _ _ | apply ah | apply b9 | apply ax | apply ct | apply aG | apply cf | apply cY | apply de | apply cg | apply aX)
     all_goals (first | rfl | simp [cq]))
def kx : Sm := fun args σ => match args, σ with
 | [.ptr 0 0, .int .i64 id, .str s], [.cells [.buf 1, .buf 2, .int .i64 c_w], .buf 1 0 o_w, .buf 4 0 l_w] => some (d7 o_w l_w ∧ (((aU o_w l_w c_w).out.length ≤ 1800000000 ∧ (aU o_w l_w c_w).l.length ≤ 900) ∧ s.length ≤ 90000000), .tuple [], some (aM ((aU o_w l_w c_w).put id 8 (aY s.length ++ s))))
 | _, _ => none
theorem mQ : aa 58 kx := by
 intro args sg pre x r he hp
 unfold kx at he
 split at he <;> cases he
 . rw [ee (hp).1]; exact CE (hp := hp.2) ..
end Go.Proofs.YtipejldppicijaaGreatDoor
