/-
  A part of the proof.
-/
import Derived.Test.YtipejldppicijaaGreatDoorCWm
set_option linter.unusedSimpArgs false
set_option linter.unusedVariables false
set_option maxHeartbeats 4000000
namespace Go.Proofs.YtipejldppicijaaGreatDoor
open Go Go.VG
set_option maxRecDepth 100000
theorem Ga (w : CS) (c : Int) (hp : True) : OK 99 ([.ptr 0 0, .int .i64 c]) (aN w) (.tuple []) (some (aN (w.fail c))) := by
 refine af (C := cx []) (ah trivial) (fn := Tryz.f99) rfl rfl rfl rfl fun hw hs => ?_
 repeat' ((conv => whnf); (apply al <;> intro h))
 all_goals try conv => whnf
 all_goals try (refine a8.mk ?_; try dsimp only)
 all_goals try refine stay ?_
 all_goals
  unfold CS.fail
  first | rw [if_pos (by assumption)] | rw [if_neg (by assumption)]
  refine a7.mk [] ?_ <;> (repeat' first | trivial)
def lB : Sm := fun args σ => match args, σ with
 | [.ptr 0 0, .int .i64 c], [.cells [.buf 1, .buf 2, .int .i64 c_w], .buf 1 0 o_w, .buf 4 0 l_w] => some (dk o_w l_w ∧ (True), .tuple [], some (aN ((b9 o_w l_w c_w).fail c)))
 | _, _ => none
theorem nS : aa 99 lB := by
 intro args sg pre x r he hp
 unfold lB at he
 split at he <;> cases he
 . rw [eL (hp).1]; exact Ga (hp := hp.2) ..
theorem Gg  (hp : True) : OK 98 ([.nilptr]) ([]) (.bool false) (none) := by
 refine af (C := cx []) (ah trivial) (fn := Tryz.f98) rfl rfl rfl rfl fun hw hs => ?_
 all_goals try conv => whnf
 all_goals try (refine a8.mk ?_; try dsimp only)
 all_goals try refine stay ?_
 refine a7.mk [] ?_ <;> (repeat' first | trivial)
theorem Gi (w : CS) (hp : True) : OK 98 ([.ptr 0 0]) (aN w) (.bool (w.code == 0)) (none) := by
 refine af (C := cx []) (ah trivial) (fn := Tryz.f98) rfl rfl rfl rfl fun hw hs => ?_
 all_goals try conv => whnf
 all_goals try (refine a8.mk ?_; try dsimp only)
 all_goals try refine stay ?_
 all_goals
  refine a7.mk [] ?_ <;> (repeat' first | trivial)
def lD : Sm := fun args σ => match args, σ with
 | [.nilptr], [] => some (True, .bool false, none)
 | [.ptr 0 0], [.cells [.buf 1, .buf 2, .int .i64 c_w], .buf 1 0 o_w, .buf 4 0 l_w] => some (dk o_w l_w ∧ (True), .bool ((b9 o_w l_w c_w).code == 0), none)
 | _, _ => none
theorem nU : aa 98 lD := by
 intro args sg pre x r he hp
 unfold lD at he
 split at he <;> cases he
 . exact Gg (hp := hp) ..
 . rw [eL (hp).1]; exact Gi (hp := hp.2) ..
theorem Gl (w : CS) (hp : w.l.length ≤ 1000) : OK 103 ([.ptr 0 0]) (aN w) (if w.l.length = 0 then .nilptr else .bptr 2 (w.l.length - 1) 0) (none) := by
 refine af (C := cx []) (ah trivial) (fn := Tryz.f103) rfl rfl rfl rfl fun hw hs => ?_
 have e1 : (w.l.map eP).length = w.l.length := by simp
 repeat' ((conv => whnf); first | apply a9 | (apply al <;> intro h))
 all_goals try conv => whnf
 all_goals try (refine a8.mk ?_; try dsimp only)
 all_goals first | refine stay ?_ | (simp (discharger := omega) only [wR]; omega) | skip
 all_goals first
  | (show a7 _ _ _ _ _ _
     simp only [List.length_map] at *
     first | rw [if_pos (by omega)] | rw [if_neg (by omega)]
     refine a7.mk [] ?_ <;> (repeat' first | trivial | apply ab)
     all_goals first
      | (rw [show (IntKind.i64.wrap (↑w.l.length - 1)).toNat = w.l.length - 1 by (simp (discharger := omega) only [wR]; omega)]; rfl)
      | rfl
    )
  | skip
def oz : Sm := fun args σ => match args, σ with
 | [.ptr 0 0], [.cells [.buf 1, .buf 2, .int .i64 c_w], .buf 1 0 o_w, .buf 4 0 l_w] => some (dk o_w l_w ∧ ((b9 o_w l_w c_w).l.length ≤ 1000), if (b9 o_w l_w c_w).l.length = 0 then .nilptr else .bptr 2 ((b9 o_w l_w c_w).l.length - 1) 0, none)
 | _, _ => none
theorem rZ : aa 103 oz := by
 intro args sg pre x r he hp
 unfold oz at he
 split at he <;> cases he
 . rw [eL (hp).1]; exact Gl (hp := hp.2) ..
theorem Gd (id k : Int) (hp : True) : OK 100 ([.nilptr, .int .i64 id, .int .u8 k]) ([]) (.bool false) (none) := by
 refine af (C := cx [(98, lD), (103, oz), (99, lB), (62, mQ), (133, sT)]) (ah ⟨nU, rZ, nS, pK, An, trivial⟩) (fn := Tryz.f100) rfl rfl rfl rfl fun hw hs => ?_
 repeat' ((conv => whnf); apply a9)
 all_goals try conv => whnf
 all_goals try (refine a8.mk ?_; try dsimp only)
 all_goals try refine stay ?_
 refine a7.mk [] ?_ <;> (repeat' first | trivial)
theorem Ge (w : CS) (id k : Int) (hp : w.out.length ≤ 1900000000 ∧ w.l.length ≤ 1000) : OK 100 ([.ptr 0 0, .int .i64 id, .int .u8 k]) (aN w) (.bool (w.may id k).2) (some (aN (w.may id k).1)) := by
  refine af (C := cx [(98, lD), (103, oz), (99, lB), (62, mQ), (133, sT)]) (ah ⟨nU, rZ, nS, pK, An, trivial⟩) (fn := Tryz.f100) rfl rfl rfl rfl fun hw hs => ?_
  have e1 : (w.l.map eP).length = w.l.length := by simp
  have hkd := N1 hs
  have hk : 0 ≤ k ∧ k ≤ 255 := hw.2.2.1
  repeat' ((conv => whnf); first | apply a9 | apply aJ | ((first | apply al | apply bu) <;> intro h) | with_reducible (first | refine uB (fun h => ?_) fun h => ?_ | refine pH ?_ ?_))
  all_goals try conv => whnf
  all_goals try (refine a8.mk ?_; try dsimp only)
  all_goals first | refine stay ?_ | omega | (simp only [aW]; omega) | skip
  all_goals (try rw [bD] at *)
  all_goals first
   | exact ⟨aR (by omega) (by omega), trivial⟩
   | exact ⟨aR (by omega) (by omega), by omega⟩
   | omega
   | (have hkd := hkd (by omega); exact ⟨⟨by omega, by omega⟩, ⟨by omega, by omega⟩, trivial⟩)
   | (refine ⟨⟨by omega, by omega⟩, ?_⟩; rw [bN]; omega)
   | skip
  all_goals first
   | (show a7   _ _ _ _ _ _
      try simp only [List.length_append, bN] at *
      try rw [jE (by assumption)]
      have he : w.may id k = w.may id k := rfl
      conv at he => rhs; unfold CS.may
      repeat (first | rw [if_pos (by first | assumption | omega | exact jV.2 (by assumption))] at he | rw [if_neg (by first | assumption | omega | exact fO (by assumption) | exact fun q => absurd (jV.1 q) (by assumption))] at he)
      rw [he]
      first
       | (refine a7.mk [] ?_ <;> (repeat' first | trivial | rfl | exact cZ _ _ | apply ab | apply aV | apply au | apply bX | apply aE | apply cw | apply cJ | apply cK | apply bZ | apply aM)
          all_goals first
           | rfl
           | (show (List.map eP w.l).set _ _ = List.map eP (CS.gO w _).l
              simp only [CS.gO, List.map_set]
              done))
       | (refine a7.mk [.swap 1 3] ?_ <;> (repeat' first | trivial | rfl | exact cZ _ _ | apply ab | apply aV | apply au | apply bX | apply aE | apply cw | apply cJ | apply cK | apply bZ | apply aM)
          all_goals first
           | rfl
           | (show (List.map eP w.l).set _ _ = List.map eP (CS.gO w _).l
              simp only [CS.gO, List.map_set]
              done)
           | (show bl _ ++ bl _ = bl _
              rw [← cN]
              done)))
   | skip
def jY : Sm := fun args σ => match args, σ with
 | [.nilptr, .int .i64 id, .int .u8 k], [] => some (True, .bool false, none)
 | [.ptr 0 0, .int .i64 id, .int .u8 k], [.cells [.buf 1, .buf 2, .int .i64 c_w], .buf 1 0 o_w, .buf 4 0 l_w] => some (dk o_w l_w ∧ ((b9 o_w l_w c_w).out.length ≤ 1900000000 ∧ (b9 o_w l_w c_w).l.length ≤ 1000), .bool ((b9 o_w l_w c_w).may id k).2, some (aN ((b9 o_w l_w c_w).may id k).1))
 | _, _ => none
theorem my : aa 100 jY := by
 intro args sg pre x r he hp
 unfold jY at he
 split at he <;> cases he
 . exact Gd (hp := hp) ..
 . rw [eL (hp).1]; exact Ge (hp := hp.2) ..
end Go.Proofs.YtipejldppicijaaGreatDoor
namespace Go.Proofs.YtipejldppicijaaGreatDoor
open Go Go.VG
set_option maxRecDepth 100000
theorem BW {last id : Int} {k : UInt8} : (b6 last id k).length ≤ 11 := by
 unfold b6
 split
 . simp
 . split
   . simp
   . rename_i h1 _
     have := dM (u := cA id) (by have := iz (n := id) (by omega); omega)
     simp; omega
theorem sw {n : Int} {k : UInt8} : (c9 n k).length ≤ 11 := by
 unfold c9
 split
 . simp
 . split
   . simp
   . rename_i h1 _
     have := dM (u := n.toNat) (by omega)
     simp; omega
theorem fP (w : CS) (id k : Int) : (w.may id k).1.out.length ≤ w.out.length + 11 ∧ (w.may id k).1.l.length = w.l.length := by
 have := @BW w.top.last id (byte k)
 unfold CS.may CS.gO
 repeat' split
 all_goals (constructor <;> simp)
 all_goals omega
theorem fu {w : CS} {id k : Int} (h : (w.may id k).2 = true) : (w.may id k).1.code = 0 ∧ ¬ (w.may id k).1.l.length = 0 ∧ w.code = 0 := by
 rw [(fP w id k).2]
 revert h
 unfold CS.may CS.gO
 repeat' split
 all_goals simp_all
theorem G4 (w : CS) (p : Pl) (hp : w.out.length ≤ 1900000000 ∧ w.l.length ≤ 900) : OK 101 ([.ptr 0 0, eP p]) (aN w) (.tuple []) (some (aN (w.begin p))) := by
 refine af (C := cx []) (ah trivial) (fn := Tryz.f101) rfl rfl rfl rfl fun hw hs => ?_
 have e1 : (w.l.map eP).length = w.l.length := by simp
 repeat' ((conv => whnf); apply a9)
 all_goals try conv => whnf
 all_goals try (refine a8.mk ?_; try dsimp only)
 all_goals first | refine stay ?_ | trivial | (simp only [aW]; omega) | (simp (discharger := omega) [-List.getD_eq_getElem?_getD, wR] <;> omega) | skip
 all_goals first
  | (show a7 _ _ _ _ _ _
     refine a7.mk [.swap 2 4] ?_ <;> (repeat' first | trivial | apply ab | apply aE)
     all_goals simp [CS.begin])
  | skip
def sW : Sm := fun args σ => match args, σ with
 | [.ptr 0 0, .agg [.bool b_p, .int .i64 m_p, .int .i64 n_p, .int .u8 k_p]], [.cells [.buf 1, .buf 2, .int .i64 c_w], .buf 1 0 o_w, .buf 4 0 l_w] => some (True ∧ (dk o_w l_w ∧ ((b9 o_w l_w c_w).out.length ≤ 1900000000 ∧ (b9 o_w l_w c_w).l.length ≤ 900)), .tuple [], some (aN ((b9 o_w l_w c_w).begin (Pl.mk b_p m_p n_p k_p))))
 | _, _ => none
theorem Ap : aa 101 sW := by
 intro args sg pre x r he hp
 unfold sW at he
 split at he <;> cases he
 . rw [Dw (hp).1]; rw [eL (hp.2).1]; exact G4 (hp := hp.2.2) ..
theorem Gb (w : CS) (id : Int) (b : Bool) (hp : w.out.length ≤ 1800000000 ∧ w.l.length ≤ 900) : OK 61 ([.ptr 0 0, .int .i64 id, .bool b]) (aN w) (.tuple []) (some (aN (w.flag id b))) := by
 refine af (C := cx [(100, jY), (103, oz)]) (ah ⟨my, rZ, trivial⟩) (fn := Tryz.f61) rfl rfl rfl rfl fun hw hs => ?_
 have e1 : (w.l.map eP).length = w.l.length := by simp
 have m1 := fP w id 1
 have m2 := fP w id 2
 repeat' ((conv => whnf); first | apply a9 | (apply bu <;> intro h) | with_reducible (first | refine uB (fun h => ?_) fun h => ?_ | refine pH ?_ ?_))
 all_goals try conv => whnf
 all_goals try (refine a8.mk ?_; try dsimp only)
 all_goals try refine stay ?_
 all_goals (try simp only [bD, bN, cond_true, Int.toNat_natCast, List.length_append, List.length_map, List.length_singleton] at *)
 all_goals first
  | (show a7 _ _ _ _ _ _
     skip)
  | exact ⟨aR (by omega) (by omega), trivial⟩
  | exact ⟨aR (by omega) (by omega), by omega, by omega⟩
  | exact ⟨aR (by omega) (by omega), by omega⟩
  | omega
  | exact ⟨by omega, by omega⟩
  | exact (fu (by assumption)).2.1 (by assumption)
  | (have := (fu (by assumption)).2.1; omega)
  | skip
 all_goals
  show a7 _ _ _ _ _ _
  unfold CS.flag
  repeat (first | rw [if_pos (by first | assumption | omega)] | rw [if_neg (by first | assumption | omega | exact fO (by assumption))])
 all_goals
  show a7 _ _ _ _ _ _
  unfold CS.hC
  repeat (first | rw [if_pos (by first | assumption | omega)] | rw [if_neg (by first | assumption | omega | exact fO (by assumption))])
 all_goals
  refine a7.mk [] ?_ <;> (repeat' first | trivial | apply ab | apply aE)
 all_goals (first | rfl | simp [cN, bl, bv, byte])
def lC : Sm := fun args σ => match args, σ with
 | [.ptr 0 0, .int .i64 id, .bool b], [.cells [.buf 1, .buf 2, .int .i64 c_w], .buf 1 0 o_w, .buf 4 0 l_w] => some (dk o_w l_w ∧ ((b9 o_w l_w c_w).out.length ≤ 1800000000 ∧ (b9 o_w l_w c_w).l.length ≤ 900), .tuple [], some (aN ((b9 o_w l_w c_w).flag id b)))
 | _, _ => none
theorem nT : aa 61 lC := by
 intro args sg pre x r he hp
 unfold lC at he
 split at he <;> cases he
 . rw [eL (hp).1]; exact Gb (hp := hp.2) ..
theorem G7 (id b : Int) (hp : True) : OK 60 ([.nilptr, .int .i64 id, .int .u64 b]) ([]) (.tuple []) (none) := by
 refine af (C := cx [(100, jY), (119, tM)]) (ah ⟨my, AY, trivial⟩) (fn := Tryz.f60) rfl rfl rfl rfl fun hw hs => ?_
 repeat' ((conv => whnf); apply a9)
 all_goals try conv => whnf
 all_goals try (refine a8.mk ?_; try dsimp only)
 all_goals try refine stay ?_
 refine a7.mk [] ?_ <;> (repeat' first | trivial)
theorem G8 (w : CS) (id b : Int) (hp : w.out.length ≤ 1800000000 ∧ w.l.length ≤ 900) : OK 60 ([.ptr 0 0, .int .i64 id, .int .u64 b]) (aN w) (.tuple []) (some (aN (w.put id 7 (low 8 b.toNat)))) := by
 refine af (C := cx [(100, jY), (119, tM)]) (ah ⟨my, AY, trivial⟩) (fn := Tryz.f60) rfl rfl rfl rfl fun hw hs => ?_
 have e1 : (w.l.map eP).length = w.l.length := by simp
 have m1 := fP w id 7
 have hb : 0 ≤ b ∧ b ≤ 18446744073709551615 := hw.2.2.1
 repeat' ((conv => whnf); first | apply a9 | (apply bu <;> intro h))
 all_goals try conv => whnf
 all_goals try (refine a8.mk ?_; try dsimp only)
 all_goals try refine stay ?_
 all_goals (try simp only [bD, bN, cond_true, Int.toNat_natCast, List.length_append, List.length_map, List.length_singleton] at *)
 all_goals first
  | (show a7 _ _ _ _ _ _
     skip)
  | exact ⟨aR (by omega) (by omega), trivial⟩
  | exact ⟨aR (by omega) (by omega), by omega, by omega⟩
  | exact ⟨aR (by omega) (by omega), by omega⟩
  | omega
  | exact ⟨by omega, by omega⟩
  | exact (fu (by assumption)).2.1 (by assumption)
  | (have := (fu (by assumption)).2.1; omega)
  | skip
 all_goals
  show a7 _ _ _ _ _ _
  unfold CS.put
  repeat (first | rw [if_pos (by first | assumption | omega)] | rw [if_neg (by first | assumption | omega | exact fO (by assumption))])
 all_goals first
  | (refine a7.mk [] ?_ <;> (repeat' first | trivial | rfl | exact cZ _ _ | apply ab | apply aV | apply au | apply bX | apply aE | apply cw | apply cJ | apply cK | apply bZ | apply aM)
     all_goals (first | rfl | simp [cN]; done))
  | (refine a7.mk [.swap 1 3] ?_ <;> (repeat' first | trivial | rfl | exact cZ _ _ | apply ab | apply aV | apply au | apply bX | apply aE | apply cw | apply cJ | apply cK | apply bZ | apply aM)
     all_goals (first | rfl | simp [cN]))
def mS : Sm := fun args σ => match args, σ with
 | [.nilptr, .int .i64 id, .int .u64 b], [] => some (True, .tuple [], none)
 | [.ptr 0 0, .int .i64 id, .int .u64 b], [.cells [.buf 1, .buf 2, .int .i64 c_w], .buf 1 0 o_w, .buf 4 0 l_w] => some (dk o_w l_w ∧ ((b9 o_w l_w c_w).out.length ≤ 1800000000 ∧ (b9 o_w l_w c_w).l.length ≤ 900), .tuple [], some (aN ((b9 o_w l_w c_w).put id 7 (low 8 b.toNat))))
 | _, _ => none
theorem pM : aa 60 mS := by
 intro args sg pre x r he hp
 unfold mS at he
 split at he <;> cases he
 . exact G7 (hp := hp) ..
 . rw [eL (hp).1]; exact G8 (hp := hp.2) ..
theorem Gk (w : CS) (id : Int) (s : List UInt8) (hp : (w.out.length ≤ 1800000000 ∧ w.l.length ≤ 900) ∧ s.length ≤ 90000000) : OK 58 ([.ptr 0 0, .int .i64 id, .str s]) (aN w) (.tuple []) (some (aN (w.put id 8 (aF s.length ++ s)))) := by
 refine af (C := cx [(100, jY), (116, oE)]) (ah ⟨my, s6, trivial⟩) (fn := Tryz.f58) rfl rfl rfl rfl fun hw hs => ?_
 have e1 : (w.l.map eP).length = w.l.length := by simp
 have m1 := fP w id 8
 have hu : IntKind.u64.wrap s.length = s.length := by (simp (discharger := omega) only [wR]; omega)
 have hv := dM (u := s.length) (by omega)
 repeat' ((conv => whnf); first | apply a9 | (apply bu <;> intro h))
 all_goals try conv => whnf
 all_goals try (refine a8.mk ?_; try dsimp only)
 all_goals (try simp only [hu] at *)
 all_goals try refine stay ?_
 all_goals (try simp only [bD, bN, cond_true, Int.toNat_natCast, List.length_append, List.length_map, List.length_singleton] at *)
 all_goals first
  | (show a7 _ _ _ _ _ _
     skip)
  | exact ⟨aR (by omega) (by omega), trivial⟩
  | exact ⟨aR (by omega) (by omega), by omega, by omega⟩
  | exact ⟨aR (by omega) (by omega), by omega⟩
  | omega
  | exact ⟨by omega, by omega⟩
  | exact (fu (by assumption)).2.1 (by assumption)
  | (have := (fu (by assumption)).2.1; omega)
  | skip
 all_goals
  show a7 _ _ _ _ _ _
  unfold CS.put
  repeat (first | rw [if_pos (by first | assumption | omega)] | rw [if_neg (by first | assumption | omega | exact fO (by assumption))])
 all_goals first
  | (refine a7.mk [] ?_ <;> (repeat' first | trivial | rfl | exact cZ _ _ | apply ab | apply aV | apply au | apply bX | apply aE | apply cw | apply cJ | apply cK | apply bZ | apply aM)
     all_goals (first | rfl | simp [cN]; done))
  | (refine a7.mk [.swap 1 3] ?_ <;> (repeat' first | trivial | rfl | exact cZ _ _ | apply ab | apply aV | apply au | apply bX | apply aE | apply cw | apply cJ | apply cK | apply bZ | apply aM)
     all_goals (first | rfl | simp [cN]))
def lE : Sm := fun args σ => match args, σ with
 | [.ptr 0 0, .int .i64 id, .str s], [.cells [.buf 1, .buf 2, .int .i64 c_w], .buf 1 0 o_w, .buf 4 0 l_w] => some (dk o_w l_w ∧ (((b9 o_w l_w c_w).out.length ≤ 1800000000 ∧ (b9 o_w l_w c_w).l.length ≤ 900) ∧ s.length ≤ 90000000), .tuple [], some (aN ((b9 o_w l_w c_w).put id 8 (aF s.length ++ s))))
 | _, _ => none
theorem nV : aa 58 lE := by
 intro args sg pre x r he hp
 unfold lE at he
 split at he <;> cases he
 . rw [eL (hp).1]; exact Gk (hp := hp.2) ..
end Go.Proofs.YtipejldppicijaaGreatDoor
