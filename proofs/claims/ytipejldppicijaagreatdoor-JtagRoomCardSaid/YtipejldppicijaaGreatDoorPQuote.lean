/-
  A part of the proof.
-/
import Derived.Test.YtipejldppicijaaGreatDoorPHex
set_option linter.unusedSimpArgs false
set_option linter.unusedVariables false
set_option maxHeartbeats 4000000
namespace Go.Proofs.YtipejldppicijaaGreatDoor
open Go Go.VG
set_option maxRecDepth 100000
theorem Dj (s : List UInt8) (hs : s.length ≤ 100000000) : OK 141 [.str s] [] (.str (quote s)) none := by
 refine ai (C := cx [(144, rv)]) (aj ⟨xT, trivial⟩) (fn := Tryz.f141) rfl rfl rfl rfl fun _ _ => ?_
 refine br.mk Nat (fun i => i ≤ s.length) (fun i => ⟨45, [(0,.str s),(3,.str (34 :: ja (s.take i))),(4,.int .i64 i)], [], []⟩) (fun i => s.length - i) [] 0 (Nat.zero_le _) ?_ (fun i hi _ _ => ?_)
 . refine Go.VG.Sub.mk rfl ?_ ?_ ?_ ?_ <;> (repeat' first | trivial)
 have hcut : (s.take (IntKind.i64.wrap ((i : Int) + 1)).toNat).drop ((i : Int).toNat) = if i < s.length then [s.getD i 0] else (s.take (IntKind.i64.wrap ((i : Int) + 1)).toNat).drop ((i : Int).toNat) := by
  split
  . rw [show (IntKind.i64.wrap ((i : Int) + 1)).toNat = i + 1 by (simp (discharger := omega) only [wR]; omega)]; exact qa 0 (by assumption)
  . rfl
 have hq := tP (s.take i)
 rw [List.length_take] at hq
 repeat' ((conv => whnf); first | apply a9 | (apply ao <;> intro h) | with_reducible refine gn ?_ fun hc => ?_)
 all_goals try conv => whnf
 all_goals try (refine a8.mk ?_; try dsimp only)
 all_goals (try rw [hcut, if_pos (by omega)])
 all_goals first | refine stay ?_ | omega | (simp (discharger := omega) only [wR]; omega) | (simp only [aV, fX]; omega) | skip
 all_goals first
  | (exfalso; omega)
  | (refine ⟨[], i + 1, by omega, ?_, by omega⟩
     refine Go.VG.Sub.mk rfl ?_ ?_ ?_ ?_ <;> (repeat' first | trivial | apply ah | apply b9 | apply ax | apply aX)
     . rw [yZ (by omega)]
       unfold nc
       first
       | (rw [if_pos (by omega)]; simp; done)
       | (rw [if_neg (by omega), if_pos (by omega)]; simp; done)
       | (rw [if_neg (by omega), if_neg (by omega)]; simp; done)
     . (simp (discharger := omega) only [wR]; omega)
    )
  | skip
 refine a7.mk [] ?_ <;> (repeat' first | trivial | apply ah | apply b9 | apply aX)
 rw [List.take_of_length_le (by omega)]
 rfl
def uM : Sm := fun args σ => match args, σ with
 | [.str s], [] => some (s.length ≤ 100000000, .str (quote s), none)
 | _, _ => none
theorem Fe : aa 141 uM := by
 intro args sg pre x r he hp
 unfold uM at he
 split at he <;> cases he
 exact Dj _ hp
theorem BW (l : List V) (t : List UInt8) (h : l.length + t.length ≤ 4000000000) : OK 177 [.str t, .ptr 0 0] [.cells [.buf 1], .buf 1 0 l] (.tuple []) (some [.cells [.buf 1], .buf 1 0 (l ++ bl t)]) := by
 refine ai (C := cx []) (aj trivial) (fn := Tryz.f177) rfl rfl rfl rfl fun _ _ => ?_
 repeat' ((conv => whnf); apply a9)
 all_goals try conv => whnf
 all_goals try (refine a8.mk ?_; try dsimp only)
 all_goals first | refine stay ?_ | (simp only [aV, fX]; omega) | skip
 refine a7.mk [] ?_ <;> (repeat' first | trivial)
def ud : Sm := fun args σ => match args, σ with
 | [.str t, .ptr 0 0], [.cells [.buf 1], .buf 1 0 l] => some (l.length + t.length ≤ 4000000000, .tuple [], some [.cells [.buf 1], .buf 1 0 (l ++ bl t)])
 | _, _ => none
theorem EN : aa 177 ud := by
 intro args sg pre x r he hp
 unfold ud at he
 split at he <;> cases he
 exact BW _ _ hp
theorem CO (s : List UInt8) (l : List V) (hs : s.length ≤ 100000000) (hl : l.length ≤ 3000000000) : OK 176 [.str s, .func (.func 177) [] [.ptr 0 0]] [.cells [.buf 1], .buf 1 0 l] (.tuple []) (some [.cells [.buf 1], .buf 1 0 (l ++ bl (quote s))]) := by
 refine ai (C := cx [(177, ud), (157, px)]) (aj ⟨EN, ta, trivial⟩) (fn := Tryz.f176) rfl rfl rfl rfl fun _ _ => ?_
 repeat' ((conv => whnf); apply a9)
 all_goals try conv => whnf
 all_goals try (refine a8.mk ?_; try dsimp only)
 all_goals first | refine stay ?_ | (simp only [aV, fX]; omega) | skip
 refine br.mk Nat (fun i => i ≤ s.length) (fun i => ⟨53, [(0,.str s),(1, .func (.func 177) [] [.ptr 0 0]),(9, .int .i64 s.length),(10,.int .i64 i)], [.cells [.buf 1], .buf 1 0 (l ++ bl (34 :: ja (s.take i)))], [1]⟩) (fun i => s.length - i) [] 0 (Nat.zero_le _) ?_ (fun i hi _ _ => ?_)
 . refine Go.VG.Sub.mk rfl ?_ ?_ ?_ ?_ <;> (repeat' first | trivial)
 have hcut : (s.take (IntKind.i64.wrap ((i : Int) + 1)).toNat).drop ((i : Int).toNat) = if i < s.length then [s.getD i 0] else (s.take (IntKind.i64.wrap ((i : Int) + 1)).toNat).drop ((i : Int).toNat) := by
  split
  . rw [show (IntKind.i64.wrap ((i : Int) + 1)).toNat = i + 1 by (simp (discharger := omega) only [wR]; omega)]; exact qa 0 (by assumption)
  . rfl
 have hq := tP (s.take i)
 rw [List.length_take] at hq
 repeat' ((conv => whnf); first | apply a9 | (apply ao <;> intro h) | with_reducible refine gn ?_ fun hc => ?_)
 all_goals try conv => whnf
 all_goals try (refine a8.mk ?_; try dsimp only)
 all_goals (try rw [hcut, if_pos (by omega)])
 all_goals first | refine stay ?_ | omega | (simp (discharger := omega) only [wR]; omega) | (simp only [aV, fX]; omega) | skip
 all_goals first
  | (refine ⟨[], i + 1, by omega, ?_, by omega⟩
     refine Go.VG.Sub.mk rfl ?_ ?_ ?_ ?_ <;> (repeat' first | trivial | apply ah | apply ax | apply aG)
     . (simp (discharger := omega) only [wR]; omega)
     . rw [yZ (by omega), List.append_assoc, ← cq]
       refine congrArg (fun x => l ++ bl x) ?_
       unfold nc
       first
       | (rw [if_pos (by omega)]; simp; done)
       | (rw [if_neg (by omega), if_pos (by omega)]; simp; done)
       | (rw [if_neg (by omega), if_neg (by omega)]; simp; done)
    )
  | skip
 refine a7.mk [] ?_ <;> (repeat' first | trivial | apply ah | apply aG)
 rw [List.take_of_length_le (by omega), List.append_assoc, ← cq]
 rfl
def rn : Sm := fun args σ => match args, σ with
 | [.str s, .func (.func 177) [] [.ptr 0 0]], [.cells [.buf 1], .buf 1 0 l] => some (s.length ≤ 100000000 ∧ l.length ≤ 3000000000, .tuple [], some [.cells [.buf 1], .buf 1 0 (l ++ bl (quote s))])
 | _, _ => none
theorem xO : aa 176 rn := by
 intro args sg pre x r he hp
 unfold rn at he
 split at he <;> cases he
 exact CO _ _ hp.1 hp.2
theorem wS (s : List UInt8) (l : List V) (hs : s.length ≤ 100000000) (hl : l.length ≤ 3000000000) : OK 172 [.buf 0, .str s] [.buf 1 0 l] (.buf 0) (some [.buf 1 0 (l ++ bl (quote s))]) := by
 refine ai (C := cx [(176, rn)]) (aj ⟨xO, trivial⟩) (fn := Tryz.f172) rfl rfl rfl rfl fun _ _ => ?_
 repeat' ((conv => whnf); apply a9)
 all_goals try conv => whnf
 all_goals try (refine a8.mk ?_; try dsimp only)
 all_goals first | refine stay ?_ | (simp (discharger := omega) only [wR]; omega) | (simp (discharger := omega) [-List.getD_eq_getElem?_getD, wR] <;> omega) | skip
 refine a7.mk [.swap 0 1] ?_ <;> (repeat' first | trivial | apply ah | apply aG)
 simp
theorem Dc (c : Bool) (l : List V) (s : List UInt8) (hs : s.length ≤ 100000000) (hl : l.length ≤ 3000000000) : OK 172 [.list c 1 l, .str s] [] (.buf 0) (some [.buf 1 0 (l ++ bl (quote s))]) := by
 refine ai (C := cx [(176, rn)]) (aj ⟨xO, trivial⟩) (fn := Tryz.f172) rfl rfl rfl rfl fun _ _ => ?_
 repeat' ((conv => whnf); apply a9)
 all_goals try conv => whnf
 all_goals try (refine a8.mk ?_; try dsimp only)
 all_goals first | refine stay ?_ | (simp (discharger := omega) only [wR]; omega) | (simp (discharger := omega) [-List.getD_eq_getElem?_getD, wR] <;> omega) | skip
 refine a7.mk [] ?_ <;> (repeat' first | trivial | apply ah | apply aG)
 simp
def uH : Sm := fun args σ => match args, σ with
 | [.buf 0, .str s], [.buf 1 0 l] => some (s.length ≤ 100000000 ∧ l.length ≤ 3000000000, .buf 0, some [.buf 1 0 (l ++ bl (quote s))])
 | [.list true _ [], .str s], [] => some (s.length ≤ 100000000, .buf 0, some [.buf 1 0 (bl (quote s))])
 | [.list _ 1 l, .str s], [] => some (s.length ≤ 100000000 ∧ l.length ≤ 3000000000, .buf 0, some [.buf 1 0 (l ++ bl (quote s))])
 | _, _ => none
theorem F9 : aa 172 uH := by
 intro args sg pre x r he hp
 unfold uH at he
 split at he <;> cases he
 . exact wS _ _ hp.1 hp.2
 . exact cI.nil 0 _ 0 rfl (wS _ [] hp (by simp))
 . exact Dc _ _ _ hp.1 hp.2
end Go.Proofs.YtipejldppicijaaGreatDoor
