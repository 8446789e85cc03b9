/-
  A part of the proof.
-/
import Derived.Test.YtllncocibkgjkaaDoorPHex
set_option linter.unusedSimpArgs false
set_option linter.unusedVariables false
set_option maxHeartbeats 4000000
namespace Go.Proofs.YtllncocibkgjkaaDoor
open Go Go.VG
set_option maxRecDepth 100000
theorem Eo (l : List V) (t : List UInt8) (h : l.length + t.length ≤ 4000000000) : OK 51 [.str t, .ptr 0 0] [.cells [.buf 1], .buf 1 0 l] (.tuple []) (some [.cells [.buf 1], .buf 1 0 (l ++ bl t)]) := by
 refine aI (C := cx []) (aG trivial) (fn := Tryd.f51) rfl rfl rfl rfl fun _ _ => ?_
 repeat' ((conv => whnf); apply ai)
 all_goals try conv => whnf
 all_goals try (refine a8.mk ?_; try dsimp only)
 all_goals first | refine stay ?_ | (simp only [ax, kG]; omega) | skip
 refine ab.mk [] ?_ <;> (repeat' first | trivial)
def vW : Sm := fun args σ => match args, σ with
 | [.str t, .ptr 0 0], [.cells [.buf 1], .buf 1 0 l] => some (l.length + t.length ≤ 4000000000, .tuple [], some [.cells [.buf 1], .buf 1 0 (l ++ bl t)])
 | _, _ => none
theorem Gj : aE 51 vW := by
 intro args sg pre x r he hp
 unfold vW at he
 split at he <;> cases he
 exact Eo _ _ hp
theorem EI (s : List UInt8) (l : List V) (hs : s.length ≤ 100000000) (hl : l.length ≤ 3000000000) : OK 50 [.str s, .func (.func 51) [] [.ptr 0 0]] [.cells [.buf 1], .buf 1 0 l] (.tuple []) (some [.cells [.buf 1], .buf 1 0 (l ++ bl (quote s))]) := by
 refine aI (C := cx [(51, vW), (38, qJ)]) (aG ⟨Gj, uG, trivial⟩) (fn := Tryd.f50) rfl rfl rfl rfl fun _ _ => ?_
 repeat' ((conv => whnf); apply ai)
 all_goals try conv => whnf
 all_goals try (refine a8.mk ?_; try dsimp only)
 all_goals first | refine stay ?_ | (simp only [ax, kG]; omega) | skip
 refine cB.mk Nat (fun i => i ≤ s.length) (fun i => ⟨53, [(0,.str s),(1, .func (.func 51) [] [.ptr 0 0]),(9, .int .i64 s.length),(10,.int .i64 i)], [.cells [.buf 1], .buf 1 0 (l ++ bl (34 :: d5 (s.take i)))], [1]⟩) (fun i => s.length - i) [] 0 (Nat.zero_le _) ?_ (fun i hi _ _ => ?_)
 . refine Go.VG.Sub.mk rfl ?_ ?_ ?_ ?_ <;> (repeat' first | trivial)
 have hcut : (s.take (IntKind.i64.wrap ((i : Int) + 1)).toNat).drop ((i : Int).toNat) = if i < s.length then [s.getD i 0] else (s.take (IntKind.i64.wrap ((i : Int) + 1)).toNat).drop ((i : Int).toNat) := by
  split
  . rw [show (IntKind.i64.wrap ((i : Int) + 1)).toNat = i + 1 by (simp (discharger := omega) only [wR]; omega)]; exact cut1 0 (by assumption)
  . rfl
 have hq := Bg (s.take i)
 rw [List.length_take] at hq
 repeat' ((conv => whnf); first | apply ai | (apply aj <;> intro h) | with_reducible refine aY ?_ fun hc => ?_)
 all_goals try conv => whnf
 all_goals try (refine a8.mk ?_; try dsimp only)
 all_goals (try rw [hcut, if_pos (by omega)])
 all_goals first | refine stay ?_ | omega | (simp (discharger := omega) only [wR]; omega) | (simp only [ax, kG]; omega) | skip
 all_goals first
  | (refine ⟨[], i + 1, by omega, ?_, by omega⟩
     refine Go.VG.Sub.mk rfl ?_ ?_ ?_ ?_ <;> (repeat' first | trivial | apply aa | apply ar | apply ak)
     . (simp (discharger := omega) only [wR]; omega)
     . rw [IY (by omega), List.append_assoc, ← dw]
       refine congrArg (fun x => l ++ bl x) ?_
       unfold hJ
       first
       | (rw [if_pos (by omega)]; simp; done)
       | (rw [if_neg (by omega), if_pos (by omega)]; simp; done)
       | (rw [if_neg (by omega), if_neg (by omega)]; simp; done)
    )
  | skip
 refine ab.mk [] ?_ <;> (repeat' first | trivial | apply aa | apply ak)
 rw [List.take_of_length_le (by omega), List.append_assoc, ← dw]
 rfl
def sW : Sm := fun args σ => match args, σ with
 | [.str s, .func (.func 51) [] [.ptr 0 0]], [.cells [.buf 1], .buf 1 0 l] => some (s.length ≤ 100000000 ∧ l.length ≤ 3000000000, .tuple [], some [.cells [.buf 1], .buf 1 0 (l ++ bl (quote s))])
 | _, _ => none
theorem zL : aE 50 sW := by
 intro args sg pre x r he hp
 unfold sW at he
 split at he <;> cases he
 exact EI _ _ hp.1 hp.2
theorem yS (s : List UInt8) (l : List V) (hs : s.length ≤ 100000000) (hl : l.length ≤ 3000000000) : OK 31 [.buf 0, .str s] [.buf 1 0 l] (.buf 0) (some [.buf 1 0 (l ++ bl (quote s))]) := by
 refine aI (C := cx [(50, sW)]) (aG ⟨zL, trivial⟩) (fn := Tryd.f31) rfl rfl rfl rfl fun _ _ => ?_
 repeat' ((conv => whnf); apply ai)
 all_goals try conv => whnf
 all_goals try (refine a8.mk ?_; try dsimp only)
 all_goals first | refine stay ?_ | (simp (discharger := omega) only [wR]; omega) | (simp (discharger := omega) [-List.getD_eq_getElem?_getD, wR] <;> omega) | skip
 refine ab.mk [.swap 0 1] ?_ <;> (repeat' first | trivial | apply aa | apply ak)
 simp
theorem F1 (c : Bool) (l : List V) (s : List UInt8) (hs : s.length ≤ 100000000) (hl : l.length ≤ 3000000000) : OK 31 [.list c 1 l, .str s] [] (.buf 0) (some [.buf 1 0 (l ++ bl (quote s))]) := by
 refine aI (C := cx [(50, sW)]) (aG ⟨zL, trivial⟩) (fn := Tryd.f31) rfl rfl rfl rfl fun _ _ => ?_
 repeat' ((conv => whnf); apply ai)
 all_goals try conv => whnf
 all_goals try (refine a8.mk ?_; try dsimp only)
 all_goals first | refine stay ?_ | (simp (discharger := omega) only [wR]; omega) | (simp (discharger := omega) [-List.getD_eq_getElem?_getD, wR] <;> omega) | skip
 refine ab.mk [] ?_ <;> (repeat' first | trivial | apply aa | apply ak)
 simp
def oP : Sm := fun args σ => match args, σ with
 | [.buf 0, .str s], [.buf 1 0 l] => some (s.length ≤ 100000000 ∧ l.length ≤ 3000000000, .buf 0, some [.buf 1 0 (l ++ bl (quote s))])
 | [.list true _ [], .str s], [] => some (s.length ≤ 100000000, .buf 0, some [.buf 1 0 (bl (quote s))])
 | [.list _ 1 l, .str s], [] => some (s.length ≤ 100000000 ∧ l.length ≤ 3000000000, .buf 0, some [.buf 1 0 (l ++ bl (quote s))])
 | _, _ => none
theorem rW : aE 31 oP := by
 intro args sg pre x r he hp
 unfold oP at he
 split at he <;> cases he
 . exact yS _ _ hp.1 hp.2
 . exact dv.nil 0 _ 0 rfl (yS _ [] hp (by simp))
 . exact F1 _ _ _ hp.1 hp.2
end Go.Proofs.YtllncocibkgjkaaDoor
