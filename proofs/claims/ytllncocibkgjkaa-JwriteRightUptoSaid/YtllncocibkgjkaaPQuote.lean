/-
  A part of the proof.
-/
import Derived.Test.YtllncocibkgjkaaPHex
set_option linter.unusedSimpArgs false
set_option linter.unusedVariables false
set_option maxHeartbeats 4000000
namespace Go.Proofs.Ytllncocibkgjkaa
open Go Go.VG
set_option maxRecDepth 100000
theorem II (s : List UInt8) (hs : s.length ≤ 100000000) : OK 39 [.str s] [] (.str (quote s)) none := by
 refine az (C := cx [(73, va)]) (ax ⟨F6, trivial⟩) (fn := Try.f39) rfl rfl rfl rfl fun _ _ => ?_
 refine cg.mk Nat (fun i => i ≤ s.length) (fun i => ⟨45, [(0,.str s),(3,.str (34 :: b8 (s.take i))),(4,.int .i64 i)], [], []⟩) (fun i => s.length - i) [] 0 (Nat.zero_le _) ?_ (fun i hi _ _ => ?_)
 . refine Go.VG.Sub.mk rfl ?_ ?_ ?_ ?_ <;> (repeat' first | trivial)
 have hcut : (s.take (IntKind.i64.wrap ((i : Int) + 1)).toNat).drop ((i : Int).toNat) = if i < s.length then [s.getD i 0] else (s.take (IntKind.i64.wrap ((i : Int) + 1)).toNat).drop ((i : Int).toNat) := by
  split
  . rw [show (IntKind.i64.wrap ((i : Int) + 1)).toNat = i + 1 by (simp (discharger := omega) only [wR]; omega)]; exact sH 0 (by assumption)
  . rfl
 have hq := ue (s.take i)
 rw [List.length_take] at hq
 repeat' ((conv => whnf); first | apply al | (apply ay <;> intro h) | with_reducible refine kF ?_ fun hc => ?_)
 all_goals try conv => whnf
 all_goals try (refine af.mk ?_; try dsimp only)
 all_goals (try rw [hcut, if_pos (by omega)])
 all_goals first | refine stay ?_ | omega | (simp (discharger := omega) only [wR]; omega) | (simp only [cD, oK]; omega) | skip
 all_goals first
  | (exfalso; omega)
  | (refine ⟨[], i + 1, by omega, ?_, by omega⟩
     refine Go.VG.Sub.mk rfl ?_ ?_ ?_ ?_ <;> (repeat' first | trivial | apply ak | apply eqA | apply cw | apply jz)
     . rw [zO (by omega)]
       unfold cq
       first
       | (rw [if_pos (by omega)]; simp; done)
       | (rw [if_neg (by omega), if_pos (by omega)]; simp; done)
       | (rw [if_neg (by omega), if_neg (by omega)]; simp; done)
     . (simp (discharger := omega) only [wR]; omega)
    )
  | skip
 refine ah.mk [] ?_ <;> (repeat' first | trivial | apply ak | apply eqA | apply jz)
 rw [List.take_of_length_le (by omega)]
 rfl
def IK : Sm := fun args σ => match args, σ with
 | [.str s], [] => some (s.length ≤ 100000000, .str (quote s), none)
 | _, _ => none
theorem CD (l : List V) (t : List UInt8) (h : l.length + t.length ≤ 4000000000) : OK 72 [.str t, .ptr 0 0] [.cells [.buf 1], .buf 1 0 l] (.tuple []) (some [.cells [.buf 1], .buf 1 0 (l ++ bl t)]) := by
 refine az (C := cx []) (ax trivial) (fn := Try.f72) rfl rfl rfl rfl fun _ _ => ?_
 repeat' ((conv => whnf); apply al)
 all_goals try conv => whnf
 all_goals try (refine af.mk ?_; try dsimp only)
 all_goals first | refine stay ?_ | (simp only [cD, oK]; omega) | skip
 refine ah.mk [] ?_ <;> (repeat' first | trivial)
def uA : Sm := fun args σ => match args, σ with
 | [.str t, .ptr 0 0], [.cells [.buf 1], .buf 1 0 l] => some (l.length + t.length ≤ 4000000000, .tuple [], some [.cells [.buf 1], .buf 1 0 (l ++ bl t)])
 | _, _ => none
theorem EC : aI 72 uA := by
 intro args sg pre x r he hp
 unfold uA at he
 split at he <;> cases he
 exact CD _ _ hp
theorem CT (s : List UInt8) (l : List V) (hs : s.length ≤ 100000000) (hl : l.length ≤ 3000000000) : OK 71 [.str s, .func (.func 72) [] [.ptr 0 0]] [.cells [.buf 1], .buf 1 0 l] (.tuple []) (some [.cells [.buf 1], .buf 1 0 (l ++ bl (quote s))]) := by
 refine az (C := cx [(72, uA), (91, uH)]) (ax ⟨EC, EJ, trivial⟩) (fn := Try.f71) rfl rfl rfl rfl fun _ _ => ?_
 repeat' ((conv => whnf); apply al)
 all_goals try conv => whnf
 all_goals try (refine af.mk ?_; try dsimp only)
 all_goals first | refine stay ?_ | (simp only [cD, oK]; omega) | skip
 refine cg.mk Nat (fun i => i ≤ s.length) (fun i => ⟨53, [(0,.str s),(1, .func (.func 72) [] [.ptr 0 0]),(9, .int .i64 s.length),(10,.int .i64 i)], [.cells [.buf 1], .buf 1 0 (l ++ bl (34 :: b8 (s.take i)))], [1]⟩) (fun i => s.length - i) [] 0 (Nat.zero_le _) ?_ (fun i hi _ _ => ?_)
 . refine Go.VG.Sub.mk rfl ?_ ?_ ?_ ?_ <;> (repeat' first | trivial)
 have hcut : (s.take (IntKind.i64.wrap ((i : Int) + 1)).toNat).drop ((i : Int).toNat) = if i < s.length then [s.getD i 0] else (s.take (IntKind.i64.wrap ((i : Int) + 1)).toNat).drop ((i : Int).toNat) := by
  split
  . rw [show (IntKind.i64.wrap ((i : Int) + 1)).toNat = i + 1 by (simp (discharger := omega) only [wR]; omega)]; exact sH 0 (by assumption)
  . rfl
 have hq := ue (s.take i)
 rw [List.length_take] at hq
 repeat' ((conv => whnf); first | apply al | (apply ay <;> intro h) | with_reducible refine kF ?_ fun hc => ?_)
 all_goals try conv => whnf
 all_goals try (refine af.mk ?_; try dsimp only)
 all_goals (try rw [hcut, if_pos (by omega)])
 all_goals first | refine stay ?_ | omega | (simp (discharger := omega) only [wR]; omega) | (simp only [cD, oK]; omega) | skip
 all_goals first
  | (refine ⟨[], i + 1, by omega, ?_, by omega⟩
     refine Go.VG.Sub.mk rfl ?_ ?_ ?_ ?_ <;> (repeat' first | trivial | apply ak | apply cw | apply aJ)
     . (simp (discharger := omega) only [wR]; omega)
     . rw [zO (by omega), List.append_assoc, ← bz]
       refine congrArg (fun x => l ++ bl x) ?_
       unfold cq
       first
       | (rw [if_pos (by omega)]; simp; done)
       | (rw [if_neg (by omega), if_pos (by omega)]; simp; done)
       | (rw [if_neg (by omega), if_neg (by omega)]; simp; done)
    )
  | skip
 refine ah.mk [] ?_ <;> (repeat' first | trivial | apply ak | apply aJ)
 rw [List.take_of_length_le (by omega), List.append_assoc, ← bz]
 rfl
def rA : Sm := fun args σ => match args, σ with
 | [.str s, .func (.func 72) [] [.ptr 0 0]], [.cells [.buf 1], .buf 1 0 l] => some (s.length ≤ 100000000 ∧ l.length ≤ 3000000000, .tuple [], some [.cells [.buf 1], .buf 1 0 (l ++ bl (quote s))])
 | _, _ => none
theorem yf : aI 71 rA := by
 intro args sg pre x r he hp
 unfold rA at he
 split at he <;> cases he
 exact CT _ _ hp.1 hp.2
theorem xk (s : List UInt8) (l : List V) (hs : s.length ≤ 100000000) (hl : l.length ≤ 3000000000) : OK 36 [.buf 0, .str s] [.buf 1 0 l] (.buf 0) (some [.buf 1 0 (l ++ bl (quote s))]) := by
 refine az (C := cx [(71, rA)]) (ax ⟨yf, trivial⟩) (fn := Try.f36) rfl rfl rfl rfl fun _ _ => ?_
 repeat' ((conv => whnf); apply al)
 all_goals try conv => whnf
 all_goals try (refine af.mk ?_; try dsimp only)
 all_goals first | refine stay ?_ | (simp (discharger := omega) only [wR]; omega) | (simp (discharger := omega) [-List.getD_eq_getElem?_getD, wR] <;> omega) | skip
 refine ah.mk [.swap 0 1] ?_ <;> (repeat' first | trivial | apply ak | apply aJ)
 simp
theorem Db (c : Bool) (l : List V) (s : List UInt8) (hs : s.length ≤ 100000000) (hl : l.length ≤ 3000000000) : OK 36 [.list c 1 l, .str s] [] (.buf 0) (some [.buf 1 0 (l ++ bl (quote s))]) := by
 refine az (C := cx [(71, rA)]) (ax ⟨yf, trivial⟩) (fn := Try.f36) rfl rfl rfl rfl fun _ _ => ?_
 repeat' ((conv => whnf); apply al)
 all_goals try conv => whnf
 all_goals try (refine af.mk ?_; try dsimp only)
 all_goals first | refine stay ?_ | (simp (discharger := omega) only [wR]; omega) | (simp (discharger := omega) [-List.getD_eq_getElem?_getD, wR] <;> omega) | skip
 refine ah.mk [] ?_ <;> (repeat' first | trivial | apply ak | apply aJ)
 simp
def kX : Sm := fun args σ => match args, σ with
 | [.buf 0, .str s], [.buf 1 0 l] => some (s.length ≤ 100000000 ∧ l.length ≤ 3000000000, .buf 0, some [.buf 1 0 (l ++ bl (quote s))])
 | [.list true _ [], .str s], [] => some (s.length ≤ 100000000, .buf 0, some [.buf 1 0 (bl (quote s))])
 | [.list _ 1 l, .str s], [] => some (s.length ≤ 100000000 ∧ l.length ≤ 3000000000, .buf 0, some [.buf 1 0 (l ++ bl (quote s))])
 | _, _ => none
theorem nc : aI 36 kX := by
 intro args sg pre x r he hp
 unfold kX at he
 split at he <;> cases he
 . exact xk _ _ hp.1 hp.2
 . exact ez.nil 0 _ 0 rfl (xk _ [] hp (by simp))
 . exact Db _ _ _ hp.1 hp.2
end Go.Proofs.Ytllncocibkgjkaa
