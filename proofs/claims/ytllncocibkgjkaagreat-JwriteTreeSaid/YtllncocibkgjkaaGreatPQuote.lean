/-
  A part of the proof.
-/
import Derived.Test.YtllncocibkgjkaaGreatPHex
set_option linter.unusedSimpArgs false
set_option linter.unusedVariables false
set_option maxHeartbeats 4000000
namespace Go.Proofs.YtllncocibkgjkaaGreat
open Go Go.VG
set_option maxRecDepth 100000
theorem FO (s : List UInt8) (hs : s.length ≤ 100000000) : OK 75 [.str s] [] (.str (quote s)) none := by
 refine aq (C := cx [(106, wU)]) (ar ⟨HT, trivial⟩) (fn := Tryz.f75) rfl rfl rfl rfl fun _ _ => ?_
 refine bn.mk Nat (fun i => i ≤ s.length) (fun i => ⟨45, [(0,.str s),(3,.str (34 :: d5 (s.take i))),(4,.int .i64 i)], [], []⟩) (fun i => s.length - i) [] 0 (Nat.zero_le _) ?_ (fun i hi _ _ => ?_)
 . refine Go.VG.Sub.mk rfl ?_ ?_ ?_ ?_ <;> (repeat' first | trivial)
 have hcut : (s.take (IntKind.i64.wrap ((i : Int) + 1)).toNat).drop ((i : Int).toNat) = if i < s.length then [s.getD i 0] else (s.take (IntKind.i64.wrap ((i : Int) + 1)).toNat).drop ((i : Int).toNat) := by
  split
  . rw [show (IntKind.i64.wrap ((i : Int) + 1)).toNat = i + 1 by (simp (discharger := omega) only [wR]; omega)]; exact rb 0 (by assumption)
  . rfl
 have hq := vE (s.take i)
 rw [List.length_take] at hq
 repeat' ((conv => whnf); first | apply ak | (apply al <;> intro h) | with_reducible refine et ?_ fun hc => ?_)
 all_goals try conv => whnf
 all_goals try (refine ab.mk ?_; try dsimp only)
 all_goals (try rw [hcut, if_pos (by omega)])
 all_goals first | refine stay ?_ | omega | (simp (discharger := omega) only [wR]; omega) | (simp only [cK, pJ]; omega) | skip
 all_goals first
  | (exfalso; omega)
  | (refine ⟨[], i + 1, by omega, ?_, by omega⟩
     refine Go.VG.Sub.mk rfl ?_ ?_ ?_ ?_ <;> (repeat' first | trivial | apply aj | apply hH | apply aR | apply dm)
     . rw [BJ (by omega)]
       unfold iK
       first
       | (rw [if_pos (by omega)]; simp; done)
       | (rw [if_neg (by omega), if_pos (by omega)]; simp; done)
       | (rw [if_neg (by omega), if_neg (by omega)]; simp; done)
     . (simp (discharger := omega) only [wR]; omega)
    )
  | skip
 refine a8.mk [] ?_ <;> (repeat' first | trivial | apply aj | apply hH | apply dm)
 rw [List.take_of_length_le (by omega)]
 rfl
def sZ : Sm := fun args σ => match args, σ with
 | [.str s], [] => some (s.length ≤ 100000000, .str (quote s), none)
 | _, _ => none
theorem Ai : ay 75 sZ := by
 intro args sg pre x r he hp
 unfold sZ at he
 split at he <;> cases he
 exact FO _ hp
theorem EG (l : List V) (t : List UInt8) (h : l.length + t.length ≤ 4000000000) : OK 69 [.str t, .ptr 0 0] [.cells [.buf 1], .buf 1 0 l] (.tuple []) (some [.cells [.buf 1], .buf 1 0 (l ++ bl t)]) := by
 refine aq (C := cx []) (ar trivial) (fn := Tryz.f69) rfl rfl rfl rfl fun _ _ => ?_
 repeat' ((conv => whnf); apply ak)
 all_goals try conv => whnf
 all_goals try (refine ab.mk ?_; try dsimp only)
 all_goals first | refine stay ?_ | (simp only [cK, pJ]; omega) | skip
 refine a8.mk [] ?_ <;> (repeat' first | trivial)
def vZ : Sm := fun args σ => match args, σ with
 | [.str t, .ptr 0 0], [.cells [.buf 1], .buf 1 0 l] => some (l.length + t.length ≤ 4000000000, .tuple [], some [.cells [.buf 1], .buf 1 0 (l ++ bl t)])
 | _, _ => none
theorem Hj : ay 69 vZ := by
 intro args sg pre x r he hp
 unfold vZ at he
 split at he <;> cases he
 exact EG _ _ hp
theorem EX (s : List UInt8) (l : List V) (hs : s.length ≤ 100000000) (hl : l.length ≤ 3000000000) : OK 68 [.str s, .func (.func 69) [] [.ptr 0 0]] [.cells [.buf 1], .buf 1 0 l] (.tuple []) (some [.cells [.buf 1], .buf 1 0 (l ++ bl (quote s))]) := by
 refine aq (C := cx [(69, vZ), (93, wk)]) (ar ⟨Hj, Hr, trivial⟩) (fn := Tryz.f68) rfl rfl rfl rfl fun _ _ => ?_
 repeat' ((conv => whnf); apply ak)
 all_goals try conv => whnf
 all_goals try (refine ab.mk ?_; try dsimp only)
 all_goals first | refine stay ?_ | (simp only [cK, pJ]; omega) | skip
 refine bn.mk Nat (fun i => i ≤ s.length) (fun i => ⟨53, [(0,.str s),(1, .func (.func 69) [] [.ptr 0 0]),(9, .int .i64 s.length),(10,.int .i64 i)], [.cells [.buf 1], .buf 1 0 (l ++ bl (34 :: d5 (s.take i)))], [1]⟩) (fun i => s.length - i) [] 0 (Nat.zero_le _) ?_ (fun i hi _ _ => ?_)
 . refine Go.VG.Sub.mk rfl ?_ ?_ ?_ ?_ <;> (repeat' first | trivial)
 have hcut : (s.take (IntKind.i64.wrap ((i : Int) + 1)).toNat).drop ((i : Int).toNat) = if i < s.length then [s.getD i 0] else (s.take (IntKind.i64.wrap ((i : Int) + 1)).toNat).drop ((i : Int).toNat) := by
  split
  . rw [show (IntKind.i64.wrap ((i : Int) + 1)).toNat = i + 1 by (simp (discharger := omega) only [wR]; omega)]; exact rb 0 (by assumption)
  . rfl
 have hq := vE (s.take i)
 rw [List.length_take] at hq
 repeat' ((conv => whnf); first | apply ak | (apply al <;> intro h) | with_reducible refine et ?_ fun hc => ?_)
 all_goals try conv => whnf
 all_goals try (refine ab.mk ?_; try dsimp only)
 all_goals (try rw [hcut, if_pos (by omega)])
 all_goals first | refine stay ?_ | omega | (simp (discharger := omega) only [wR]; omega) | (simp only [cK, pJ]; omega) | skip
 all_goals first
  | (refine ⟨[], i + 1, by omega, ?_, by omega⟩
     refine Go.VG.Sub.mk rfl ?_ ?_ ?_ ?_ <;> (repeat' first | trivial | apply aj | apply aR | apply aM)
     . (simp (discharger := omega) only [wR]; omega)
     . rw [BJ (by omega), List.append_assoc, ← cz]
       refine congrArg (fun x => l ++ bl x) ?_
       unfold iK
       first
       | (rw [if_pos (by omega)]; simp; done)
       | (rw [if_neg (by omega), if_pos (by omega)]; simp; done)
       | (rw [if_neg (by omega), if_neg (by omega)]; simp; done)
    )
  | skip
 refine a8.mk [] ?_ <;> (repeat' first | trivial | apply aj | apply aM)
 rw [List.take_of_length_le (by omega), List.append_assoc, ← cz]
 rfl
def sK : Sm := fun args σ => match args, σ with
 | [.str s, .func (.func 69) [] [.ptr 0 0]], [.cells [.buf 1], .buf 1 0 l] => some (s.length ≤ 100000000 ∧ l.length ≤ 3000000000, .tuple [], some [.cells [.buf 1], .buf 1 0 (l ++ bl (quote s))])
 | _, _ => none
theorem A4 : ay 68 sK := by
 intro args sg pre x r he hp
 unfold sK at he
 split at he <;> cases he
 exact EX _ _ hp.1 hp.2
theorem zd (s : List UInt8) (l : List V) (hs : s.length ≤ 100000000) (hl : l.length ≤ 3000000000) : OK 38 [.buf 0, .str s] [.buf 1 0 l] (.buf 0) (some [.buf 1 0 (l ++ bl (quote s))]) := by
 refine aq (C := cx [(68, sK)]) (ar ⟨A4, trivial⟩) (fn := Tryz.f38) rfl rfl rfl rfl fun _ _ => ?_
 repeat' ((conv => whnf); apply ak)
 all_goals try conv => whnf
 all_goals try (refine ab.mk ?_; try dsimp only)
 all_goals first | refine stay ?_ | (simp (discharger := omega) only [wR]; omega) | (simp (discharger := omega) [-List.getD_eq_getElem?_getD, wR] <;> omega) | skip
 refine a8.mk [.swap 0 1] ?_ <;> (repeat' first | trivial | apply aj | apply aM)
 simp
theorem Fg (c : Bool) (l : List V) (s : List UInt8) (hs : s.length ≤ 100000000) (hl : l.length ≤ 3000000000) : OK 38 [.list c 1 l, .str s] [] (.buf 0) (some [.buf 1 0 (l ++ bl (quote s))]) := by
 refine aq (C := cx [(68, sK)]) (ar ⟨A4, trivial⟩) (fn := Tryz.f38) rfl rfl rfl rfl fun _ _ => ?_
 repeat' ((conv => whnf); apply ak)
 all_goals try conv => whnf
 all_goals try (refine ab.mk ?_; try dsimp only)
 all_goals first | refine stay ?_ | (simp (discharger := omega) only [wR]; omega) | (simp (discharger := omega) [-List.getD_eq_getElem?_getD, wR] <;> omega) | skip
 refine a8.mk [] ?_ <;> (repeat' first | trivial | apply aj | apply aM)
 simp
def qx : Sm := fun args σ => match args, σ with
 | [.buf 0, .str s], [.buf 1 0 l] => some (s.length ≤ 100000000 ∧ l.length ≤ 3000000000, .buf 0, some [.buf 1 0 (l ++ bl (quote s))])
 | [.list true _ [], .str s], [] => some (s.length ≤ 100000000, .buf 0, some [.buf 1 0 (bl (quote s))])
 | [.list _ 1 l, .str s], [] => some (s.length ≤ 100000000 ∧ l.length ≤ 3000000000, .buf 0, some [.buf 1 0 (l ++ bl (quote s))])
 | _, _ => none
theorem uP : ay 38 qx := by
 intro args sg pre x r he hp
 unfold qx at he
 split at he <;> cases he
 . exact zd _ _ hp.1 hp.2
 . exact fq.nil 0 _ 0 rfl (zd _ [] hp (by simp))
 . exact Fg _ _ _ hp.1 hp.2
end Go.Proofs.YtllncocibkgjkaaGreat
