/-
  A part of the proof.
-/
import Derived.Test.YtllncocibkgjkaaGreatTxt0
set_option linter.unusedSimpArgs false
set_option linter.unusedVariables false
set_option maxHeartbeats 4000000
namespace Go.Proofs.YtllncocibkgjkaaGreat
open Go Go.VG
set_option maxRecDepth 100000
theorem FM (s : List UInt8) (hs : s.length ≤ 1000000) : OK 106 [.str s] [] (.str (fy s)) none := by
 refine aq (C := cx []) (ar trivial) (fn := Tryz.f106) rfl rfl rfl rfl fun _ _ => ?_
 refine bn.mk Nat (fun i => i ≤ s.length) (fun i => ⟨35, [(0,.str s),(3,.str (fy (s.take i))),(4,.int .i64 i)], [], []⟩) (fun i => s.length - i) [] 0 (Nat.zero_le _) ?_ (fun i hi _ _ => ?_)
 . refine Go.VG.Sub.mk rfl ?_ ?_ ?_ ?_ <;> (repeat' first | trivial)
 repeat' ((conv => whnf); first | apply ak | (apply al <;> intro h) | with_reducible refine et ?_ fun hc => ?_)
 all_goals try conv => whnf
 all_goals try (refine ab.mk ?_; try dsimp only)
 all_goals first | refine stay ?_ | trivial | omega | (simp (discharger := omega) [-List.getD_eq_getElem?_getD, wR] <;> omega) | skip
 . refine ⟨[], i + 1, by omega, ?_, by omega⟩
   refine Go.VG.Sub.mk rfl ?_ ?_ ?_ ?_ <;> (repeat' first | trivial | apply aj | apply hH | apply aR)
   . rw [tv (by omega), zO]
     simp only [fy]
     rw [zP ((s.getD i 0).toNat / 16) (n := IntKind.u8.wrap _), zP ((s.getD i 0).toNat % 16)]
     . simp
     all_goals (first | omega | (simp (discharger := omega) only [wR]; omega))
   . rw [gU]; omega
 . refine a8.mk [] ?_ <;> (repeat' first | trivial | apply aj | apply hH)
   rw [List.take_of_length_le (by omega)]
def wU : Sm := fun args σ => match args, σ with
 | [.str s], [] => some (s.length ≤ 1000000, .str (fy s), none)
 | _, _ => none
theorem HT : ay 106 wU := by
 intro args sg pre x r he hp
 unfold wU at he
 split at he <;> cases he
 exact FM _ hp

theorem EY (s : List UInt8) (hs : s.length ≤ 1000000) : OK 120 [.list true 0 [], .str s] [] (.buf 0) (some [.buf 1 0 (bl (fy s))]) := by
 refine aq (C := cx []) (ar trivial) (fn := Tryz.f120) rfl rfl rfl rfl fun _ _ => ?_
 repeat' ((conv => whnf); apply ak)
 all_goals try conv => whnf
 all_goals try (refine ab.mk ?_; try dsimp only)
 all_goals first | refine stay ?_ | (simp (discharger := omega) [-List.getD_eq_getElem?_getD, wR] <;> omega) | skip
 refine bn.mk Nat (fun i => i ≤ s.length) (fun i => ⟨39, [(1,.str s),(5,.buf 0),(20,.int .i64 s.length),(21,.int .i64 i)], [.buf 1 0 (bl (fy (s.take i)))], [0]⟩) (fun i => s.length - i) [] 0 (Nat.zero_le _) ?_ (fun i hi _ _ => ?_)
 . refine Go.VG.Sub.mk rfl ?_ ?_ ?_ ?_ <;> (repeat' first | trivial)
 have hA : jy .u8 (((s.getD i 0).toNat : Nat) : Int) 4 = (((s.getD i 0).toNat / 16 : Nat) : Int) := rE .u8 _ 4
 have hB : lM .u8 (((s.getD i 0).toNat : Nat) : Int) 15 = (((s.getD i 0).toNat % 16 : Nat) : Int) := Hd _ (UInt8.toNat_lt _)
 repeat' ((conv => whnf); first | apply ak | (apply al <;> intro h) | with_reducible (first | refine et ?_ fun hc => ?_ | refine mG ?_ fun hc => ?_))
 all_goals try conv => whnf
 all_goals try (refine ab.mk ?_; try dsimp only)
 all_goals first | refine stay ?_ | trivial | omega | (simp only [cK]; omega) | skip
 . simp only [fv, pJ, List.length_take, List.length_cons, List.length_nil]; omega
 . refine ⟨[], i + 1, by omega, ?_, by omega⟩
   refine Go.VG.Sub.mk rfl ?_ ?_ ?_ ?_ <;> (repeat' first | trivial | apply aj | apply aR | apply aM)
   . (simp (discharger := omega) only [wR]; omega)
   . rw [tv (by omega), zO, cz]
     refine congrArg _ ?_
     simp only [fy, bl, bv, fY, hA, hB, Int.toNat_natCast]
     rfl
 . refine a8.mk [] ?_ <;> (repeat' first | trivial | apply aj | apply aM)
   rw [List.take_of_length_le (by omega)]
def wj : Sm := fun args σ => match args, σ with
 | [.list true _ [], .str s], [] => some (s.length ≤ 1000000, .buf 0, some [.buf 1 0 (bl (fy s))])
 | _, _ => none
theorem Hq : ay 120 wj := by
 intro args sg pre x r he hp
 unfold wj at he
 split at he <;> cases he
 exact (EY _ hp).args (iR.cons (Wk.nil (.inl rfl)) (iR.refl _))

theorem EZ (s : List UInt8) (hs : s.length ≤ 1000000) : OK 93 [.str s] [] (.str (fy s)) none := by
 refine aq (C := cx [(120, wj)]) (ar ⟨Hq, trivial⟩) (fn := Tryz.f93) rfl rfl rfl rfl fun _ _ => ?_
 repeat' ((conv => whnf); first | apply ak | apply mH)
 all_goals try conv => whnf
 all_goals try (refine ab.mk ?_; try dsimp only)
 all_goals first | refine stay ?_ | trivial | skip
 refine a8.mk [] ?_ <;> (repeat' first | trivial)
def wk : Sm := fun args σ => match args, σ with
 | [.str s], [] => some (s.length ≤ 1000000, .str (fy s), none)
 | _, _ => none
theorem Hr : ay 93 wk := by
 intro args sg pre x r he hp
 unfold wk at he
 split at he <;> cases he
 exact EZ _ hp
end Go.Proofs.YtllncocibkgjkaaGreat
