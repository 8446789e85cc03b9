/-
  A part of the proof.
-/
import Derived.Test.YtipejldppicijaaGreatDoorTxt0
set_option linter.unusedSimpArgs false
set_option linter.unusedVariables false
set_option maxHeartbeats 4000000
namespace Go.Proofs.YtipejldppicijaaGreatDoor
open Go Go.VG
set_option maxRecDepth 100000
theorem H8 (s : List UInt8) (hs : s.length ≤ 1000000) : OK 144 [.str s] [] (.str (dg s)) none := by
 refine af (C := cx []) (ah trivial) (fn := Tryz.f144) rfl rfl rfl rfl fun _ _ => ?_
 refine bd.mk Nat (fun i => i ≤ s.length) (fun i => ⟨35, [(0,.str s),(3,.str (dg (s.take i))),(4,.int .i64 i)], [], []⟩) (fun i => s.length - i) [] 0 (Nat.zero_le _) ?_ (fun i hi _ _ => ?_)
 . refine Go.VG.Sub.mk rfl ?_ ?_ ?_ ?_ <;> (repeat' first | trivial)
 repeat' ((conv => whnf); first | apply a9 | (apply al <;> intro h) | with_reducible refine i5 ?_ fun hc => ?_)
 all_goals try conv => whnf
 all_goals try (refine a8.mk ?_; try dsimp only)
 all_goals first | refine stay ?_ | trivial | omega | (simp (discharger := omega) [-List.getD_eq_getElem?_getD, wR] <;> omega) | skip
 . refine ⟨[], i + 1, by omega, ?_, by omega⟩
   refine Go.VG.Sub.mk rfl ?_ ?_ ?_ ?_ <;> (repeat' first | trivial | apply ab | apply aV | apply au)
   . rw [xT (by omega), zQ]
     simp only [dg]
     rw [zR ((s.getD i 0).toNat / 16) (n := IntKind.u8.wrap _), zR ((s.getD i 0).toNat % 16)]
     . simp
     all_goals (first | omega | (simp (discharger := omega) only [wR]; omega))
   . rw [bU]; omega
 . refine a7.mk [] ?_ <;> (repeat' first | trivial | apply ab | apply aV)
   rw [List.take_of_length_le (by omega)]
def tq : Sm := fun args σ => match args, σ with
 | [.str s], [] => some (s.length ≤ 1000000, .str (dg s), none)
 | _, _ => none
theorem AG : aa 144 tq := by
 intro args sg pre x r he hp
 unfold tq at he
 split at he <;> cases he
 exact H8 _ hp

theorem Gz (s : List UInt8) (hs : s.length ≤ 1000000) : OK 171 [.list true 0 [], .str s] [] (.buf 0) (some [.buf 1 0 (bl (dg s))]) := by
 refine af (C := cx []) (ah trivial) (fn := Tryz.f171) rfl rfl rfl rfl fun _ _ => ?_
 repeat' ((conv => whnf); apply a9)
 all_goals try conv => whnf
 all_goals try (refine a8.mk ?_; try dsimp only)
 all_goals first | refine stay ?_ | (simp (discharger := omega) [-List.getD_eq_getElem?_getD, wR] <;> omega) | skip
 refine bd.mk Nat (fun i => i ≤ s.length) (fun i => ⟨39, [(1,.str s),(5,.buf 0),(20,.int .i64 s.length),(21,.int .i64 i)], [.buf 1 0 (bl (dg (s.take i)))], [0]⟩) (fun i => s.length - i) [] 0 (Nat.zero_le _) ?_ (fun i hi _ _ => ?_)
 . refine Go.VG.Sub.mk rfl ?_ ?_ ?_ ?_ <;> (repeat' first | trivial)
 have hA : bn .u8 (((s.getD i 0).toNat : Nat) : Int) 4 = (((s.getD i 0).toNat / 16 : Nat) : Int) := l4 .u8 _ 4
 have hB : jI .u8 (((s.getD i 0).toNat : Nat) : Int) 15 = (((s.getD i 0).toNat % 16 : Nat) : Int) := vd _ (UInt8.toNat_lt _)
 repeat' ((conv => whnf); first | apply a9 | (apply al <;> intro h) | with_reducible (first | refine i5 ?_ fun hc => ?_ | refine iK ?_ fun hc => ?_))
 all_goals try conv => whnf
 all_goals try (refine a8.mk ?_; try dsimp only)
 all_goals first | refine stay ?_ | trivial | omega | (simp only [aW]; omega) | skip
 . simp only [bN, gm, List.length_take, List.length_cons, List.length_nil]; omega
 . refine ⟨[], i + 1, by omega, ?_, by omega⟩
   refine Go.VG.Sub.mk rfl ?_ ?_ ?_ ?_ <;> (repeat' first | trivial | apply ab | apply au | apply aE)
   . (simp (discharger := omega) only [wR]; omega)
   . rw [xT (by omega), zQ, cN]
     refine congrArg _ ?_
     simp only [dg, bl, bv, rX, hA, hB, Int.toNat_natCast]
     rfl
 . refine a7.mk [] ?_ <;> (repeat' first | trivial | apply ab | apply aE)
   rw [List.take_of_length_le (by omega)]
def wT : Sm := fun args σ => match args, σ with
 | [.list true _ [], .str s], [] => some (s.length ≤ 1000000, .buf 0, some [.buf 1 0 (bl (dg s))])
 | _, _ => none
theorem J6 : aa 171 wT := by
 intro args sg pre x r he hp
 unfold wT at he
 split at he <;> cases he
 exact (Gz _ hp).args (aq.cons (Wk.nil (.inl rfl)) (aq.refl _))

theorem GA (s : List UInt8) (hs : s.length ≤ 1000000) : OK 157 [.str s] [] (.str (dg s)) none := by
 refine af (C := cx [(171, wT)]) (ah ⟨J6, trivial⟩) (fn := Tryz.f157) rfl rfl rfl rfl fun _ _ => ?_
 repeat' ((conv => whnf); first | apply a9 | apply je)
 all_goals try conv => whnf
 all_goals try (refine a8.mk ?_; try dsimp only)
 all_goals first | refine stay ?_ | trivial | skip
 refine a7.mk [] ?_ <;> (repeat' first | trivial)
def qR : Sm := fun args σ => match args, σ with
 | [.str s], [] => some (s.length ≤ 1000000, .str (dg s), none)
 | _, _ => none
theorem vr : aa 157 qR := by
 intro args sg pre x r he hp
 unfold qR at he
 split at he <;> cases he
 exact GA _ hp
end Go.Proofs.YtipejldppicijaaGreatDoor
