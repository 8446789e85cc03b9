/-
  A part of the proof.
-/
import Derived.Test.YtipejldppicijaaGreatDoorTxt0
set_option linter.unusedSimpArgs false
set_option linter.unusedVariables false
set_option maxHeartbeats 4000000
namespace Go.Proofs.YtipejldppicijaaGreatDoor
open Go Go.VG
set_option maxRecDepth 100000
theorem Di (s : List UInt8) (hs : s.length ≤ 1000000) : OK 144 [.str s] [] (.str (cP s)) none := by
 refine ai (C := cx []) (aj trivial) (fn := Tryz.f144) rfl rfl rfl rfl fun _ _ => ?_
 refine br.mk Nat (fun i => i ≤ s.length) (fun i => ⟨35, [(0,.str s),(3,.str (cP (s.take i))),(4,.int .i64 i)], [], []⟩) (fun i => s.length - i) [] 0 (Nat.zero_le _) ?_ (fun i hi _ _ => ?_)
 . refine Go.VG.Sub.mk rfl ?_ ?_ ?_ ?_ <;> (repeat' first | trivial)
 repeat' ((conv => whnf); first | apply a9 | (apply ao <;> intro h) | with_reducible refine gn ?_ fun hc => ?_)
 all_goals try conv => whnf
 all_goals try (refine a8.mk ?_; try dsimp only)
 all_goals first | refine stay ?_ | trivial | omega | (simp (discharger := omega) [-List.getD_eq_getElem?_getD, wR] <;> omega) | skip
 . refine ⟨[], i + 1, by omega, ?_, by omega⟩
   refine Go.VG.Sub.mk rfl ?_ ?_ ?_ ?_ <;> (repeat' first | trivial | apply ah | apply b9 | apply ax)
   . rw [vj (by omega), xk]
     simp only [cP]
     rw [xl ((s.getD i 0).toNat / 16) (n := IntKind.u8.wrap _), xl ((s.getD i 0).toNat % 16)]
     . simp
     all_goals (first | omega | (simp (discharger := omega) only [wR]; omega))
   . rw [bS]; omega
 . refine a7.mk [] ?_ <;> (repeat' first | trivial | apply ah | apply b9)
   rw [List.take_of_length_le (by omega)]
def rv : Sm := fun args σ => match args, σ with
 | [.str s], [] => some (s.length ≤ 1000000, .str (cP s), none)
 | _, _ => none
theorem xT : aa 144 rv := by
 intro args sg pre x r he hp
 unfold rv at he
 split at he <;> cases he
 exact Di _ hp

theorem CU (s : List UInt8) (hs : s.length ≤ 1000000) : OK 171 [.list true 0 [], .str s] [] (.buf 0) (some [.buf 1 0 (bl (cP s))]) := by
 refine ai (C := cx []) (aj trivial) (fn := Tryz.f171) rfl rfl rfl rfl fun _ _ => ?_
 repeat' ((conv => whnf); apply a9)
 all_goals try conv => whnf
 all_goals try (refine a8.mk ?_; try dsimp only)
 all_goals first | refine stay ?_ | (simp (discharger := omega) [-List.getD_eq_getElem?_getD, wR] <;> omega) | skip
 refine br.mk Nat (fun i => i ≤ s.length) (fun i => ⟨39, [(1,.str s),(5,.buf 0),(20,.int .i64 s.length),(21,.int .i64 i)], [.buf 1 0 (bl (cP (s.take i)))], [0]⟩) (fun i => s.length - i) [] 0 (Nat.zero_le _) ?_ (fun i hi _ _ => ?_)
 . refine Go.VG.Sub.mk rfl ?_ ?_ ?_ ?_ <;> (repeat' first | trivial)
 have hA : ba .u8 (((s.getD i 0).toNat : Nat) : Int) 4 = (((s.getD i 0).toNat / 16 : Nat) : Int) := jQ .u8 _ 4
 have hB : iY .u8 (((s.getD i 0).toNat : Nat) : Int) 15 = (((s.getD i 0).toNat % 16 : Nat) : Int) := sL _ (UInt8.toNat_lt _)
 repeat' ((conv => whnf); first | apply a9 | (apply ao <;> intro h) | with_reducible (first | refine gn ?_ fun hc => ?_ | refine gR ?_ fun hc => ?_))
 all_goals try conv => whnf
 all_goals try (refine a8.mk ?_; try dsimp only)
 all_goals first | refine stay ?_ | trivial | omega | (simp only [aV]; omega) | skip
 . simp only [bC, fX, List.length_take, List.length_cons, List.length_nil]; omega
 . refine ⟨[], i + 1, by omega, ?_, by omega⟩
   refine Go.VG.Sub.mk rfl ?_ ?_ ?_ ?_ <;> (repeat' first | trivial | apply ah | apply ax | apply aG)
   . (simp (discharger := omega) only [wR]; omega)
   . rw [vj (by omega), xk, cq]
     refine congrArg _ ?_
     simp only [cP, bl, bv, qx, hA, hB, Int.toNat_natCast]
     rfl
 . refine a7.mk [] ?_ <;> (repeat' first | trivial | apply ah | apply aG)
   rw [List.take_of_length_le (by omega)]
def uC : Sm := fun args σ => match args, σ with
 | [.list true _ [], .str s], [] => some (s.length ≤ 1000000, .buf 0, some [.buf 1 0 (bl (cP s))])
 | _, _ => none
theorem F4 : aa 171 uC := by
 intro args sg pre x r he hp
 unfold uC at he
 split at he <;> cases he
 exact (CU _ hp).args (aC.cons (Wk.nil (.inl rfl)) (aC.refl _))

theorem CV (s : List UInt8) (hs : s.length ≤ 1000000) : OK 157 [.str s] [] (.str (cP s)) none := by
 refine ai (C := cx [(171, uC)]) (aj ⟨F4, trivial⟩) (fn := Tryz.f157) rfl rfl rfl rfl fun _ _ => ?_
 repeat' ((conv => whnf); first | apply a9 | apply ig)
 all_goals try conv => whnf
 all_goals try (refine a8.mk ?_; try dsimp only)
 all_goals first | refine stay ?_ | trivial | skip
 refine a7.mk [] ?_ <;> (repeat' first | trivial)
def px : Sm := fun args σ => match args, σ with
 | [.str s], [] => some (s.length ≤ 1000000, .str (cP s), none)
 | _, _ => none
theorem ta : aa 157 px := by
 intro args sg pre x r he hp
 unfold px at he
 split at he <;> cases he
 exact CV _ hp
end Go.Proofs.YtipejldppicijaaGreatDoor
