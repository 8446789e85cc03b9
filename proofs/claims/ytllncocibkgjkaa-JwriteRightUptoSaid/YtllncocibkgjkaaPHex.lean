/-
  A part of the proof.
-/
import Derived.Test.YtllncocibkgjkaaTxt0
set_option linter.unusedSimpArgs false
set_option linter.unusedVariables false
set_option maxHeartbeats 4000000
namespace Go.Proofs.Ytllncocibkgjkaa
open Go Go.VG
set_option maxRecDepth 100000
theorem DF (s : List UInt8) (hs : s.length ≤ 1000000) : OK 73 [.str s] [] (.str (eE s)) none := by
 refine az (C := cx []) (ax trivial) (fn := Try.f73) rfl rfl rfl rfl fun _ _ => ?_
 refine cg.mk Nat (fun i => i ≤ s.length) (fun i => ⟨35, [(0,.str s),(3,.str (eE (s.take i))),(4,.int .i64 i)], [], []⟩) (fun i => s.length - i) [] 0 (Nat.zero_le _) ?_ (fun i hi _ _ => ?_)
 . refine Go.VG.Sub.mk rfl ?_ ?_ ?_ ?_ <;> (repeat' first | trivial)
 repeat' ((conv => whnf); first | apply al | (apply ay <;> intro h) | with_reducible refine kF ?_ fun hc => ?_)
 all_goals try conv => whnf
 all_goals try (refine af.mk ?_; try dsimp only)
 all_goals first | refine stay ?_ | trivial | omega | (simp (discharger := omega) [-List.getD_eq_getElem?_getD, wR] <;> omega) | skip
 . refine ⟨[], i + 1, by omega, ?_, by omega⟩
   refine Go.VG.Sub.mk rfl ?_ ?_ ?_ ?_ <;> (repeat' first | trivial | apply ak | apply eqA | apply cw)
   . rw [rS (by omega), xU]
     simp only [eE]
     rw [xV ((s.getD i 0).toNat / 16) (n := IntKind.u8.wrap _), xV ((s.getD i 0).toNat % 16)]
     . simp
     all_goals (first | omega | (simp (discharger := omega) only [wR]; omega))
   . rw [nP]; omega
 . refine ah.mk [] ?_ <;> (repeat' first | trivial | apply ak | apply eqA)
   rw [List.take_of_length_le (by omega)]
def va : Sm := fun args σ => match args, σ with
 | [.str s], [] => some (s.length ≤ 1000000, .str (eE s), none)
 | _, _ => none
theorem F6 : aI 73 va := by
 intro args sg pre x r he hp
 unfold va at he
 split at he <;> cases he
 exact DF _ hp

theorem CU (s : List UInt8) (hs : s.length ≤ 1000000) : OK 107 [.list true 0 [], .str s] [] (.buf 0) (some [.buf 1 0 (bl (eE s))]) := by
 refine az (C := cx []) (ax trivial) (fn := Try.f107) rfl rfl rfl rfl fun _ _ => ?_
 repeat' ((conv => whnf); apply al)
 all_goals try conv => whnf
 all_goals try (refine af.mk ?_; try dsimp only)
 all_goals first | refine stay ?_ | (simp (discharger := omega) [-List.getD_eq_getElem?_getD, wR] <;> omega) | skip
 refine cg.mk Nat (fun i => i ≤ s.length) (fun i => ⟨39, [(1,.str s),(5,.buf 0),(20,.int .i64 s.length),(21,.int .i64 i)], [.buf 1 0 (bl (eE (s.take i)))], [0]⟩) (fun i => s.length - i) [] 0 (Nat.zero_le _) ?_ (fun i hi _ _ => ?_)
 . refine Go.VG.Sub.mk rfl ?_ ?_ ?_ ?_ <;> (repeat' first | trivial)
 have hA : iQ .u8 (((s.getD i 0).toNat : Nat) : Int) 4 = (((s.getD i 0).toNat / 16 : Nat) : Int) := qB .u8 _ 4
 have hB : kJ .u8 (((s.getD i 0).toNat : Nat) : Int) 15 = (((s.getD i 0).toNat % 16 : Nat) : Int) := EA _ (UInt8.toNat_lt _)
 repeat' ((conv => whnf); first | apply al | (apply ay <;> intro h) | with_reducible (first | refine kF ?_ fun hc => ?_ | refine goE ?_ fun hc => ?_))
 all_goals try conv => whnf
 all_goals try (refine af.mk ?_; try dsimp only)
 all_goals first | refine stay ?_ | trivial | omega | (simp only [cD]; omega) | skip
 . simp only [cE, oK, List.length_take, List.length_cons, List.length_nil]; omega
 . refine ⟨[], i + 1, by omega, ?_, by omega⟩
   refine Go.VG.Sub.mk rfl ?_ ?_ ?_ ?_ <;> (repeat' first | trivial | apply ak | apply cw | apply aJ)
   . (simp (discharger := omega) only [wR]; omega)
   . rw [rS (by omega), xU, bz]
     refine congrArg _ ?_
     simp only [eE, bl, bv, dX, hA, hB, Int.toNat_natCast]
     rfl
 . refine ah.mk [] ?_ <;> (repeat' first | trivial | apply ak | apply aJ)
   rw [List.take_of_length_le (by omega)]
def uG : Sm := fun args σ => match args, σ with
 | [.list true _ [], .str s], [] => some (s.length ≤ 1000000, .buf 0, some [.buf 1 0 (bl (eE s))])
 | _, _ => none
theorem EI : aI 107 uG := by
 intro args sg pre x r he hp
 unfold uG at he
 split at he <;> cases he
 exact (CU _ hp).args (cN.cons (Wk.nil (.inl rfl)) (cN.refl _))

theorem CV (s : List UInt8) (hs : s.length ≤ 1000000) : OK 91 [.str s] [] (.str (eE s)) none := by
 refine az (C := cx [(107, uG)]) (ax ⟨EI, trivial⟩) (fn := Try.f91) rfl rfl rfl rfl fun _ _ => ?_
 repeat' ((conv => whnf); first | apply al | apply kG)
 all_goals try conv => whnf
 all_goals try (refine af.mk ?_; try dsimp only)
 all_goals first | refine stay ?_ | trivial | skip
 refine ah.mk [] ?_ <;> (repeat' first | trivial)
def uH : Sm := fun args σ => match args, σ with
 | [.str s], [] => some (s.length ≤ 1000000, .str (eE s), none)
 | _, _ => none
theorem EJ : aI 91 uH := by
 intro args sg pre x r he hp
 unfold uH at he
 split at he <;> cases he
 exact CV _ hp
end Go.Proofs.Ytllncocibkgjkaa
