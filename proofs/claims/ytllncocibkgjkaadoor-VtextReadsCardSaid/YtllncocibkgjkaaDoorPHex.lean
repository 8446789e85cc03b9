/-
  A part of the proof.
-/
import Derived.Test.YtllncocibkgjkaaDoorTxt0
set_option linter.unusedSimpArgs false
set_option linter.unusedVariables false
set_option maxHeartbeats 4000000
namespace Go.Proofs.YtllncocibkgjkaaDoor
open Go Go.VG
set_option maxRecDepth 100000
theorem EJ (s : List UInt8) (hs : s.length ≤ 1000000) : OK 58 [.list true 0 [], .str s] [] (.buf 0) (some [.buf 1 0 (bl (ey s))]) := by
 refine aI (C := cx []) (aG trivial) (fn := Tryd.f58) rfl rfl rfl rfl fun _ _ => ?_
 repeat' ((conv => whnf); apply ai)
 all_goals try conv => whnf
 all_goals try (refine a8.mk ?_; try dsimp only)
 all_goals first | refine stay ?_ | (simp (discharger := omega) [-List.getD_eq_getElem?_getD, wR] <;> omega) | skip
 refine cB.mk Nat (fun i => i ≤ s.length) (fun i => ⟨39, [(1,.str s),(5,.buf 0),(20,.int .i64 s.length),(21,.int .i64 i)], [.buf 1 0 (bl (ey (s.take i)))], [0]⟩) (fun i => s.length - i) [] 0 (Nat.zero_le _) ?_ (fun i hi _ _ => ?_)
 . refine Go.VG.Sub.mk rfl ?_ ?_ ?_ ?_ <;> (repeat' first | trivial)
 have hA : fC .u8 (((s.getD i 0).toNat : Nat) : Int) 4 = (((s.getD i 0).toNat / 16 : Nat) : Int) := pS .u8 _ 4
 have hB : lT .u8 (((s.getD i 0).toNat : Nat) : Int) 15 = (((s.getD i 0).toNat % 16 : Nat) : Int) := G8 _ (UInt8.toNat_lt _)
 repeat' ((conv => whnf); first | apply ai | (apply aj <;> intro h) | with_reducible (first | refine aY ?_ fun hc => ?_ | refine b9 ?_ fun hc => ?_))
 all_goals try conv => whnf
 all_goals try (refine a8.mk ?_; try dsimp only)
 all_goals first | refine stay ?_ | trivial | omega | (simp only [ax]; omega) | skip
 . simp only [cU, kG, List.length_take, List.length_cons, List.length_nil]; omega
 . refine ⟨[], i + 1, by omega, ?_, by omega⟩
   refine Go.VG.Sub.mk rfl ?_ ?_ ?_ ?_ <;> (repeat' first | trivial | apply aa | apply ar | apply ak)
   . (simp (discharger := omega) only [wR]; omega)
   . rw [xe (by omega), G4, dw]
     refine congrArg _ ?_
     simp only [ey, bl, bv, gz, hA, hB, Int.toNat_natCast]
     rfl
 . refine ab.mk [] ?_ <;> (repeat' first | trivial | apply aa | apply ak)
   rw [List.take_of_length_le (by omega)]
def we : Sm := fun args σ => match args, σ with
 | [.list true _ [], .str s], [] => some (s.length ≤ 1000000, .buf 0, some [.buf 1 0 (bl (ey s))])
 | _, _ => none
theorem Gt : aE 58 we := by
 intro args sg pre x r he hp
 unfold we at he
 split at he <;> cases he
 exact (EJ _ hp).args (aM.cons (Wk.nil (.inl rfl)) (aM.refl _))

theorem EK (s : List UInt8) (hs : s.length ≤ 1000000) : OK 38 [.str s] [] (.str (ey s)) none := by
 refine aI (C := cx [(58, we)]) (aG ⟨Gt, trivial⟩) (fn := Tryd.f38) rfl rfl rfl rfl fun _ _ => ?_
 repeat' ((conv => whnf); first | apply ai | apply b7)
 all_goals try conv => whnf
 all_goals try (refine a8.mk ?_; try dsimp only)
 all_goals first | refine stay ?_ | trivial | skip
 refine ab.mk [] ?_ <;> (repeat' first | trivial)
def qJ : Sm := fun args σ => match args, σ with
 | [.str s], [] => some (s.length ≤ 1000000, .str (ey s), none)
 | _, _ => none
theorem uG : aE 38 qJ := by
 intro args sg pre x r he hp
 unfold qJ at he
 split at he <;> cases he
 exact EK _ hp
end Go.Proofs.YtllncocibkgjkaaDoor
