/-
  Digits to the base 16.
-/
import Derived.Test.YtafgmmfbhpbogaaGreatDoorTxt0
set_option linter.unusedSimpArgs false
set_option linter.unusedVariables false
set_option maxHeartbeats 4000000
namespace Go.Proofs.YtafgmmfbhpbogaaGreatDoor
open Go Go.VG
set_option maxRecDepth 100000
theorem f_r04Text (s : List UInt8) (hs : s.length ≤ 1000000) : OK 56 [.str s] [] (.str (hexText s)) none := by
  refine funOK_of_vc (C := cx []) (good trivial) (fn := Tryz.f56) rfl rfl rfl rfl fun _ _ => ?_
  refine LoopP.mk Nat (fun i => i ≤ s.length) (fun i => ⟨35, [(0,.str s),(3,.str (hexText (s.take i))),(4,.int .i64 i)], [], []⟩) (fun i => s.length - i) [] 0 (Nat.zero_le _) ?_ (fun i hi _ _ => ?_)
  · refine Go.VG.Sub.mk rfl ?_ ?_ ?_ ?_ <;> (repeat' first | trivial)
  repeat' ((conv => whnf); first | apply go3 | (apply go6 <;> intro h) | with_reducible refine goD ?_ fun hc => ?_)
  all_goals try conv => whnf
  all_goals try (refine Side.mk ?_; try dsimp only)
  all_goals first | refine stay ?_ | trivial | omega | (simp (discharger := omega) [-List.getD_eq_getElem?_getD, wR] <;> omega) | skip
  · refine ⟨[], i + 1, by omega, ?_, by omega⟩
    refine Go.VG.Sub.mk rfl ?_ ?_ ?_ ?_ <;> (repeat' first | trivial | apply andI | apply eqA | apply eqB)
    · rw [take_next (by omega), hexText_append]
      simp only [hexText]
      rw [hexd_cut ((s.getD i 0).toNat / 16) (n := IntKind.u8.wrap _), hexd_cut ((s.getD i 0).toNat % 16)]
      · simp
      all_goals (first | omega | (simp (discharger := omega) only [wR]; omega))
    · rw [wi64]; omega
  · refine EndP.mk [] ?_ <;> (repeat' first | trivial | apply andI | apply eqA)
    rw [List.take_of_length_le (by omega)]
def sm_r04Text : Sm := fun args σ => match args, σ with
  | [.str s], [] => some (s.length ≤ 1000000, .str (hexText s), none)
  | _, _ => none
theorem k_r04Text : SOK 56 sm_r04Text := by
  intro args sg pre x r he hp
  unfold sm_r04Text at he
  split at he <;> cases he
  exact f_r04Text _ hp

theorem f_hexaPut (s : List UInt8) (hs : s.length ≤ 1000000) : OK 51 [.list true 0 [], .str s] [] (.buf 0) (some [.buf 1 0 (bl (hexText s))]) := by
  refine funOK_of_vc (C := cx []) (good trivial) (fn := Tryz.f51) rfl rfl rfl rfl fun _ _ => ?_
  repeat' ((conv => whnf); apply go3)
  all_goals try conv => whnf
  all_goals try (refine Side.mk ?_; try dsimp only)
  all_goals first | refine stay ?_ | (simp (discharger := omega) [-List.getD_eq_getElem?_getD, wR] <;> omega) | skip
  refine LoopP.mk Nat (fun i => i ≤ s.length) (fun i => ⟨39, [(1,.str s),(5,.buf 0),(20,.int .i64 s.length),(21,.int .i64 i)], [.buf 1 0 (bl (hexText (s.take i)))], [0]⟩) (fun i => s.length - i) [] 0 (Nat.zero_le _) ?_ (fun i hi _ _ => ?_)
  · refine Go.VG.Sub.mk rfl ?_ ?_ ?_ ?_ <;> (repeat' first | trivial)
  have hA : iShr .u8 (((s.getD i 0).toNat : Nat) : Int) 4 = (((s.getD i 0).toNat / 16 : Nat) : Int) := iShr_nat .u8 _ 4
  have hB : iAnd .u8 (((s.getD i 0).toNat : Nat) : Int) 15 = (((s.getD i 0).toNat % 16 : Nat) : Int) := iAnd_u8_15 _ (UInt8.toNat_lt _)
  repeat' ((conv => whnf); first | apply go3 | (apply go6 <;> intro h) | with_reducible (first | refine goD ?_ fun hc => ?_ | refine goE ?_ fun hc => ?_))
  all_goals try conv => whnf
  all_goals try (refine Side.mk ?_; try dsimp only)
  all_goals first | refine stay ?_ | trivial | omega | (simp only [lnS]; omega) | skip
  · simp only [bl_length, hexText_length, List.length_take, List.length_cons, List.length_nil]; omega
  · refine ⟨[], i + 1, by omega, ?_, by omega⟩
    refine Go.VG.Sub.mk rfl ?_ ?_ ?_ ?_ <;> (repeat' first | trivial | apply andI | apply eqB | apply eqD)
    · (simp (discharger := omega) only [wR]; omega)
    · rw [take_next (by omega), hexText_append, bl_append]
      refine congrArg _ ?_
      simp only [hexText, bl, bv, hexd, hA, hB, Int.toNat_natCast]
      rfl
  · refine EndP.mk [] ?_ <;> (repeat' first | trivial | apply andI | apply eqD)
    rw [List.take_of_length_le (by omega)]
def sm_hexaPut : Sm := fun args σ => match args, σ with
  | [.list true _ [], .str s], [] => some (s.length ≤ 1000000, .buf 0, some [.buf 1 0 (bl (hexText s))])
  | _, _ => none
theorem k_hexaPut : SOK 51 sm_hexaPut := by
  intro args sg pre x r he hp
  unfold sm_hexaPut at he
  split at he <;> cases he
  exact (f_hexaPut _ hp).args (WkL.cons (Wk.nil (.inl rfl)) (WkL.refl _))

theorem f_hexaText (s : List UInt8) (hs : s.length ≤ 1000000) : OK 38 [.str s] [] (.str (hexText s)) none := by
  refine funOK_of_vc (C := cx [(51, sm_hexaPut)]) (good ⟨k_hexaPut, trivial⟩) (fn := Tryz.f38) rfl rfl rfl rfl fun _ _ => ?_
  repeat' ((conv => whnf); first | apply go3 | apply goI)
  all_goals try conv => whnf
  all_goals try (refine Side.mk ?_; try dsimp only)
  all_goals first | refine stay ?_ | trivial | skip
  refine EndP.mk [] ?_ <;> (repeat' first | trivial)
def sm_hexaText : Sm := fun args σ => match args, σ with
  | [.str s], [] => some (s.length ≤ 1000000, .str (hexText s), none)
  | _, _ => none
theorem k_hexaText : SOK 38 sm_hexaText := by
  intro args sg pre x r he hp
  unfold sm_hexaText at he
  split at he <;> cases he
  exact f_hexaText _ hp
end Go.Proofs.YtafgmmfbhpbogaaGreatDoor
