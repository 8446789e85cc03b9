/-
  Digits to the base 16.
-/
import Derived.Test.YtllncocibkgjkaaTxt0
set_option linter.unusedSimpArgs false
set_option linter.unusedVariables false
set_option maxHeartbeats 4000000
namespace Go.Proofs.Ytllncocibkgjkaa
open Go Go.VG
set_option maxRecDepth 100000
theorem a6c (s : List UInt8) (hs : s.length ≤ 1000000) : OK 73 [.str s] [] (.str (acu s)) none := by
  refine aa0 (C := cx []) (abh trivial) (fn := Try.f73) rfl rfl rfl rfl fun _ _ => ?_
  refine abt.mk Nat (fun i => i ≤ s.length) (fun i => ⟨35, [(0,.str s),(3,.str (acu (s.take i))),(4,.int .i64 i)], [], []⟩) (fun i => s.length - i) [] 0 (Nat.zero_le _) ?_ (fun i hi _ _ => ?_)
  · refine Go.VG.Sub.mk rfl ?_ ?_ ?_ ?_ <;> (repeat' first | trivial | rfl | exact eqS _ _ | apply And.intro | apply eqA | apply eqB | apply eqC | apply eqD | apply eqE | apply eqF | apply eqG | apply eqH | apply eqI)
  repeat' ((conv => whnf); first | with_reducible (first | refine go1 (fun j q h => ?_) fun h => ?_ | refine go2 ⟨rfl, rfl⟩ (fun h => ?_) fun j h => ?_ | refine go2 ?_ (fun h => ?_) fun j h => ?_ | refine goQ ?_ (fun h => ?_) fun h => ?_) | refine go3 ?_ ?_ | refine go4 ?_ ?_ | refine go5 ?_ | ((first | refine go6 ?_ ?_ | refine go7 ?_ ?_ | refine go8 ?_ ?_ | refine go9 ?_ ?_ | refine goA ?_ ?_) <;> intro h) | with_reducible (first | refine aai.mk _ rfl ?_ | refine goB ?_ fun hc => ?_ | refine goC ?_ fun hc => ?_ | refine goD ?_ fun hc => ?_ | refine goE ?_ fun hc => ?_ | refine goF ?_ ?_ | refine goG ?_ ?_ | refine goH ?_ fun b hb => ?_) | refine goI ?_ | refine goJ ?_ ?_ | refine goK ?_ ?_ ?_ | refine goL ?_ ?_ ?_ ?_ | refine goM ?_ ?_ ?_ ?_ ?_ | refine goN ?_ ?_ | refine goO ?_ ?_ | with_reducible refine goP ?_)
  all_goals try conv => whnf
  all_goals try (refine aac.mk ?_; try dsimp only)
  all_goals first
    | (refine stay ?_)
    | (first | trivial | omega | (simp (discharger := omega) only [wR]; omega) | (simp only [lnS]; omega) | (simp (discharger := omega) [-List.getD_eq_getElem?_getD, wR] <;> omega)) | skip
  · refine ⟨[], i + 1, by omega, ?_, by omega⟩
    refine Go.VG.Sub.mk rfl ?_ ?_ ?_ ?_ <;> (repeat' first | trivial | rfl | exact eqS _ _ | apply And.intro | apply eqA | apply eqB | apply eqC | apply eqD | apply eqE | apply eqF | apply eqG | apply eqH | apply eqI)
    · rw [am3 (by omega), ak1]
      simp only [acu]
      rw [a0u ((s.getD i 0).toNat / 16) (n := IntKind.u8.wrap _), a0u ((s.getD i 0).toNat % 16)]
      · simp
      all_goals (first | omega | (simp (discharger := omega) only [wR]; omega) | (simp only [lnS]; omega) | (simp (discharger := omega) [-List.getD_eq_getElem?_getD, wR] <;> omega))
    · rw [a27]; omega
  · refine aa9.mk [] ?_ <;> (repeat' first | trivial | rfl | exact eqS _ _ | apply And.intro | apply eqA | apply eqB | apply eqC | apply eqD | apply eqE | apply eqF | apply eqG | apply eqH | apply eqI)
    rw [List.take_of_length_le (by omega)]
def an8 : Sm := fun args σ => match args, σ with
  | [.str s], [] => some (s.length ≤ 1000000, .str (acu s), none)
  | _, _ => none
theorem a6z : SOK 73 an8 := by
  intro args sg pre x r he hp
  unfold an8 at he
  split at he <;> cases he
  exact a6c _ hp

theorem a66 (s : List UInt8) (hs : s.length ≤ 1000000) : OK 107 [.list true 0 [], .str s] [] (.buf 0) (some [.buf 1 0 (bl (acu s))]) := by
  refine aa0 (C := cx []) (abh trivial) (fn := Try.f107) rfl rfl rfl rfl fun _ _ => ?_
  repeat' ((conv => whnf); first | with_reducible (first | refine go1 (fun j q h => ?_) fun h => ?_ | refine go2 ⟨rfl, rfl⟩ (fun h => ?_) fun j h => ?_ | refine go2 ?_ (fun h => ?_) fun j h => ?_ | refine goQ ?_ (fun h => ?_) fun h => ?_) | refine go3 ?_ ?_ | refine go4 ?_ ?_ | refine go5 ?_ | ((first | refine go6 ?_ ?_ | refine go7 ?_ ?_ | refine go8 ?_ ?_ | refine go9 ?_ ?_ | refine goA ?_ ?_) <;> intro h) | with_reducible (first | refine aai.mk _ rfl ?_ | refine goB ?_ fun hc => ?_ | refine goC ?_ fun hc => ?_ | refine goD ?_ fun hc => ?_ | refine goE ?_ fun hc => ?_ | refine goF ?_ ?_ | refine goG ?_ ?_ | refine goH ?_ fun b hb => ?_) | refine goI ?_ | refine goJ ?_ ?_ | refine goK ?_ ?_ ?_ | refine goL ?_ ?_ ?_ ?_ | refine goM ?_ ?_ ?_ ?_ ?_ | refine goN ?_ ?_ | refine goO ?_ ?_ | with_reducible refine goP ?_)
  all_goals try conv => whnf
  all_goals try (refine aac.mk ?_; try dsimp only)
  all_goals first
    | (refine stay ?_)
    | (first | trivial | omega | (simp (discharger := omega) only [wR]; omega) | (simp only [lnS]; omega) | (simp (discharger := omega) [-List.getD_eq_getElem?_getD, wR] <;> omega)) | skip
  refine abt.mk Nat (fun i => i ≤ s.length) (fun i => ⟨39, [(1,.str s),(5,.buf 0),(20,.int .i64 s.length),(21,.int .i64 i)], [.buf 1 0 (bl (acu (s.take i)))], [0]⟩) (fun i => s.length - i) [] 0 (Nat.zero_le _) ?_ (fun i hi _ _ => ?_)
  · refine Go.VG.Sub.mk rfl ?_ ?_ ?_ ?_ <;> (repeat' first | trivial | rfl | exact eqS _ _ | apply And.intro | apply eqA | apply eqB | apply eqC | apply eqD | apply eqE | apply eqF | apply eqG | apply eqH | apply eqI)
  have hA : a6r .u8 (((s.getD i 0).toNat : Nat) : Int) 4 = (((s.getD i 0).toNat / 16 : Nat) : Int) := aom .u8 _ 4
  have hB : bcb .u8 (((s.getD i 0).toNat : Nat) : Int) 15 = (((s.getD i 0).toNat % 16 : Nat) : Int) := a3s _ (UInt8.toNat_lt _)
  repeat' ((conv => whnf); first | with_reducible (first | refine go1 (fun j q h => ?_) fun h => ?_ | refine go2 ⟨rfl, rfl⟩ (fun h => ?_) fun j h => ?_ | refine go2 ?_ (fun h => ?_) fun j h => ?_ | refine goQ ?_ (fun h => ?_) fun h => ?_) | refine go3 ?_ ?_ | refine go4 ?_ ?_ | refine go5 ?_ | ((first | refine go6 ?_ ?_ | refine go7 ?_ ?_ | refine go8 ?_ ?_ | refine go9 ?_ ?_ | refine goA ?_ ?_) <;> intro h) | with_reducible (first | refine aai.mk _ rfl ?_ | refine goB ?_ fun hc => ?_ | refine goC ?_ fun hc => ?_ | refine goD ?_ fun hc => ?_ | refine goE ?_ fun hc => ?_ | refine goF ?_ ?_ | refine goG ?_ ?_ | refine goH ?_ fun b hb => ?_) | refine goI ?_ | refine goJ ?_ ?_ | refine goK ?_ ?_ ?_ | refine goL ?_ ?_ ?_ ?_ | refine goM ?_ ?_ ?_ ?_ ?_ | refine goN ?_ ?_ | refine goO ?_ ?_ | with_reducible refine goP ?_)
  all_goals try conv => whnf
  all_goals try (refine aac.mk ?_; try dsimp only)
  all_goals first
    | (refine stay ?_)
    | (first | trivial | omega | (simp (discharger := omega) only [wR]; omega) | (simp only [lnS]; omega) | (simp (discharger := omega) [-List.getD_eq_getElem?_getD, wR] <;> omega)) | skip
  · simp only [aap, aav, List.length_take, List.length_cons, List.length_nil]; omega
  · refine ⟨[], i + 1, by omega, ?_, by omega⟩
    refine Go.VG.Sub.mk rfl ?_ ?_ ?_ ?_ <;> (repeat' first | trivial | rfl | exact eqS _ _ | apply And.intro | apply eqA | apply eqB | apply eqC | apply eqD | apply eqE | apply eqF | apply eqG | apply eqH | apply eqI)
    · (first | omega | (simp (discharger := omega) only [wR]; omega) | (simp only [lnS]; omega) | (simp (discharger := omega) [-List.getD_eq_getElem?_getD, wR] <;> omega))
    · rw [am3 (by omega), ak1, aau]
      refine congrArg _ ?_
      simp only [acu, bl, bv, hexd, hA, hB, Int.toNat_natCast]
      rfl
  · refine aa9.mk [] ?_ <;> (repeat' first | trivial | rfl | exact eqS _ _ | apply And.intro | apply eqA | apply eqB | apply eqC | apply eqD | apply eqE | apply eqF | apply eqG | apply eqH | apply eqI)
    rw [List.take_of_length_le (by omega)]
def an5 : Sm := fun args σ => match args, σ with
  | [.list true _ [], .str s], [] => some (s.length ≤ 1000000, .buf 0, some [.buf 1 0 (bl (acu s))])
  | _, _ => none
theorem a6w : SOK 107 an5 := by
  intro args sg pre x r he hp
  unfold an5 at he
  split at he <;> cases he
  exact (a66 _ hp).args (WkL.cons (Wk.nil (.inl rfl)) (WkL.refl _))

theorem a2x (s : List UInt8) (hs : s.length ≤ 1000000) : OK 91 [.str s] [] (.str (acu s)) none := by
  refine aa0 (C := cx [(107, an5)]) (abh ⟨a6w, trivial⟩) (fn := Try.f91) rfl rfl rfl rfl fun _ _ => ?_
  repeat' ((conv => whnf); first | with_reducible (first | refine go1 (fun j q h => ?_) fun h => ?_ | refine go2 ⟨rfl, rfl⟩ (fun h => ?_) fun j h => ?_ | refine go2 ?_ (fun h => ?_) fun j h => ?_ | refine goQ ?_ (fun h => ?_) fun h => ?_) | refine go3 ?_ ?_ | refine go4 ?_ ?_ | refine go5 ?_ | ((first | refine go6 ?_ ?_ | refine go7 ?_ ?_ | refine go8 ?_ ?_ | refine go9 ?_ ?_ | refine goA ?_ ?_) <;> intro h) | with_reducible (first | refine aai.mk _ rfl ?_ | refine goB ?_ fun hc => ?_ | refine goC ?_ fun hc => ?_ | refine goD ?_ fun hc => ?_ | refine goE ?_ fun hc => ?_ | refine goF ?_ ?_ | refine goG ?_ ?_ | refine goH ?_ fun b hb => ?_) | refine goI ?_ | refine goJ ?_ ?_ | refine goK ?_ ?_ ?_ | refine goL ?_ ?_ ?_ ?_ | refine goM ?_ ?_ ?_ ?_ ?_ | refine goN ?_ ?_ | refine goO ?_ ?_ | with_reducible refine goP ?_)
  all_goals try conv => whnf
  all_goals try (refine aac.mk ?_; try dsimp only)
  all_goals first
    | (refine stay ?_)
    | (first | trivial | omega | (simp (discharger := omega) only [wR]; omega) | (simp only [lnS]; omega) | (simp (discharger := omega) [-List.getD_eq_getElem?_getD, wR] <;> omega)) | skip
  refine aa9.mk [] ?_ <;> (repeat' first | trivial | rfl | exact eqS _ _ | apply And.intro | apply eqA | apply eqB | apply eqC | apply eqD | apply eqE | apply eqF | apply eqG | apply eqH | apply eqI)
def akm : Sm := fun args σ => match args, σ with
  | [.str s], [] => some (s.length ≤ 1000000, .str (acu s), none)
  | _, _ => none
theorem a3t : SOK 91 akm := by
  intro args sg pre x r he hp
  unfold akm at he
  split at he <;> cases he
  exact a2x _ hp
end Go.Proofs.Ytllncocibkgjkaa
