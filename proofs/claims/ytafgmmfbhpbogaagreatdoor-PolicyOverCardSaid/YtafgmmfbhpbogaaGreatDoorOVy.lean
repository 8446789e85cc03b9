/-
  A policy admits the text of an empty list, or does not.
-/
import Derived.Test.YtafgmmfbhpbogaaGreatDoorOVx
import Derived.Test.YtafgmmfbhpbogaaGreatDoorOVh
set_option linter.unusedSimpArgs false
set_option linter.unusedVariables false
set_option maxHeartbeats 4000000
namespace Go.Proofs.YtafgmmfbhpbogaaGreatDoor
open Go Go.VG
set_option maxRecDepth 100000
theorem f_xHouse_1  (hp : True) : OK 15 ([]) ([]) (.agg [.int .i64 65536, .int .i64 1024, .int .i64 32, .int .i64 100, .int .i64 32]) (none) := by
  refine funOK_of_vc (C := cx []) (good trivial) (fn := Tryz.f15) rfl rfl rfl rfl fun hw hs => ?_
  repeat' ((conv => whnf); first | with_reducible (first | refine go1 (fun j q h => ?_) fun h => ?_ | refine go2 ⟨rfl, rfl⟩ (fun h => ?_) fun j h => ?_ | refine go2 ?_ (fun h => ?_) fun j h => ?_ | refine goQ ?_ (fun h => ?_) fun h => ?_) | apply go3 | apply go4 | apply go5 | ((first | apply go6 | apply go7 | apply go8 | apply go9 | apply goA) <;> intro h) | with_reducible (first | refine IdxK.mk _ rfl ?_ | refine goB ?_ fun hc => ?_ | refine goC ?_ fun hc => ?_ | refine goD ?_ fun hc => ?_ | refine goE ?_ fun hc => ?_ | apply goF | apply goG | refine goH ?_ fun b hb => ?_) | apply goI | apply goJ | apply goK | apply goL | apply goM | apply goN | apply goO | with_reducible refine goP ?_)
  all_goals try conv => whnf
  all_goals try (refine Side.mk ?_; try dsimp only)
  all_goals first | refine stay ?_ | trivial | omega | (simp (discharger := omega) only [wR]; omega) | (simp only [lnS]; omega) | (simp (discharger := omega) [-List.getD_eq_getElem?_getD, wR] <;> omega) | skip
  refine EndP.mk [] ?_ <;> (repeat' first | trivial | rfl | exact eqS _ _ | apply andI | apply eqA | apply eqB | apply eqC | apply eqD | apply eqE | apply eqF | apply eqG | apply eqH | apply eqI)
def sm_xHouse : Sm := fun args σ => match args, σ with
  | [], [] => some (True, .agg [.int .i64 65536, .int .i64 1024, .int .i64 32, .int .i64 100, .int .i64 32], none)
  | _, _ => none
theorem k_xHouse : SOK 15 sm_xHouse := by
  intro args sg pre x r he hp
  unfold sm_xHouse at he
  split at he <;> cases he
  · exact f_xHouse_1 (hp := hp) ..
theorem f_xSized_1 (i t : Int) (hp : (t = 0 ∧ (i = 0 ∨ i = 2 ∨ i = -1)) ∨ (i = 65536 ∧ t = 1024)) : OK 26 ([.agg [.int .i64 i, .int .i64 t], .agg [.int .i64 65536, .int .i64 1024]]) ([]) (.bool (decide (i ≠ -1))) (none) := by
  refine funOK_of_vc (C := cx []) (good trivial) (fn := Tryz.f26) rfl rfl rfl rfl fun hw hs => ?_
  rcases hp with ⟨rfl, rfl | rfl | rfl⟩ | ⟨rfl, rfl⟩
  all_goals
    repeat' ((conv => whnf); first | with_reducible (first | refine go1 (fun j q h => ?_) fun h => ?_ | refine go2 ⟨rfl, rfl⟩ (fun h => ?_) fun j h => ?_ | refine go2 ?_ (fun h => ?_) fun j h => ?_ | refine goQ ?_ (fun h => ?_) fun h => ?_) | apply go3 | apply go4 | apply go5 | ((first | apply go6 | apply go7 | apply go8 | apply go9 | apply goA) <;> intro h) | with_reducible (first | refine IdxK.mk _ rfl ?_ | refine goB ?_ fun hc => ?_ | refine goC ?_ fun hc => ?_ | refine goD ?_ fun hc => ?_ | refine goE ?_ fun hc => ?_ | apply goF | apply goG | refine goH ?_ fun b hb => ?_) | apply goI | apply goJ | apply goK | apply goL | apply goM | apply goN | apply goO | with_reducible refine goP ?_)
    all_goals try conv => whnf
    all_goals try (refine Side.mk ?_; try dsimp only)
    refine EndP.mk [] ?_ <;> (repeat' first | trivial | rfl | exact eqS _ _ | apply andI | apply eqA | apply eqB | apply eqC | apply eqD | apply eqE | apply eqF | apply eqG | apply eqH | apply eqI)
def sm_xSized : Sm := fun args σ => match args, σ with
  | [.agg [.int .i64 i, .int .i64 t], .agg [.int .i64 65536, .int .i64 1024]], [] => some ((t = 0 ∧ (i = 0 ∨ i = 2 ∨ i = -1)) ∨ (i = 65536 ∧ t = 1024), .bool (decide (i ≠ -1)), none)
  | _, _ => none
theorem k_xSized : SOK 26 sm_xSized := by
  intro args sg pre x r he hp
  unfold sm_xSized at he
  split at he <;> cases he
  · exact f_xSized_1 (hp := hp) ..
theorem f_xCounted_1 (r s a : Int) (hp : (r = 0 ∧ s = 0 ∧ a = 0) ∨ (r = 32 ∧ s = 100 ∧ a = 32)) : OK 27 ([.agg [.int .i64 r, .int .i64 s, .int .i64 a], .agg [.int .i64 32, .int .i64 100, .int .i64 32]]) ([]) (.bool true) (none) := by
  refine funOK_of_vc (C := cx []) (good trivial) (fn := Tryz.f27) rfl rfl rfl rfl fun hw hs => ?_
  rcases hp with ⟨rfl, rfl, rfl⟩ | ⟨rfl, rfl, rfl⟩
  all_goals
    repeat' ((conv => whnf); first | with_reducible (first | refine go1 (fun j q h => ?_) fun h => ?_ | refine go2 ⟨rfl, rfl⟩ (fun h => ?_) fun j h => ?_ | refine go2 ?_ (fun h => ?_) fun j h => ?_ | refine goQ ?_ (fun h => ?_) fun h => ?_) | apply go3 | apply go4 | apply go5 | ((first | apply go6 | apply go7 | apply go8 | apply go9 | apply goA) <;> intro h) | with_reducible (first | refine IdxK.mk _ rfl ?_ | refine goB ?_ fun hc => ?_ | refine goC ?_ fun hc => ?_ | refine goD ?_ fun hc => ?_ | refine goE ?_ fun hc => ?_ | apply goF | apply goG | refine goH ?_ fun b hb => ?_) | apply goI | apply goJ | apply goK | apply goL | apply goM | apply goN | apply goO | with_reducible refine goP ?_)
    all_goals try conv => whnf
    all_goals try (refine Side.mk ?_; try dsimp only)
    refine EndP.mk [] ?_ <;> (repeat' first | trivial | rfl | exact eqS _ _ | apply andI | apply eqA | apply eqB | apply eqC | apply eqD | apply eqE | apply eqF | apply eqG | apply eqH | apply eqI)
def sm_xCounted : Sm := fun args σ => match args, σ with
  | [.agg [.int .i64 r, .int .i64 s, .int .i64 a], .agg [.int .i64 32, .int .i64 100, .int .i64 32]], [] => some ((r = 0 ∧ s = 0 ∧ a = 0) ∨ (r = 32 ∧ s = 100 ∧ a = 32), .bool true, none)
  | _, _ => none
theorem k_xCounted : SOK 27 sm_xCounted := by
  intro args sg pre x r he hp
  unfold sm_xCounted at he
  split at he <;> cases he
  · exact f_xCounted_1 (hp := hp) ..
theorem f_xMay_1 (i t r s a : Int) (hp : (t = 0 ∧ (i = 0 ∨ i = 2 ∨ i = -1) ∧ r = 0 ∧ s = 0 ∧ a = 0) ∨ (i = 65536 ∧ t = 1024 ∧ r = 32 ∧ s = 100 ∧ a = 32)) : OK 16 ([.agg [.int .i64 i, .int .i64 t, .int .i64 r, .int .i64 s, .int .i64 a]]) ([]) (.bool (decide (i ≠ -1))) (none) := by
  refine funOK_of_vc (C := cx [(15, sm_xHouse), (26, sm_xSized), (27, sm_xCounted)]) (good ⟨k_xHouse, k_xSized, k_xCounted, trivial⟩) (fn := Tryz.f16) rfl rfl rfl rfl fun hw hs => ?_
  rcases hp with ⟨rfl, rfl | rfl | rfl, rfl, rfl, rfl⟩ | ⟨rfl, rfl, rfl, rfl, rfl⟩
  all_goals
    repeat' ((conv => whnf); first | with_reducible (first | refine go1 (fun j q h => ?_) fun h => ?_ | refine go2 ⟨rfl, rfl⟩ (fun h => ?_) fun j h => ?_ | refine go2 ?_ (fun h => ?_) fun j h => ?_ | refine goQ ?_ (fun h => ?_) fun h => ?_) | apply go3 | apply go4 | apply go5 | ((first | apply go6 | apply go7 | apply go8 | apply go9 | apply goA) <;> intro h) | with_reducible (first | refine IdxK.mk _ rfl ?_ | refine goB ?_ fun hc => ?_ | refine goC ?_ fun hc => ?_ | refine goD ?_ fun hc => ?_ | refine goE ?_ fun hc => ?_ | apply goF | apply goG | refine goH ?_ fun b hb => ?_) | apply goI | apply goJ | apply goK | apply goL | apply goM | apply goN | apply goO | with_reducible refine goP ?_)
    all_goals try conv => whnf
    all_goals try (refine Side.mk ?_; try dsimp only)
    all_goals first
      | trivial
      | exact .inl rfl
      | exact ⟨trivial, trivial⟩
      | rfl
      | (show EndP _ _ _ _ _ _
         refine EndP.mk [] ?_ <;> (repeat' first | trivial | rfl | exact eqS _ _ | apply andI | apply eqA | apply eqB | apply eqC | apply eqD | apply eqE | apply eqF | apply eqG | apply eqH | apply eqI)
         done)
def sm_xMay : Sm := fun args σ => match args, σ with
  | [.agg [.int .i64 i, .int .i64 t, .int .i64 r, .int .i64 s, .int .i64 a]], [] => some ((t = 0 ∧ (i = 0 ∨ i = 2 ∨ i = -1) ∧ r = 0 ∧ s = 0 ∧ a = 0) ∨ (i = 65536 ∧ t = 1024 ∧ r = 32 ∧ s = 100 ∧ a = 32), .bool (decide (i ≠ -1)), none)
  | _, _ => none
theorem k_xMay : SOK 16 sm_xMay := by
  intro args sg pre x r he hp
  unfold sm_xMay at he
  split at he <;> cases he
  · exact f_xMay_1 (hp := hp) ..
-- #name xOver (policy.Policy).Over
def sm_xOver : Sm := fun args σ => match args, σ with
  | [.agg [.int .i64 2, .int .i64 0, .int .i64 0, .int .i64 0, .int .i64 0], .agg [.list true 0 []]], [] => some (True, .int .i64 0, none)
  | _, _ => none
theorem btv_nil : BtV [] := ⟨fun _ h => (by cases h)⟩
theorem k_xOver : SOK 7 sm_xOver := by
  intro args sg pre x r he hp
  unfold sm_xOver at he
  split at he <;> cases he
  exact (f_polOver ⟨2, 0, 0, 0, 0⟩ [] bt_nil btv_nil).args (WkL.cons (Wk.refl _) (WkL.cons (Wk.agg (WkL.cons (Wk.nil (.inl rfl)) WkL.nil)) WkL.nil))
theorem f_xAdmit_1 (i : Int) (s : List UInt8) (hp : s = [91, 93] ∧ (i = 0 ∨ i = 2 ∨ i = -1)) : OK 14 ([.agg [.int .i64 i, .int .i64 0, .int .i64 0, .int .i64 0, .int .i64 0], .int .i64 3, .str s]) ([]) (.tuple [.agg [.list true 0 []], .int .i64 (if i = 0 then 2 else if i = 2 then 0 else 1)]) (none) := by
  refine funOK_of_vc (C := cx [(16, sm_xMay), (24, sm_xClass), (25, sm_xIngest), (7, sm_xOver)]) (good ⟨k_xMay, k_xClass, k_xIngest, k_xOver, trivial⟩) (fn := Tryz.f14) rfl rfl rfl rfl fun hw hs => ?_
  obtain ⟨rfl, rfl | rfl | rfl⟩ := hp
  all_goals
    repeat' ((conv => whnf); first | with_reducible (first | refine go1 (fun j q h => ?_) fun h => ?_ | refine go2 ⟨rfl, rfl⟩ (fun h => ?_) fun j h => ?_ | refine go2 ?_ (fun h => ?_) fun j h => ?_ | refine goQ ?_ (fun h => ?_) fun h => ?_) | apply go3 | apply go4 | apply go5 | ((first | apply go6 | apply go7 | apply go8 | apply go9 | apply goA) <;> intro h) | with_reducible (first | refine IdxK.mk _ rfl ?_ | refine goB ?_ fun hc => ?_ | refine goC ?_ fun hc => ?_ | refine goD ?_ fun hc => ?_ | refine goE ?_ fun hc => ?_ | apply goF | apply goG | refine goH ?_ fun b hb => ?_) | apply goI | apply goJ | apply goK | apply goL | apply goM | apply goN | apply goO | with_reducible refine goP ?_)
    all_goals try conv => whnf
    all_goals try (refine Side.mk ?_; try dsimp only)
    all_goals first
      | trivial
      | exact .inl rfl
      | exact ⟨trivial, trivial⟩
      | rfl
      | (show EndP _ _ _ _ _ _
         refine EndP.mk [] ?_ <;> (repeat' first | trivial | rfl | exact eqS _ _ | apply andI | apply eqA | apply eqB | apply eqC | apply eqD | apply eqE | apply eqF | apply eqG | apply eqH | apply eqI)
         done)
def sm_xAdmit : Sm := fun args σ => match args, σ with
  | [.agg [.int .i64 i, .int .i64 0, .int .i64 0, .int .i64 0, .int .i64 0], .int .i64 3, .str s], [] => some (s = [91, 93] ∧ (i = 0 ∨ i = 2 ∨ i = -1), .tuple [.agg [.list true 0 []], .int .i64 (if i = 0 then 2 else if i = 2 then 0 else 1)], none)
  | _, _ => none
theorem k_xAdmit : SOK 14 sm_xAdmit := by
  intro args sg pre x r he hp
  unfold sm_xAdmit at he
  split at he <;> cases he
  · exact f_xAdmit_1 (hp := hp) ..
end Go.Proofs.YtafgmmfbhpbogaaGreatDoor
