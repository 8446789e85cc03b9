/-
  The text of an empty list, taken in.
-/
import Derived.Test.YtafgmmfbhpbogaaGreatDoorOVw
set_option linter.unusedSimpArgs false
set_option linter.unusedVariables false
set_option maxHeartbeats 4000000
namespace Go.Proofs.YtafgmmfbhpbogaaGreatDoor
open Go Go.VG
set_option maxRecDepth 100000
theorem f_xKids_1 (a s : Int) (hp : a = 91 ∧ s = 1) : OK 81 ([.buf 0, .int .i64 0]) ([.buf 4 0 [.agg [.int .u8 a, .str [], .str [], .int .i64 s]]]) (.list true 0 []) (none) := by
  refine funOK_of_vc (C := cx []) (good trivial) (fn := Tryz.f81) rfl rfl rfl rfl fun hw hs => ?_
  obtain ⟨rfl, rfl⟩ := hp
  repeat' ((conv => whnf); first | with_reducible (first | refine go1 (fun j q h => ?_) fun h => ?_ | refine go2 ⟨rfl, rfl⟩ (fun h => ?_) fun j h => ?_ | refine go2 ?_ (fun h => ?_) fun j h => ?_ | refine goQ ?_ (fun h => ?_) fun h => ?_) | apply go3 | apply go4 | apply go5 | ((first | apply go6 | apply go7 | apply go8 | apply go9 | apply goA) <;> intro h) | with_reducible (first | refine IdxK.mk _ rfl ?_ | refine goB ?_ fun hc => ?_ | refine goC ?_ fun hc => ?_ | refine goD ?_ fun hc => ?_ | refine goE ?_ fun hc => ?_ | apply goF | apply goG | refine goH ?_ fun b hb => ?_) | apply goI | apply goJ | apply goK | apply goL | apply goM | apply goN | apply goO | with_reducible refine goP ?_)
  all_goals try conv => whnf
  all_goals try (refine Side.mk ?_; try dsimp only)
  all_goals first
    | (show (0 : Int) ≤ _; decide)
    | (constructor <;> decide)
    | skip
  refine LoopP.mk Unit (fun _ => True) (fun _ => ⟨50, [(5, .list true 0 []), (6, .int .i64 1), (7, .int .i64 1)], [.buf 4 0 [.agg [.int .u8 91, .str [], .str [], .int .i64 1]]], []⟩) (fun _ => 0) [] () trivial ?_ (fun _ _ _ _ => ?_)
  · refine Go.VG.Sub.mk rfl ?_ ?_ ?_ ?_ <;> (repeat' first | trivial | rfl | exact eqS _ _ | apply andI | apply eqA | apply eqB | apply eqC | apply eqD | apply eqE | apply eqF | apply eqG | apply eqH | apply eqI)
  repeat' ((conv => whnf); first | with_reducible (first | refine go1 (fun j q h => ?_) fun h => ?_ | refine go2 ⟨rfl, rfl⟩ (fun h => ?_) fun j h => ?_ | refine go2 ?_ (fun h => ?_) fun j h => ?_ | refine goQ ?_ (fun h => ?_) fun h => ?_) | apply go3 | apply go4 | apply go5 | ((first | apply go6 | apply go7 | apply go8 | apply go9 | apply goA) <;> intro h) | with_reducible (first | refine IdxK.mk _ rfl ?_ | refine goB ?_ fun hc => ?_ | refine goC ?_ fun hc => ?_ | refine goD ?_ fun hc => ?_ | refine goE ?_ fun hc => ?_ | apply goF | apply goG | refine goH ?_ fun b hb => ?_) | apply goI | apply goJ | apply goK | apply goL | apply goM | apply goN | apply goO | with_reducible refine goP ?_)
  all_goals try conv => whnf
  all_goals try (refine Side.mk ?_; try dsimp only)
  refine EndP.mk [] ?_ <;> (repeat' first | trivial | rfl | exact eqS _ _ | apply andI | apply eqA | apply eqB | apply eqC | apply eqD | apply eqE | apply eqF | apply eqG | apply eqH | apply eqI)
def sm_xKids : Sm := fun args σ => match args, σ with
  | [.buf 0, .int .i64 0], [.buf 4 0 [.agg [.int .u8 a, .str [], .str [], .int .i64 s]]] => some (a = 91 ∧ s = 1, .list true 0 [], none)
  | _, _ => none
theorem k_xKids : SOK 81 sm_xKids := by
  intro args sg pre x r he hp
  unfold sm_xKids at he
  split at he <;> cases he
  · exact f_xKids_1 (hp := hp) ..
theorem f_xGroup_1  (hp : True) : OK 83 ([.list true 0 [], .list true 0 []]) ([]) (.agg [.list true 0 []]) (none) := by
  refine funOK_of_vc (C := cx []) (good trivial) (fn := Tryz.f83) rfl rfl rfl rfl fun hw hs => ?_
  repeat' ((conv => whnf); first | with_reducible (first | refine go1 (fun j q h => ?_) fun h => ?_ | refine go2 ⟨rfl, rfl⟩ (fun h => ?_) fun j h => ?_ | refine go2 ?_ (fun h => ?_) fun j h => ?_ | refine goQ ?_ (fun h => ?_) fun h => ?_) | apply go3 | apply go4 | apply go5 | ((first | apply go6 | apply go7 | apply go8 | apply go9 | apply goA) <;> intro h) | with_reducible (first | refine IdxK.mk _ rfl ?_ | refine goB ?_ fun hc => ?_ | refine goC ?_ fun hc => ?_ | refine goD ?_ fun hc => ?_ | refine goE ?_ fun hc => ?_ | apply goF | apply goG | refine goH ?_ fun b hb => ?_) | apply goI | apply goJ | apply goK | apply goL | apply goM | apply goN | apply goO | with_reducible refine goP ?_)
  all_goals try conv => whnf
  all_goals try (refine Side.mk ?_; try dsimp only)
  refine LoopP.mk Unit (fun _ => True) (fun _ => ⟨34, [(4, .ptr 0 0), (5, .ptr 2 0), (14, .int .i64 0), (15, .int .i64 0)], [.cells [.list true 0 []], .map false [.kS] [] [] 0, .cells [.map 1, .list true 0 []]], []⟩) (fun _ => 0) [] () trivial ?_ (fun _ _ _ _ => ?_)
  · refine Go.VG.Sub.mk rfl ?_ ?_ ?_ ?_ <;> (repeat' first | trivial | rfl | exact eqS _ _ | apply andI | apply eqA | apply eqB | apply eqC | apply eqD | apply eqE | apply eqF | apply eqG | apply eqH | apply eqI)
  repeat' ((conv => whnf); first | with_reducible (first | refine go1 (fun j q h => ?_) fun h => ?_ | refine go2 ⟨rfl, rfl⟩ (fun h => ?_) fun j h => ?_ | refine go2 ?_ (fun h => ?_) fun j h => ?_ | refine goQ ?_ (fun h => ?_) fun h => ?_) | apply go3 | apply go4 | apply go5 | ((first | apply go6 | apply go7 | apply go8 | apply go9 | apply goA) <;> intro h) | with_reducible (first | refine IdxK.mk _ rfl ?_ | refine goB ?_ fun hc => ?_ | refine goC ?_ fun hc => ?_ | refine goD ?_ fun hc => ?_ | refine goE ?_ fun hc => ?_ | apply goF | apply goG | refine goH ?_ fun b hb => ?_) | apply goI | apply goJ | apply goK | apply goL | apply goM | apply goN | apply goO | with_reducible refine goP ?_)
  all_goals try conv => whnf
  all_goals try (refine Side.mk ?_; try dsimp only)
  refine EndP.mk [] ?_ <;> (repeat' first | trivial | rfl | exact eqS _ _ | apply andI | apply eqA | apply eqB | apply eqC | apply eqD | apply eqE | apply eqF | apply eqG | apply eqH | apply eqI)
def sm_xGroup : Sm := fun args σ => match args, σ with
  | [.list true 0 [], .list true 0 []], [] => some (True, .agg [.list true 0 []], none)
  | _, _ => none
theorem k_xGroup : SOK 83 sm_xGroup := by
  intro args sg pre x r he hp
  unfold sm_xGroup at he
  split at he <;> cases he
  · exact f_xGroup_1 (hp := hp) ..
theorem f_xClass_1 (k : Int) (hp : k = 0 ∨ k = 13 ∨ k = 32) : OK 24 ([.int .i64 k]) ([]) (.int .i64 (if k = 0 then 0 else if k = 32 then 2 else 1)) (none) := by
  refine funOK_of_vc (C := cx []) (good trivial) (fn := Tryz.f24) rfl rfl rfl rfl fun hw hs => ?_
  rcases hp with rfl | rfl | rfl
  all_goals
    repeat' ((conv => whnf); first | with_reducible (first | refine go1 (fun j q h => ?_) fun h => ?_ | refine go2 ⟨rfl, rfl⟩ (fun h => ?_) fun j h => ?_ | refine go2 ?_ (fun h => ?_) fun j h => ?_ | refine goQ ?_ (fun h => ?_) fun h => ?_) | apply go3 | apply go4 | apply go5 | ((first | apply go6 | apply go7 | apply go8 | apply go9 | apply goA) <;> intro h) | with_reducible (first | refine IdxK.mk _ rfl ?_ | refine goB ?_ fun hc => ?_ | refine goC ?_ fun hc => ?_ | refine goD ?_ fun hc => ?_ | refine goE ?_ fun hc => ?_ | apply goF | apply goG | refine goH ?_ fun b hb => ?_) | apply goI | apply goJ | apply goK | apply goL | apply goM | apply goN | apply goO | with_reducible refine goP ?_)
    all_goals try conv => whnf
    all_goals try (refine Side.mk ?_; try dsimp only)
    refine EndP.mk [] ?_ <;> (repeat' first | trivial | rfl | exact eqS _ _ | apply andI | apply eqA | apply eqB | apply eqC | apply eqD | apply eqE | apply eqF | apply eqG | apply eqH | apply eqI)
def sm_xClass : Sm := fun args σ => match args, σ with
  | [.int .i64 k], [] => some (k = 0 ∨ k = 13 ∨ k = 32, .int .i64 (if k = 0 then 0 else if k = 32 then 2 else 1), none)
  | _, _ => none
theorem k_xClass : SOK 24 sm_xClass := by
  intro args sg pre x r he hp
  unfold sm_xClass at he
  split at he <;> cases he
  · exact f_xClass_1 (hp := hp) ..
theorem f_xAs_1 (t : TypeId) (hp : True) : OK 47 ([.nilIface, .iface t (.ptr 0 0)]) ([.cells [.nilptr]]) (.bool false) (none) := by
  refine funOK_of_vc (C := cx []) (good trivial) (fn := Tryz.f47) rfl rfl rfl rfl fun hw hs => ?_
  repeat' ((conv => whnf); first | with_reducible (first | refine go1 (fun j q h => ?_) fun h => ?_ | refine go2 ⟨rfl, rfl⟩ (fun h => ?_) fun j h => ?_ | refine go2 ?_ (fun h => ?_) fun j h => ?_ | refine goQ ?_ (fun h => ?_) fun h => ?_) | apply go3 | apply go4 | apply go5 | ((first | apply go6 | apply go7 | apply go8 | apply go9 | apply goA) <;> intro h) | with_reducible (first | refine IdxK.mk _ rfl ?_ | refine goB ?_ fun hc => ?_ | refine goC ?_ fun hc => ?_ | refine goD ?_ fun hc => ?_ | refine goE ?_ fun hc => ?_ | apply goF | apply goG | refine goH ?_ fun b hb => ?_) | apply goI | apply goJ | apply goK | apply goL | apply goM | apply goN | apply goO | with_reducible refine goP ?_)
  all_goals try conv => whnf
  all_goals try (refine Side.mk ?_; try dsimp only)
  all_goals first | refine stay ?_ | trivial | omega | (simp (discharger := omega) only [wR]; omega) | (simp only [lnS]; omega) | (simp (discharger := omega) [-List.getD_eq_getElem?_getD, wR] <;> omega) | skip
  refine EndP.mk [] ?_ <;> (repeat' first | trivial | rfl | exact eqS _ _ | apply andI | apply eqA | apply eqB | apply eqC | apply eqD | apply eqE | apply eqF | apply eqG | apply eqH | apply eqI)
def sm_xAs : Sm := fun args σ => match args, σ with
  | [.nilIface, .iface t (.ptr 0 0)], [.cells [.nilptr]] => some (True, .bool false, none)
  | _, _ => none
theorem k_xAs : SOK 47 sm_xAs := by
  intro args sg pre x r he hp
  unfold sm_xAs at he
  split at he <;> cases he
  · exact f_xAs_1 (hp := hp) ..
theorem f_xOf_1  (hp : True) : OK 33 ([.nilIface]) ([]) (.int .i64 0) (none) := by
  refine funOK_of_vc (C := cx [(47, sm_xAs)]) (good ⟨k_xAs, trivial⟩) (fn := Tryz.f33) rfl rfl rfl rfl fun hw hs => ?_
  repeat' ((conv => whnf); first | with_reducible (first | refine go1 (fun j q h => ?_) fun h => ?_ | refine go2 ⟨rfl, rfl⟩ (fun h => ?_) fun j h => ?_ | refine go2 ?_ (fun h => ?_) fun j h => ?_ | refine goQ ?_ (fun h => ?_) fun h => ?_) | apply go3 | apply go4 | apply go5 | ((first | apply go6 | apply go7 | apply go8 | apply go9 | apply goA) <;> intro h) | with_reducible (first | refine IdxK.mk _ rfl ?_ | refine goB ?_ fun hc => ?_ | refine goC ?_ fun hc => ?_ | refine goD ?_ fun hc => ?_ | refine goE ?_ fun hc => ?_ | apply goF | apply goG | refine goH ?_ fun b hb => ?_) | apply goI | apply goJ | apply goK | apply goL | apply goM | apply goN | apply goO | with_reducible refine goP ?_)
  all_goals try conv => whnf
  all_goals try (refine Side.mk ?_; try dsimp only)
  all_goals first | refine stay ?_ | trivial | omega | (simp (discharger := omega) only [wR]; omega) | (simp only [lnS]; omega) | (simp (discharger := omega) [-List.getD_eq_getElem?_getD, wR] <;> omega) | skip
  refine EndP.mk [] ?_ <;> (repeat' first | trivial | rfl | exact eqS _ _ | apply andI | apply eqA | apply eqB | apply eqC | apply eqD | apply eqE | apply eqF | apply eqG | apply eqH | apply eqI)
def sm_xOf : Sm := fun args σ => match args, σ with
  | [.nilIface], [] => some (True, .int .i64 0, none)
  | _, _ => none
theorem k_xOf : SOK 33 sm_xOf := by
  intro args sg pre x r he hp
  unfold sm_xOf at he
  split at he <;> cases he
  · exact f_xOf_1 (hp := hp) ..
theorem f_xIs_1  (hp : True) : OK 42 ([.int .i64 3]) ([]) (.bool true) (none) := by
  refine funOK_of_vc (C := cx []) (good trivial) (fn := Tryz.f42) rfl rfl rfl rfl fun hw hs => ?_
  repeat' ((conv => whnf); first | with_reducible (first | refine go1 (fun j q h => ?_) fun h => ?_ | refine go2 ⟨rfl, rfl⟩ (fun h => ?_) fun j h => ?_ | refine go2 ?_ (fun h => ?_) fun j h => ?_ | refine goQ ?_ (fun h => ?_) fun h => ?_) | apply go3 | apply go4 | apply go5 | ((first | apply go6 | apply go7 | apply go8 | apply go9 | apply goA) <;> intro h) | with_reducible (first | refine IdxK.mk _ rfl ?_ | refine goB ?_ fun hc => ?_ | refine goC ?_ fun hc => ?_ | refine goD ?_ fun hc => ?_ | refine goE ?_ fun hc => ?_ | apply goF | apply goG | refine goH ?_ fun b hb => ?_) | apply goI | apply goJ | apply goK | apply goL | apply goM | apply goN | apply goO | with_reducible refine goP ?_)
  all_goals try conv => whnf
  all_goals try (refine Side.mk ?_; try dsimp only)
  all_goals first | refine stay ?_ | trivial | omega | (simp (discharger := omega) only [wR]; omega) | (simp only [lnS]; omega) | (simp (discharger := omega) [-List.getD_eq_getElem?_getD, wR] <;> omega) | skip
  refine EndP.mk [] ?_ <;> (repeat' first | trivial | rfl | exact eqS _ _ | apply andI | apply eqA | apply eqB | apply eqC | apply eqD | apply eqE | apply eqF | apply eqG | apply eqH | apply eqI)
def sm_xIs : Sm := fun args σ => match args, σ with
  | [.int .i64 3], [] => some (True, .bool true, none)
  | _, _ => none
theorem k_xIs : SOK 42 sm_xIs := by
  intro args sg pre x r he hp
  unfold sm_xIs at he
  split at he <;> cases he
  · exact f_xIs_1 (hp := hp) ..
-- #name xCount batch.Count
def sm_xCount : Sm := fun args σ => match args, σ with
  | [.agg [.list true 0 []]], [] => some (True, .int .i64 0, none)
  | _, _ => none
theorem bt_nil : BtOK [] := ⟨Nat.zero_le _, Nat.zero_le _, fun _ h => (by cases h), Nat.zero_le _, fun _ h => (by cases h)⟩
theorem k_xCount : SOK 17 sm_xCount := by
  intro args sg pre x r he hp
  unfold sm_xCount at he
  split at he <;> cases he
  exact (f_batCount [] bt_nil).args (WkL.cons (Wk.agg (WkL.cons (Wk.nil (.inl rfl)) WkL.nil)) WkL.nil)
theorem f_xSum_1 (f : Nat) (hp : True) : OK 86 ([.list true 0 [], .func (.func f) [] []]) ([]) (.int .i64 0) (none) := by
  refine funOK_of_vc (C := cx []) (good trivial) (fn := Tryz.f86) rfl rfl rfl rfl fun hw hs => ?_
  repeat' ((conv => whnf); first | with_reducible (first | refine go1 (fun j q h => ?_) fun h => ?_ | refine go2 ⟨rfl, rfl⟩ (fun h => ?_) fun j h => ?_ | refine go2 ?_ (fun h => ?_) fun j h => ?_ | refine goQ ?_ (fun h => ?_) fun h => ?_) | apply go3 | apply go4 | apply go5 | ((first | apply go6 | apply go7 | apply go8 | apply go9 | apply goA) <;> intro h) | with_reducible (first | refine IdxK.mk _ rfl ?_ | refine goB ?_ fun hc => ?_ | refine goC ?_ fun hc => ?_ | refine goD ?_ fun hc => ?_ | refine goE ?_ fun hc => ?_ | apply goF | apply goG | refine goH ?_ fun b hb => ?_) | apply goI | apply goJ | apply goK | apply goL | apply goM | apply goN | apply goO | with_reducible refine goP ?_)
  all_goals try conv => whnf
  all_goals try (refine Side.mk ?_; try dsimp only)
  refine LoopP.mk Unit (fun _ => True) (fun _ => ⟨21, [(5, .int .i64 0), (8, .list true 0 []), (9, .int .i64 0), (10, .int .i64 0)], [], []⟩) (fun _ => 0) [] () trivial ?_ (fun _ _ _ _ => ?_)
  · refine Go.VG.Sub.mk rfl ?_ ?_ ?_ ?_ <;> (repeat' first | trivial | rfl | exact eqS _ _ | apply andI | apply eqA | apply eqB | apply eqC | apply eqD | apply eqE | apply eqF | apply eqG | apply eqH | apply eqI)
  repeat' ((conv => whnf); first | with_reducible (first | refine go1 (fun j q h => ?_) fun h => ?_ | refine go2 ⟨rfl, rfl⟩ (fun h => ?_) fun j h => ?_ | refine go2 ?_ (fun h => ?_) fun j h => ?_ | refine goQ ?_ (fun h => ?_) fun h => ?_) | apply go3 | apply go4 | apply go5 | ((first | apply go6 | apply go7 | apply go8 | apply go9 | apply goA) <;> intro h) | with_reducible (first | refine IdxK.mk _ rfl ?_ | refine goB ?_ fun hc => ?_ | refine goC ?_ fun hc => ?_ | refine goD ?_ fun hc => ?_ | refine goE ?_ fun hc => ?_ | apply goF | apply goG | refine goH ?_ fun b hb => ?_) | apply goI | apply goJ | apply goK | apply goL | apply goM | apply goN | apply goO | with_reducible refine goP ?_)
  all_goals try conv => whnf
  all_goals try (refine Side.mk ?_; try dsimp only)
  refine EndP.mk [] ?_ <;> (repeat' first | trivial | rfl | exact eqS _ _ | apply andI | apply eqA | apply eqB | apply eqC | apply eqD | apply eqE | apply eqF | apply eqG | apply eqH | apply eqI)
def sm_xSum : Sm := fun args σ => match args, σ with
  | [.list true 0 [], .func (.func f) [] []], [] => some (True, .int .i64 0, none)
  | _, _ => none
theorem k_xSum : SOK 86 sm_xSum := by
  intro args sg pre x r he hp
  unfold sm_xSum at he
  split at he <;> cases he
  · exact f_xSum_1 (hp := hp) ..
theorem f_xWeigh_1  (hp : True) : OK 63 ([.agg [.list true 0 []]]) ([]) (.int .i64 16) (none) := by
  refine funOK_of_vc (C := cx [(86, sm_xSum)]) (good ⟨k_xSum, trivial⟩) (fn := Tryz.f63) rfl rfl rfl rfl fun hw hs => ?_
  repeat' ((conv => whnf); first | with_reducible (first | refine go1 (fun j q h => ?_) fun h => ?_ | refine go2 ⟨rfl, rfl⟩ (fun h => ?_) fun j h => ?_ | refine go2 ?_ (fun h => ?_) fun j h => ?_ | refine goQ ?_ (fun h => ?_) fun h => ?_) | apply go3 | apply go4 | apply go5 | ((first | apply go6 | apply go7 | apply go8 | apply go9 | apply goA) <;> intro h) | with_reducible (first | refine IdxK.mk _ rfl ?_ | refine goB ?_ fun hc => ?_ | refine goC ?_ fun hc => ?_ | refine goD ?_ fun hc => ?_ | refine goE ?_ fun hc => ?_ | apply goF | apply goG | refine goH ?_ fun b hb => ?_) | apply goI | apply goJ | apply goK | apply goL | apply goM | apply goN | apply goO | with_reducible refine goP ?_)
  all_goals try conv => whnf
  all_goals try (refine Side.mk ?_; try dsimp only)
  all_goals first | refine stay ?_ | trivial | omega | (simp (discharger := omega) only [wR]; omega) | (simp only [lnS]; omega) | (simp (discharger := omega) [-List.getD_eq_getElem?_getD, wR] <;> omega) | skip
  refine EndP.mk [] ?_ <;> (repeat' first | trivial | rfl | exact eqS _ _ | apply andI | apply eqA | apply eqB | apply eqC | apply eqD | apply eqE | apply eqF | apply eqG | apply eqH | apply eqI)
def sm_xWeigh : Sm := fun args σ => match args, σ with
  | [.agg [.list true 0 []]], [] => some (True, .int .i64 16, none)
  | _, _ => none
theorem k_xWeigh : SOK 63 sm_xWeigh := by
  intro args sg pre x r he hp
  unfold sm_xWeigh at he
  split at he <;> cases he
  · exact f_xWeigh_1 (hp := hp) ..
theorem f_xCheck_1  (hp : True) : OK 46 ([.agg [.list true 0 []]]) ([]) (.nilIface) (none) := by
  refine funOK_of_vc (C := cx [(17, sm_xCount), (63, sm_xWeigh)]) (good ⟨k_xCount, k_xWeigh, trivial⟩) (fn := Tryz.f46) rfl rfl rfl rfl fun hw hs => ?_
  repeat' ((conv => whnf); first | with_reducible (first | refine go1 (fun j q h => ?_) fun h => ?_ | refine go2 ⟨rfl, rfl⟩ (fun h => ?_) fun j h => ?_ | refine go2 ?_ (fun h => ?_) fun j h => ?_ | refine goQ ?_ (fun h => ?_) fun h => ?_) | apply go3 | apply go4 | apply go5 | ((first | apply go6 | apply go7 | apply go8 | apply go9 | apply goA) <;> intro h) | with_reducible (first | refine IdxK.mk _ rfl ?_ | refine goB ?_ fun hc => ?_ | refine goC ?_ fun hc => ?_ | refine goD ?_ fun hc => ?_ | refine goE ?_ fun hc => ?_ | apply goF | apply goG | refine goH ?_ fun b hb => ?_) | apply goI | apply goJ | apply goK | apply goL | apply goM | apply goN | apply goO | with_reducible refine goP ?_)
  all_goals try conv => whnf
  all_goals try (refine Side.mk ?_; try dsimp only)
  refine LoopP.mk Unit (fun _ => True) (fun _ => ⟨36, [(1, .ptr 0 0), (12, .list true 0 []), (13, .int .i64 0), (14, .int .i64 0)], [.cells [.list true 0 []]], []⟩) (fun _ => 0) [] () trivial ?_ (fun _ _ _ _ => ?_)
  · refine Go.VG.Sub.mk rfl ?_ ?_ ?_ ?_ <;> (repeat' first | trivial | rfl | exact eqS _ _ | apply andI | apply eqA | apply eqB | apply eqC | apply eqD | apply eqE | apply eqF | apply eqG | apply eqH | apply eqI)
  repeat' ((conv => whnf); first | with_reducible (first | refine go1 (fun j q h => ?_) fun h => ?_ | refine go2 ⟨rfl, rfl⟩ (fun h => ?_) fun j h => ?_ | refine go2 ?_ (fun h => ?_) fun j h => ?_ | refine goQ ?_ (fun h => ?_) fun h => ?_) | apply go3 | apply go4 | apply go5 | ((first | apply go6 | apply go7 | apply go8 | apply go9 | apply goA) <;> intro h) | with_reducible (first | refine IdxK.mk _ rfl ?_ | refine goB ?_ fun hc => ?_ | refine goC ?_ fun hc => ?_ | refine goD ?_ fun hc => ?_ | refine goE ?_ fun hc => ?_ | apply goF | apply goG | refine goH ?_ fun b hb => ?_) | apply goI | apply goJ | apply goK | apply goL | apply goM | apply goN | apply goO | with_reducible refine goP ?_)
  all_goals try conv => whnf
  all_goals try (refine Side.mk ?_; try dsimp only)
  refine EndP.mk [] ?_ <;> (repeat' first | trivial | rfl | exact eqS _ _ | apply andI | apply eqA | apply eqB | apply eqC | apply eqD | apply eqE | apply eqF | apply eqG | apply eqH | apply eqI)
def sm_xCheck : Sm := fun args σ => match args, σ with
  | [.agg [.list true 0 []]], [] => some (True, .nilIface, none)
  | _, _ => none
theorem k_xCheck : SOK 46 sm_xCheck := by
  intro args sg pre x r he hp
  unfold sm_xCheck at he
  split at he <;> cases he
  · exact f_xCheck_1 (hp := hp) ..
abbrev nilB : V := .agg [.list true 0 []]
theorem f_xDec_1 (s : List UInt8) (hp : s = [91, 93]) : OK 60 ([.str s]) ([]) (.tuple [.agg [.list true 0 []], .int .i64 0]) (none) := by
  refine funOK_of_vc (C := cx [(80, sm_wTRead), (81, sm_xKids), (83, sm_xGroup)]) (good ⟨k_wTRead, k_xKids, k_xGroup, trivial⟩) (fn := Tryz.f60) rfl rfl rfl rfl fun hw hs => ?_
  subst hp
  repeat' ((conv => whnf); first | with_reducible (first | refine go1 (fun j q h => ?_) fun h => ?_ | refine go2 ⟨rfl, rfl⟩ (fun h => ?_) fun j h => ?_ | refine go2 ?_ (fun h => ?_) fun j h => ?_ | refine goQ ?_ (fun h => ?_) fun h => ?_) | apply go3 | apply go4 | apply go5 | ((first | apply go6 | apply go7 | apply go8 | apply go9 | apply goA) <;> intro h) | with_reducible (first | refine IdxK.mk _ rfl ?_ | refine goB ?_ fun hc => ?_ | refine goC ?_ fun hc => ?_ | refine goD ?_ fun hc => ?_ | refine goE ?_ fun hc => ?_ | apply goF | apply goG | refine goH ?_ fun b hb => ?_) | apply goI | apply goJ | apply goK | apply goL | apply goM | apply goN | apply goO | with_reducible refine goP ?_)
  all_goals try conv => whnf
  all_goals try (refine Side.mk ?_; try dsimp only)
  all_goals first
    | exact ⟨rfl, rfl⟩
    | rfl
    | (show (0 : Int) ≤ _; decide)
    | (constructor <;> decide)
    | skip
  refine LoopP.mk Unit (fun _ => True) (fun _ => ⟨58, [(2, .ptr 0 0), (6, .list true 0 []), (7, .list true 0 []), (29, .list true 0 []), (30, .int .i64 0), (31, .int .i64 0)], [.cells [.list true 0 []], .buf 4 0 [.agg [.int .u8 91, .str [], .str [], .int .i64 1]]], []⟩) (fun _ => 0) [] () trivial ?_ (fun _ _ _ _ => ?_)
  · refine Go.VG.Sub.mk rfl ?_ ?_ ?_ ?_ <;> (repeat' first | trivial | rfl | exact eqS _ _ | apply andI | apply eqA | apply eqB | apply eqC | apply eqD | apply eqE | apply eqF | apply eqG | apply eqH | apply eqI)
  repeat' ((conv => whnf); first | with_reducible (first | refine go1 (fun j q h => ?_) fun h => ?_ | refine go2 ⟨rfl, rfl⟩ (fun h => ?_) fun j h => ?_ | refine go2 ?_ (fun h => ?_) fun j h => ?_ | refine goQ ?_ (fun h => ?_) fun h => ?_) | apply go3 | apply go4 | apply go5 | ((first | apply go6 | apply go7 | apply go8 | apply go9 | apply goA) <;> intro h) | with_reducible (first | refine IdxK.mk _ rfl ?_ | refine goB ?_ fun hc => ?_ | refine goC ?_ fun hc => ?_ | refine goD ?_ fun hc => ?_ | refine goE ?_ fun hc => ?_ | apply goF | apply goG | refine goH ?_ fun b hb => ?_) | apply goI | apply goJ | apply goK | apply goL | apply goM | apply goN | apply goO | with_reducible refine goP ?_)
  all_goals try conv => whnf
  all_goals try (refine Side.mk ?_; try dsimp only)
  refine EndP.mk [] ?_ <;> (repeat' first | trivial | rfl | exact eqS _ _ | apply andI | apply eqA | apply eqB | apply eqC | apply eqD | apply eqE | apply eqF | apply eqG | apply eqH | apply eqI)
def sm_xDec : Sm := fun args σ => match args, σ with
  | [.str s], [] => some (s = [91, 93], .tuple [.agg [.list true 0 []], .int .i64 0], none)
  | _, _ => none
theorem k_xDec : SOK 60 sm_xDec := by
  intro args sg pre x r he hp
  unfold sm_xDec at he
  split at he <;> cases he
  · exact f_xDec_1 (hp := hp) ..
theorem f_xDecode_1 (s : List UInt8) (hp : s = [91, 93]) : OK 45 ([.int .i64 3, .str s]) ([]) (.tuple [.agg [.list true 0 []], .int .i64 0]) (none) := by
  refine funOK_of_vc (C := cx [(60, sm_xDec)]) (good ⟨k_xDec, trivial⟩) (fn := Tryz.f45) rfl rfl rfl rfl fun hw hs => ?_
  subst hp
  repeat' ((conv => whnf); first | with_reducible (first | refine go1 (fun j q h => ?_) fun h => ?_ | refine go2 ⟨rfl, rfl⟩ (fun h => ?_) fun j h => ?_ | refine go2 ?_ (fun h => ?_) fun j h => ?_ | refine goQ ?_ (fun h => ?_) fun h => ?_) | apply go3 | apply go4 | apply go5 | ((first | apply go6 | apply go7 | apply go8 | apply go9 | apply goA) <;> intro h) | with_reducible (first | refine IdxK.mk _ rfl ?_ | refine goB ?_ fun hc => ?_ | refine goC ?_ fun hc => ?_ | refine goD ?_ fun hc => ?_ | refine goE ?_ fun hc => ?_ | apply goF | apply goG | refine goH ?_ fun b hb => ?_) | apply goI | apply goJ | apply goK | apply goL | apply goM | apply goN | apply goO | with_reducible refine goP ?_)
  all_goals try conv => whnf
  all_goals try (refine Side.mk ?_; try dsimp only)
  refine EndP.mk [] ?_ <;> (repeat' first | trivial | rfl | exact eqS _ _ | apply andI | apply eqA | apply eqB | apply eqC | apply eqD | apply eqE | apply eqF | apply eqG | apply eqH | apply eqI)
def sm_xDecode : Sm := fun args σ => match args, σ with
  | [.int .i64 3, .str s], [] => some (s = [91, 93], .tuple [.agg [.list true 0 []], .int .i64 0], none)
  | _, _ => none
theorem k_xDecode : SOK 45 sm_xDecode := by
  intro args sg pre x r he hp
  unfold sm_xDecode at he
  split at he <;> cases he
  · exact f_xDecode_1 (hp := hp) ..
theorem f_xWhy_1 (s : List UInt8) (hp : s = [91, 93]) : OK 32 ([.int .i64 3, .str s]) ([]) (.tuple [.agg [.list true 0 []], .nilIface]) (none) := by
  refine funOK_of_vc (C := cx [(42, sm_xIs), (45, sm_xDecode), (46, sm_xCheck)]) (good ⟨k_xIs, k_xDecode, k_xCheck, trivial⟩) (fn := Tryz.f32) rfl rfl rfl rfl fun hw hs => ?_
  subst hp
  repeat' ((conv => whnf); first | with_reducible (first | refine go1 (fun j q h => ?_) fun h => ?_ | refine go2 ⟨rfl, rfl⟩ (fun h => ?_) fun j h => ?_ | refine go2 ?_ (fun h => ?_) fun j h => ?_ | refine goQ ?_ (fun h => ?_) fun h => ?_) | apply go3 | apply go4 | apply go5 | ((first | apply go6 | apply go7 | apply go8 | apply go9 | apply goA) <;> intro h) | with_reducible (first | refine IdxK.mk _ rfl ?_ | refine goB ?_ fun hc => ?_ | refine goC ?_ fun hc => ?_ | refine goD ?_ fun hc => ?_ | refine goE ?_ fun hc => ?_ | apply goF | apply goG | refine goH ?_ fun b hb => ?_) | apply goI | apply goJ | apply goK | apply goL | apply goM | apply goN | apply goO | with_reducible refine goP ?_)
  all_goals try conv => whnf
  all_goals try (refine Side.mk ?_; try dsimp only)
  all_goals first
    | rfl
    | trivial
    | (show EndP _ _ _ _ _ _
       refine EndP.mk [] ?_ <;> (repeat' first | trivial | rfl | exact eqS _ _ | apply andI | apply eqA | apply eqB | apply eqC | apply eqD | apply eqE | apply eqF | apply eqG | apply eqH | apply eqI)
       done)
def sm_xWhy : Sm := fun args σ => match args, σ with
  | [.int .i64 3, .str s], [] => some (s = [91, 93], .tuple [.agg [.list true 0 []], .nilIface], none)
  | _, _ => none
theorem k_xWhy : SOK 32 sm_xWhy := by
  intro args sg pre x r he hp
  unfold sm_xWhy at he
  split at he <;> cases he
  · exact f_xWhy_1 (hp := hp) ..
theorem f_xIngest_1 (s : List UInt8) (hp : s = [91, 93]) : OK 25 ([.int .i64 3, .str s]) ([]) (.tuple [.agg [.list true 0 []], .int .i64 0]) (none) := by
  refine funOK_of_vc (C := cx [(32, sm_xWhy), (33, sm_xOf), (24, sm_xClass)]) (good ⟨k_xWhy, k_xOf, k_xClass, trivial⟩) (fn := Tryz.f25) rfl rfl rfl rfl fun hw hs => ?_
  subst hp
  repeat' ((conv => whnf); first | with_reducible (first | refine go1 (fun j q h => ?_) fun h => ?_ | refine go2 ⟨rfl, rfl⟩ (fun h => ?_) fun j h => ?_ | refine go2 ?_ (fun h => ?_) fun j h => ?_ | refine goQ ?_ (fun h => ?_) fun h => ?_) | apply go3 | apply go4 | apply go5 | ((first | apply go6 | apply go7 | apply go8 | apply go9 | apply goA) <;> intro h) | with_reducible (first | refine IdxK.mk _ rfl ?_ | refine goB ?_ fun hc => ?_ | refine goC ?_ fun hc => ?_ | refine goD ?_ fun hc => ?_ | refine goE ?_ fun hc => ?_ | apply goF | apply goG | refine goH ?_ fun b hb => ?_) | apply goI | apply goJ | apply goK | apply goL | apply goM | apply goN | apply goO | with_reducible refine goP ?_)
  all_goals try conv => whnf
  all_goals try (refine Side.mk ?_; try dsimp only)
  all_goals first
    | rfl
    | trivial
    | exact .inl rfl
    | (show EndP _ _ _ _ _ _
       refine EndP.mk [] ?_ <;> (repeat' first | trivial | rfl | exact eqS _ _ | apply andI | apply eqA | apply eqB | apply eqC | apply eqD | apply eqE | apply eqF | apply eqG | apply eqH | apply eqI)
       done)
def sm_xIngest : Sm := fun args σ => match args, σ with
  | [.int .i64 3, .str s], [] => some (s = [91, 93], .tuple [.agg [.list true 0 []], .int .i64 0], none)
  | _, _ => none
theorem k_xIngest : SOK 25 sm_xIngest := by
  intro args sg pre x r he hp
  unfold sm_xIngest at he
  split at he <;> cases he
  · exact f_xIngest_1 (hp := hp) ..
end Go.Proofs.YtafgmmfbhpbogaaGreatDoor
