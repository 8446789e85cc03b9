/-
  The fixed part of the law of policies.
-/
import Derived.Test.YtafgmmfbhpbogaaGreatDoorOVy
set_option linter.unusedSimpArgs false
set_option linter.unusedVariables false
set_option maxHeartbeats 4000000
namespace Go.Proofs.YtafgmmfbhpbogaaGreatDoor
open Go Go.VG
set_option maxRecDepth 100000
theorem f_xMany_1 (l : List V) (hp : l.length = 33) : OK 7 ([.agg [.int .i64 65536, .int .i64 1024, .int .i64 32, .int .i64 100, .int .i64 32], .agg [.buf 0]]) ([.buf 2 0 l]) (.int .i64 34) (none) := by
  refine funOK_of_vc (C := cx []) (good trivial) (fn := Tryz.f7) rfl rfl rfl rfl fun hw hs => ?_
  repeat' ((conv => whnf); first | with_reducible (first | refine go1 (fun j q h => ?_) fun h => ?_ | refine go2 ⟨rfl, rfl⟩ (fun h => ?_) fun j h => ?_ | refine go2 ?_ (fun h => ?_) fun j h => ?_ | refine goQ ?_ (fun h => ?_) fun h => ?_) | apply go3 | apply go4 | apply go5 | ((first | apply go6 | apply go7 | apply go8 | apply go9 | apply goA) <;> intro h) | with_reducible (first | refine IdxK.mk _ rfl ?_ | refine goB ?_ fun hc => ?_ | refine goC ?_ fun hc => ?_ | refine goD ?_ fun hc => ?_ | refine goE ?_ fun hc => ?_ | apply goF | apply goG | refine goH ?_ fun b hb => ?_) | apply goI | apply goJ | apply goK | apply goL | apply goM | apply goN | apply goO | with_reducible refine goP ?_)
  all_goals try conv => whnf
  all_goals try (refine Side.mk ?_; try dsimp only)
  · rw [hp]; decide
  refine EndP.mk [] ?_ <;> (repeat' first | trivial | rfl | exact eqS _ _ | apply andI | apply eqA | apply eqB | apply eqC | apply eqD | apply eqE | apply eqF | apply eqG | apply eqH | apply eqI)
def sm_xMany : Sm := fun args σ => match args, σ with
  | [.agg [.int .i64 65536, .int .i64 1024, .int .i64 32, .int .i64 100, .int .i64 32], .agg [.buf 0]], [.buf 2 0 l] => some (l.length = 33, .int .i64 34, none)
  | _, _ => none
theorem k_xMany : SOK 7 sm_xMany := by
  intro args sg pre x r he hp
  unfold sm_xMany at he
  split at he <;> cases he
  · exact f_xMany_1 (hp := hp) ..
theorem f_xWorks_1  (hp : True) : OK 5 ([]) ([]) (.bool true) (none) := by
  refine funOK_of_vc (C := cx [(14, sm_xAdmit), (15, sm_xHouse), (16, sm_xMay), (10, sm_ovTight), (7, sm_xMany)]) (good ⟨k_xAdmit, k_xHouse, k_xMay, k_ovTight, k_xMany, trivial⟩) (fn := Tryz.f5) rfl rfl rfl rfl fun hw hs => ?_
  repeat' ((conv => whnf); first | with_reducible (first | refine go1 (fun j q h => ?_) fun h => ?_ | refine go2 ⟨rfl, rfl⟩ (fun h => ?_) fun j h => ?_ | refine go2 ?_ (fun h => ?_) fun j h => ?_ | refine goQ ?_ (fun h => ?_) fun h => ?_) | apply go3 | apply go4 | apply go5 | ((first | apply go6 | apply go7 | apply go8 | apply go9 | apply goA) <;> intro h) | with_reducible (first | refine IdxK.mk _ rfl ?_ | refine goB ?_ fun hc => ?_ | refine goC ?_ fun hc => ?_ | refine goD ?_ fun hc => ?_ | refine goE ?_ fun hc => ?_ | apply goF | apply goG | refine goH ?_ fun b hb => ?_) | apply goI | apply goJ | apply goK | apply goL | apply goM | apply goN | apply goO | with_reducible refine goP ?_)
  all_goals try conv => whnf
  all_goals try (refine Side.mk ?_; try dsimp only)
  all_goals first
    | trivial
    | exact ⟨trivial, trivial⟩
    | exact ⟨trivial, trivial, trivial⟩
    | (constructor <;> decide)
    | decide
    | (refine ⟨rfl, ?_⟩; decide)
    | (show EndP _ _ _ _ _ _
       refine EndP.mk [] ?_ <;> (repeat' first | trivial | rfl | exact eqS _ _ | apply andI | apply eqA | apply eqB | apply eqC | apply eqD | apply eqE | apply eqF | apply eqG | apply eqH | apply eqI)
       done)
def sm_xWorks : Sm := fun args σ => match args, σ with
  | [], [] => some (True, .bool true, none)
  | _, _ => none
theorem k_xWorks : SOK 5 sm_xWorks := by
  intro args sg pre x r he hp
  unfold sm_xWorks at he
  split at he <;> cases he
  · exact f_xWorks_1 (hp := hp) ..
end Go.Proofs.YtafgmmfbhpbogaaGreatDoor
