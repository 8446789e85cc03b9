/-
  A message that is written: a message within it is added.
-/
import Derived.Test.YtkkfdkfopdjomaaDoorMWf
set_option linter.unusedSimpArgs false
set_option linter.unusedVariables false
set_option maxHeartbeats 4000000
namespace Go.Proofs.YtkkfdkfopdjomaaDoor
open Go Go.VG
set_option maxRecDepth 100000
def sm_mAddS : Sm := fun args σ => match args, σ with
  | [.ptr 0 0, .iface 97 (.agg [.int .i64 no, .int .i64 2, .box [.list c 1 l, .int .i64 m] 0, .int .i64 k])], [.cells [.buf 1, .int .i64 n], .buf 1 0 L] => some (k = m ∧ (0 ≤ n ∧ n ≤ 1000000000) ∧ L.length ≤ 1000000 ∧ 0 ≤ m ∧ m ≤ 100000000, .tuple [], some (eMv (n + ((tagB no 2).length + (vput m.toNat).length + m.toNat : Nat)) (L ++ [.iface 97 (.agg [.int .i64 no, .int .i64 2, .box [.list c 1 l, .int .i64 m] 0, .int .i64 m])])))
  | _, _ => none
theorem k_mAddS : SOK 45 sm_mAddS := by
  intro args sg pre x r he hp
  unfold sm_mAddS at he
  split at he <;> cases he
  obtain ⟨rfl, h1, h2, h3⟩ := hp
  exact f_addS _ _ _ _ _ _ h1 h2 h3
theorem f_sureSub (n : Int) (L : List V) (no : Int) (m : Int) (l : List V) (hn : 0 ≤ n ∧ n ≤ 1000000000) (hL : L.length ≤ 1000000) (hm : 0 ≤ m ∧ m ≤ 100000000) (hM : mayT no 2 = true) :
    OK 27 [.ptr 0 0, .int .i64 no, .ptr 1 0] [.cells [.buf 2, .int .i64 n], .cells [.buf 3, .int .i64 m], .buf 1 0 L, .buf 1 0 l] (.tuple []) (some [.cells [.buf 2, .int .i64 (n + ((tagB no 2).length + (vput m.toNat).length + m.toNat : Nat))], .dead, .buf 1 0 (L ++ [.iface 97 (.agg [.int .i64 no, .int .i64 2, .box [.list false 1 l, .int .i64 m] 0, .int .i64 m])]), .dead, .buf 1 0 []]) := by
  refine funOK_of_vc (C := cxh [(44, sm_pMay), (45, sm_mAddS)] [(2, [.frz 3]), (3, [.fbx 5])]) (good ⟨k_pMay, k_mAddS, trivial⟩) (fn := Tryd.f27) rfl rfl rfl rfl fun hw _ => ?_
  repeat' ((conv => whnf); first | with_reducible (first | refine go1 (fun j q h => ?_) fun h => ?_ | refine go2 ⟨rfl, rfl⟩ (fun h => ?_) fun j h => ?_ | refine go2 ?_ (fun h => ?_) fun j h => ?_ | refine goQ ?_ (fun h => ?_) fun h => ?_) | apply go3 | apply go4 | apply go5 | ((first | apply go6 | apply go7 | apply go8 | apply go9 | apply goA) <;> intro h) | with_reducible (first | refine IdxK.mk _ rfl ?_ | refine call_ite (fun h => ?_) fun h => ?_ | refine goB ?_ fun hc => ?_ | refine goC ?_ fun hc => ?_ | refine goD ?_ fun hc => ?_ | refine goE ?_ fun hc => ?_ | apply goF | apply goG | refine goH ?_ fun b hb => ?_) | apply goI | apply goJ | apply goK | apply goL | apply goM | apply goN | apply goO | with_reducible refine goP ?_)
  all_goals try conv => whnf
  all_goals try (refine Side.mk ?_; try dsimp only)
  · exact ⟨by omega, rfl, by omega⟩
  · exact ⟨rfl, hn, hL, hm⟩
  · refine EndP.mk [.nw, .swap 4 6] ?_ <;> (repeat' first | trivial | rfl | exact eqS _ _ | apply andI | apply eqA | apply eqB | apply eqC | apply eqD | apply eqE | apply eqF | apply eqG | apply eqH | apply eqI)
    all_goals (rw [List.take_of_length_le (by simp)])
  · have := of_decide_eq_true hM
    contradiction
end Go.Proofs.YtkkfdkfopdjomaaDoor
