/-
  Values of Protobuf: the law of what is read.
-/
import Derived.Test.YtkkfdkfopdjomaaDoorOF
set_option linter.unusedSimpArgs false
set_option linter.unusedVariables false
set_option maxHeartbeats 4000000
namespace Go.Proofs.YtkkfdkfopdjomaaDoor
open Go Go.VG
set_option maxRecDepth 100000
theorem f_works35_1  (hp : True) : OK 4 ([]) ([]) (.bool true) (none) := by
  exact f_works35 (M := psB) fun _ => rfl
def sm_works35 : Sm := fun args σ => match args, σ with
  | [], [] => some (True, .bool true, none)
  | _, _ => none
theorem k_works35 : SOK 4 sm_works35 := by
  intro args sg pre x r he hp
  unfold sm_works35 at he
  split at he <;> cases he
  · exact f_works35_1 (hp := hp) ..
theorem f_lReads35 (s : List UInt8) (L : List (List UInt8)) (d : Int) : OK 3 [.str s, .list false 1 (L.map V.str), .int .i64 d] [] (.bool true) none := by
  obtain ⟨k, hk⟩ : ∃ k, k = (32 - d).toNat := ⟨_, rfl⟩
  refine funOK_of_vc (C := cx [(4, sm_works35), (5, sm_ovR (rdV k) k), (6, sm_orR (rdV k) k), (7, sm_ovEs (rdV k) k), (8, sm_orEs (rdV k) k), (9, sm_Same), (10, sm_SameM)])
    (good ⟨k_works35, k_ovR k, k_orR k, k_ovEs (rdV k) k (k_ovR k), k_orEs (rdV k) k (k_orR k), k_Same, k_SameM, trivial⟩) (fn := Tryd.f3) rfl rfl rfl rfl fun hw hs => ?_
  have e1 : (L.map V.str).length = L.length := by simp
  repeat' ((conv => whnf); first | with_reducible (first | refine go1 (fun j q h => ?_) fun h => ?_ | refine go2 ⟨rfl, rfl⟩ (fun h => ?_) fun j h => ?_ | refine go2 ?_ (fun h => ?_) fun j h => ?_ | refine goQ ?_ (fun h => ?_) fun h => ?_) | apply go3 | apply go4 | apply go5 | ((first | apply go6 | apply go7 | apply go8 | apply go9 | apply goA) <;> intro h) | with_reducible (first | refine IdxK.mk _ rfl ?_ | refine call_ite (fun h => ?_) fun h => ?_ | refine goB ?_ fun hc => ?_ | refine goC ?_ fun hc => ?_ | refine goD ?_ fun hc => ?_ | refine goE ?_ fun hc => ?_ | apply goF | apply goG | refine goH ?_ fun b hb => ?_) | apply goI | apply goJ | apply goK | apply goL | apply goM | apply goN | apply goO | with_reducible refine goP ?_)
  all_goals try conv => whnf
  all_goals try (refine Side.mk ?_; try dsimp only)
  all_goals (try simp only [List.length_map] at *)
  all_goals (try simp only [Cu_eta] at *)
  all_goals first | refine stay ?_ | trivial | omega | (simp (discharger := omega) only [wR]; omega) | (simp only [lnS]; omega) | (simp (discharger := omega) [-List.getD_eq_getElem?_getD, wR] <;> omega) | skip
  · refine EndP.mk [] ?_ <;> (repeat' first | trivial | rfl | exact eqS _ _ | apply andI | apply eqA | apply eqB | apply eqC | apply eqD | apply eqE | apply eqF | apply eqG | apply eqH | apply eqI)
  · refine EndP.mk [] ?_ <;> (repeat' first | trivial | rfl | exact eqS _ _ | apply andI | apply eqA | apply eqB | apply eqC | apply eqD | apply eqE | apply eqF | apply eqG | apply eqH | apply eqI)
  · refine EndP.mk [] ?_ <;> (repeat' first | trivial | rfl | exact eqS _ _ | apply andI | apply eqA | apply eqB | apply eqC | apply eqD | apply eqE | apply eqF | apply eqG | apply eqH | apply eqI)
  · refine EndP.mk [] ?_ <;> (repeat' first | trivial | rfl | exact eqS _ _ | apply andI | apply eqA | apply eqB | apply eqC | apply eqD | apply eqE | apply eqF | apply eqG | apply eqH | apply eqI)
  refine LoopP.mk Nat (fun i => i ≤ L.length ∧ ∀ j, j < i → (L.getD j default).length ≤ 300) (fun i => ⟨91, [(0, .str s), (1, .list false 1 (L.map V.str)), (2, .int .i64 d), (7, .int .i64 i)], [], [0, 1, 2, 3]⟩) (fun i => L.length - i) [] 0 ⟨Nat.zero_le _, fun j h => by omega⟩ ?_ (fun i ⟨hi, hj⟩ _ _ => ?_)
  · refine Go.VG.Sub.mk rfl ?_ ?_ ?_ ?_ <;> (repeat' first | trivial | rfl | exact eqS _ _ | apply andI | apply eqA | apply eqB | apply eqC | apply eqD | apply eqE | apply eqF | apply eqG | apply eqH | apply eqI)
  repeat' ((conv => whnf); first | with_reducible (first | refine go1 (fun j q h => ?_) fun h => ?_ | refine go2 ⟨rfl, rfl⟩ (fun h => ?_) fun j h => ?_ | refine go2 ?_ (fun h => ?_) fun j h => ?_ | refine goQ ?_ (fun h => ?_) fun h => ?_) | apply go3 | apply go4 | apply go5 | ((first | apply go6 | apply go7 | apply go8 | apply go9 | apply goA) <;> intro h) | with_reducible (first | refine IdxK.mk _ rfl ?_ | refine call_ite (fun h => ?_) fun h => ?_ | refine goB ?_ fun hc => ?_ | refine goC ?_ fun hc => ?_ | refine goD ?_ fun hc => ?_ | refine goE ?_ fun hc => ?_ | apply goF | apply goG | refine goH ?_ fun b hb => ?_) | apply goI | apply goJ | apply goK | apply goL | apply goM | apply goN | apply goO | with_reducible refine goP ?_)
  all_goals try conv => whnf
  all_goals try (refine Side.mk ?_; try dsimp only)
  all_goals (try simp only [List.length_map, deS_map] at *)
  all_goals (try simp only [Cu_eta] at *)
  all_goals first | refine stay ?_ | trivial | omega | (simp (discharger := omega) only [wR]; omega) | (simp only [lnS]; omega) | (simp (discharger := omega) [-List.getD_eq_getElem?_getD, wR] <;> omega) | skip
  · refine EndP.mk [] ?_ <;> (repeat' first | trivial | rfl | exact eqS _ _ | apply andI | apply eqA | apply eqB | apply eqC | apply eqD | apply eqE | apply eqF | apply eqG | apply eqH | apply eqI)
  · refine ⟨[], i + 1, ⟨by omega, fun j hlt => ?_⟩, ?_, by omega⟩
    · by_cases q : j = i
      · rw [q]; omega
      · exact hj j (by omega)
    · refine Go.VG.Sub.mk rfl ?_ ?_ ?_ ?_ <;> (repeat' first | trivial | rfl | exact eqS _ _ | apply andI | apply eqA | apply eqB | apply eqC | apply eqD | apply eqE | apply eqF | apply eqG | apply eqH | apply eqI)
      all_goals first
        | (rw [wi64]; omega)
        | skip
  · have hE : EOk L d k := ⟨fun j h => Nat.le_trans (hj j (by omega)) (by decide), by omega, by omega, hk, by omega⟩
    exact ⟨trivial, hE⟩
  · have hE : EOk L d k := ⟨fun j h => Nat.le_trans (hj j (by omega)) (by decide), by omega, by omega, hk, by omega⟩
    exact ⟨trivial, hE⟩
  · exact ⟨isV_ev _, isV_ev _⟩
  · exact ⟨isM_enc _, isM_enc _⟩
  · refine EndP.mk [] ?_ <;> (repeat' first | trivial | rfl | exact eqS _ _ | apply andI | apply eqA | apply eqB | apply eqC | apply eqD | apply eqE | apply eqF | apply eqG | apply eqH | apply eqI)
  · exact absurd trivial (by assumption)
  · have hM : (bif true then sameM (decMv (.list false 7 (encM (rdEs (rdV k) L []).2))) (decMv (.list false 7 (encM (rdEs (rdV k) L []).2))) else false) = true := (sameM_iff _ _).2 rfl
    exact Bool.noConfusion (hM.symm.trans (show _ = false by assumption))
  · exact absurd trivial (by assumption)
  · have hS : same (decV (ev (rdV k s).2)) (decV (ev (rdV k s).2)) = true := (same_iff _ _).2 rfl
    exact Bool.noConfusion (hS.symm.trans (show _ = false by assumption))
end Go.Proofs.YtkkfdkfopdjomaaDoor
