/-
  Fields' heads by the document.
-/
import Derived.Test.YtcgjkjabcdeagaaDoorCWc
set_option linter.unusedSimpArgs false
set_option linter.unusedVariables false
set_option maxHeartbeats 4000000
namespace Go.Proofs.YtcgjkjabcdeagaaDoor
open Go Go.VG
set_option maxRecDepth 100000
theorem step_of {last id : Int} {i k : Nat} (h : last = id - ((i : Int) + 1)) (hi : i < 15) (hk : k ≤ 12) :
    IntKind.u8.wrap (IntKind.u8.wrap (IntKind.i64.wrap (16 * ((i : Int) + 1))) + (k : Int)) = 16 * (id - last) + k := by
  rw [show IntKind.i64.wrap (16 * ((i : Int) + 1)) = 16 * ((i : Int) + 1) by (first | omega | (simp (discharger := omega) only [wR]; omega) | (simp only [lnS]; omega) | (simp (discharger := omega) [-List.getD_eq_getElem?_getD, wR] <;> omega))]
  rw [show IntKind.u8.wrap (16 * ((i : Int) + 1)) = 16 * ((i : Int) + 1) by (first | omega | (simp (discharger := omega) only [wR]; omega) | (simp only [lnS]; omega) | (simp (discharger := omega) [-List.getD_eq_getElem?_getD, wR] <;> omega))]
  rw [show IntKind.u8.wrap (16 * ((i : Int) + 1) + (k : Int)) = 16 * ((i : Int) + 1) + k by (first | omega | (simp (discharger := omega) only [wR]; omega) | (simp only [lnS]; omega) | (simp (discharger := omega) [-List.getD_eq_getElem?_getD, wR] <;> omega))]
  omega
theorem f_r20PutField_1 (last id : Int) (k : UInt8) (hp : True) : OK 26 ([.int .i64 last, .int .i64 id, bv k]) ([]) (.str (pfield last id k)) (none) := by
  refine funOK_of_vc (C := cx [(47, sm_r20Is), (48, sm_r20number), (49, sm_r20bytes), (51, sm_r02Zig), (50, sm_r03Put)]) (good ⟨k_r20Is, k_r20number, k_r20bytes, k_r02Zig, k_r03Put, trivial⟩) (fn := Tryd.f26) rfl rfl rfl rfl fun hw hs => ?_
  have hk : k.toNat < 256 := k.toNat_lt
  have hkk : byte k.toNat = k := byte_of _
  have hi : -9223372036854775808 ≤ id ∧ id ≤ 9223372036854775807 := hw.2.1
  have hla : -9223372036854775808 ≤ last ∧ last ≤ 9223372036854775807 := hw.1
  have hz := zigN_lt (n := id) hi
  have hv := vput_len hz
  repeat' ((conv => whnf); first | with_reducible (first | refine go1 (fun j q h => ?_) fun h => ?_ | refine go2 ⟨rfl, rfl⟩ (fun h => ?_) fun j h => ?_ | refine go2 ?_ (fun h => ?_) fun j h => ?_ | refine goQ ?_ (fun h => ?_) fun h => ?_) | apply go3 | apply go4 | apply go5 | ((first | apply go6 | apply go7 | apply go8 | apply go9 | apply goA) <;> intro h) | with_reducible (first | refine IdxK.mk _ rfl ?_ | refine goB ?_ fun hc => ?_ | refine goC ?_ fun hc => ?_ | refine goD ?_ fun hc => ?_ | refine goE ?_ fun hc => ?_ | apply goF | apply goG | refine goH ?_ fun b hb => ?_) | apply goI | apply goJ | apply goK | apply goL | apply goM | apply goN | apply goO | with_reducible refine goP ?_)
  all_goals try conv => whnf
  all_goals try (refine Side.mk ?_; try dsimp only)
  all_goals (try simp only [hkk] at *)
  all_goals first | refine stay ?_ | trivial | omega | (simp (discharger := omega) only [wR]; omega) | (simp only [lnS]; omega) | (simp (discharger := omega) [-List.getD_eq_getElem?_getD, wR] <;> omega) | skip
  all_goals first
    | (show EndP _ _ _ _ _ _
       unfold pfield
       repeat (first | rw [if_pos (by omega)] | rw [if_neg (by omega)])
       refine EndP.mk [] ?_ <;> (repeat' first | trivial | rfl | exact eqS _ _ | apply andI | apply eqA | apply eqB | apply eqC | apply eqD | apply eqE | apply eqF | apply eqG | apply eqH | apply eqI)
       done)
    | skip
  · refine LoopP.mk Nat (fun i => i ≤ 15 ∧ ∀ j : Nat, j < i → ¬ (last ≥ -32768 ∧ last = id - (j + 1))) (fun i => ⟨41, [(0, .int .i64 last), (1, .int .i64 id), (2, bv k), (7, .int .i64 (i + 1))], [], []⟩) (fun x => 16 - x) [] 0 ⟨by omega, by intro j hj; omega⟩ ?_ (fun i ⟨h15, hno⟩ _ _ => ?_)
    · refine Go.VG.Sub.mk rfl ?_ ?_ ?_ ?_ <;> (repeat' first | trivial | rfl | exact eqS _ _ | apply andI | apply eqA | apply eqB | apply eqC | apply eqD | apply eqE | apply eqF | apply eqG | apply eqH | apply eqI)
    have hwi : IntKind.i64.wrap (id - ((i : Int) + 1)) = id - (i + 1) := by (first | omega | (simp (discharger := omega) only [wR]; omega) | (simp only [lnS]; omega) | (simp (discharger := omega) [-List.getD_eq_getElem?_getD, wR] <;> omega))
    repeat' ((conv => whnf); first | with_reducible (first | refine go1 (fun j q h => ?_) fun h => ?_ | refine go2 ⟨rfl, rfl⟩ (fun h => ?_) fun j h => ?_ | refine go2 ?_ (fun h => ?_) fun j h => ?_ | refine goQ ?_ (fun h => ?_) fun h => ?_) | apply go3 | apply go4 | apply go5 | ((first | apply go6 | apply go7 | apply go8 | apply go9 | apply goA) <;> intro h) | with_reducible (first | refine IdxK.mk _ rfl ?_ | refine goB ?_ fun hc => ?_ | refine goC ?_ fun hc => ?_ | refine goD ?_ fun hc => ?_ | refine goE ?_ fun hc => ?_ | apply goF | apply goG | refine goH ?_ fun b hb => ?_) | apply goI | apply goJ | apply goK | apply goL | apply goM | apply goN | apply goO | with_reducible refine goP ?_)
    all_goals try conv => whnf
    all_goals try (refine Side.mk ?_; try dsimp only)
    all_goals (try simp only [hkk] at *)
    all_goals first | refine stay ?_ | trivial | omega | (simp (discharger := omega) only [wR]; omega) | (simp only [lnS]; omega) | (simp (discharger := omega) [-List.getD_eq_getElem?_getD, wR] <;> omega) | skip
    all_goals first
      | (show EndP _ _ _ _ _ _
         unfold pfield
         skip)
      | skip
    · rw [if_neg (by omega), if_pos (by omega)]
      refine EndP.mk [] ?_ <;> (repeat' first | trivial | rfl | exact eqS _ _ | apply andI | apply eqA | apply eqB | apply eqC | apply eqD | apply eqE | apply eqF | apply eqG | apply eqH | apply eqI)
      rw [step_of (last := last) (id := id) (by omega) (by omega) (by omega)]
    · refine ⟨[], i + 1, ⟨by omega, ?_⟩, ?_, by omega⟩
      · intro j hj
        rcases Nat.lt_or_ge j i with q | q
        · exact hno j q
        · obtain rfl : j = i := by omega
          intro q; omega
      refine Go.VG.Sub.mk rfl ?_ ?_ ?_ ?_ <;> (repeat' first | trivial | rfl | exact eqS _ _ | apply andI | apply eqA | apply eqB | apply eqC | apply eqD | apply eqE | apply eqF | apply eqG | apply eqH | apply eqI)
      all_goals (first | omega | (simp (discharger := omega) only [wR]; omega) | (simp only [lnS]; omega) | (simp (discharger := omega) [-List.getD_eq_getElem?_getD, wR] <;> omega))
    · refine ⟨[], i + 1, ⟨by omega, ?_⟩, ?_, by omega⟩
      · intro j hj q
        omega
      refine Go.VG.Sub.mk rfl ?_ ?_ ?_ ?_ <;> (repeat' first | trivial | rfl | exact eqS _ _ | apply andI | apply eqA | apply eqB | apply eqC | apply eqD | apply eqE | apply eqF | apply eqG | apply eqH | apply eqI)
      all_goals (first | omega | (simp (discharger := omega) only [wR]; omega) | (simp only [lnS]; omega) | (simp (discharger := omega) [-List.getD_eq_getElem?_getD, wR] <;> omega))
    · rw [if_neg (by omega), if_neg (fun q => hno (id - last - 1).toNat (by omega) ⟨q.1, by omega⟩)]
      refine EndP.mk [] ?_ <;> (repeat' first | trivial | rfl | exact eqS _ _ | apply andI | apply eqA | apply eqB | apply eqC | apply eqD | apply eqE | apply eqF | apply eqG | apply eqH | apply eqI)
      exact byte_of _
def sm_r20PutField : Sm := fun args σ => match args, σ with
  | [.int .i64 last, .int .i64 id, .int .u8 n_k], [] => some ((0 ≤ n_k ∧ n_k ≤ 255) ∧ (True), .str (pfield last id (byte n_k)), none)
  | _, _ => none
theorem k_r20PutField : SOK 26 sm_r20PutField := by
  intro args sg pre x r he hp
  unfold sm_r20PutField at he
  split at he <;> cases he
  · rw [viewB (hp).1]; exact f_r20PutField_1 (hp := hp.2) ..
end Go.Proofs.YtcgjkjabcdeagaaDoor
