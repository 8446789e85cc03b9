/-
  A writer of structs: the program's functions do what the model turns.
-/
import Derived.Test.YtcgjkjabcdeagaaDoorCWm
set_option linter.unusedSimpArgs false
set_option linter.unusedVariables false
set_option maxHeartbeats 4000000
namespace Go.Proofs.YtcgjkjabcdeagaaDoor
open Go Go.VG
set_option maxRecDepth 100000
theorem f_cwFail_1 (w : CS) (c : Int) (hp : True) : OK 35 ([.ptr 0 0, .int .i64 c]) (eCw w) (.tuple []) (some (eCw (w.fail c))) := by
  refine funOK_of_vc (C := cx []) (good trivial) (fn := Tryd.f35) rfl rfl rfl rfl fun hw hs => ?_
  repeat' ((conv => whnf); first | with_reducible (first | refine go1 (fun j q h => ?_) fun h => ?_ | refine go2 ⟨rfl, rfl⟩ (fun h => ?_) fun j h => ?_ | refine go2 ?_ (fun h => ?_) fun j h => ?_ | refine goQ ?_ (fun h => ?_) fun h => ?_) | apply go3 | apply go4 | apply go5 | ((first | apply go6 | apply go7 | apply go8 | apply go9 | apply goA) <;> intro h) | with_reducible (first | refine IdxK.mk _ rfl ?_ | refine call_ite (fun h => ?_) fun h => ?_ | refine idx_topC ?_ ?_ | refine goB ?_ fun hc => ?_ | refine goC ?_ fun hc => ?_ | refine goD ?_ fun hc => ?_ | refine goE ?_ fun hc => ?_ | apply goF | apply goG | refine goH ?_ fun b hb => ?_) | apply goI | apply goJ | apply goK | apply goL | apply goM | apply goN | apply goO | with_reducible refine goP ?_)
  all_goals try conv => whnf
  all_goals try (refine Side.mk ?_; try dsimp only)
  all_goals first | refine stay ?_ | trivial | omega | (simp (discharger := omega) only [wR]; omega) | (simp only [lnS]; omega) | (simp (discharger := omega) [-List.getD_eq_getElem?_getD, wR] <;> omega) | skip
  all_goals
    unfold CS.fail
    first | rw [if_pos (by assumption)] | rw [if_neg (by assumption)]
    refine EndP.mk [] ?_ <;> (repeat' first | trivial | rfl | exact eqS _ _ | apply andI | apply eqA | apply eqB | apply eqC | apply eqD | apply eqE | apply eqF | apply eqG | apply eqH | apply eqI)
def sm_cwFail : Sm := fun args σ => match args, σ with
  | [.ptr 0 0, .int .i64 c], [.cells [.buf 1, .buf 2, .int .i64 c_w], .buf 1 0 o_w, .buf 4 0 l_w] => some (okC o_w l_w ∧ (True), .tuple [], some (eCw ((deC o_w l_w c_w).fail c)))
  | _, _ => none
theorem k_cwFail : SOK 35 sm_cwFail := by
  intro args sg pre x r he hp
  unfold sm_cwFail at he
  split at he <;> cases he
  · rw [viewCw (hp).1]; exact f_cwFail_1 (hp := hp.2) ..
theorem f_cwReady_1  (hp : True) : OK 34 ([.nilptr]) ([]) (.bool false) (none) := by
  refine funOK_of_vc (C := cx []) (good trivial) (fn := Tryd.f34) rfl rfl rfl rfl fun hw hs => ?_
  repeat' ((conv => whnf); first | with_reducible (first | refine go1 (fun j q h => ?_) fun h => ?_ | refine go2 ⟨rfl, rfl⟩ (fun h => ?_) fun j h => ?_ | refine go2 ?_ (fun h => ?_) fun j h => ?_ | refine goQ ?_ (fun h => ?_) fun h => ?_) | apply go3 | apply go4 | apply go5 | ((first | apply go6 | apply go7 | apply go8 | apply go9 | apply goA) <;> intro h) | with_reducible (first | refine IdxK.mk _ rfl ?_ | refine call_ite (fun h => ?_) fun h => ?_ | refine idx_topC ?_ ?_ | refine goB ?_ fun hc => ?_ | refine goC ?_ fun hc => ?_ | refine goD ?_ fun hc => ?_ | refine goE ?_ fun hc => ?_ | apply goF | apply goG | refine goH ?_ fun b hb => ?_) | apply goI | apply goJ | apply goK | apply goL | apply goM | apply goN | apply goO | with_reducible refine goP ?_)
  all_goals try conv => whnf
  all_goals try (refine Side.mk ?_; try dsimp only)
  all_goals first | refine stay ?_ | trivial | omega | (simp (discharger := omega) only [wR]; omega) | (simp only [lnS]; omega) | (simp (discharger := omega) [-List.getD_eq_getElem?_getD, wR] <;> omega) | skip
  refine EndP.mk [] ?_ <;> (repeat' first | trivial | rfl | exact eqS _ _ | apply andI | apply eqA | apply eqB | apply eqC | apply eqD | apply eqE | apply eqF | apply eqG | apply eqH | apply eqI)
theorem f_cwReady_2 (w : CS) (hp : True) : OK 34 ([.ptr 0 0]) (eCw w) (.bool (w.code == 0)) (none) := by
  refine funOK_of_vc (C := cx []) (good trivial) (fn := Tryd.f34) rfl rfl rfl rfl fun hw hs => ?_
  repeat' ((conv => whnf); first | with_reducible (first | refine go1 (fun j q h => ?_) fun h => ?_ | refine go2 ⟨rfl, rfl⟩ (fun h => ?_) fun j h => ?_ | refine go2 ?_ (fun h => ?_) fun j h => ?_ | refine goQ ?_ (fun h => ?_) fun h => ?_) | apply go3 | apply go4 | apply go5 | ((first | apply go6 | apply go7 | apply go8 | apply go9 | apply goA) <;> intro h) | with_reducible (first | refine IdxK.mk _ rfl ?_ | refine call_ite (fun h => ?_) fun h => ?_ | refine idx_topC ?_ ?_ | refine goB ?_ fun hc => ?_ | refine goC ?_ fun hc => ?_ | refine goD ?_ fun hc => ?_ | refine goE ?_ fun hc => ?_ | apply goF | apply goG | refine goH ?_ fun b hb => ?_) | apply goI | apply goJ | apply goK | apply goL | apply goM | apply goN | apply goO | with_reducible refine goP ?_)
  all_goals try conv => whnf
  all_goals try (refine Side.mk ?_; try dsimp only)
  all_goals first | refine stay ?_ | trivial | omega | (simp (discharger := omega) only [wR]; omega) | (simp only [lnS]; omega) | (simp (discharger := omega) [-List.getD_eq_getElem?_getD, wR] <;> omega) | skip
  all_goals
    refine EndP.mk [] ?_ <;> (repeat' first | trivial | rfl | exact eqS _ _ | apply andI | apply eqA | apply eqB | apply eqC | apply eqD | apply eqE | apply eqF | apply eqG | apply eqH | apply eqI)
def sm_cwReady : Sm := fun args σ => match args, σ with
  | [.nilptr], [] => some (True, .bool false, none)
  | [.ptr 0 0], [.cells [.buf 1, .buf 2, .int .i64 c_w], .buf 1 0 o_w, .buf 4 0 l_w] => some (okC o_w l_w ∧ (True), .bool ((deC o_w l_w c_w).code == 0), none)
  | _, _ => none
theorem k_cwReady : SOK 34 sm_cwReady := by
  intro args sg pre x r he hp
  unfold sm_cwReady at he
  split at he <;> cases he
  · exact f_cwReady_1 (hp := hp) ..
  · rw [viewCw (hp).1]; exact f_cwReady_2 (hp := hp.2) ..
theorem f_cwTop_1 (w : CS) (hp : w.l.length ≤ 1000) : OK 42 ([.ptr 0 0]) (eCw w) (if w.l.length = 0 then .nilptr else .bptr 2 (w.l.length - 1) 0) (none) := by
  refine funOK_of_vc (C := cx []) (good trivial) (fn := Tryd.f42) rfl rfl rfl rfl fun hw hs => ?_
  have e1 : (w.l.map eP).length = w.l.length := by simp
  repeat' ((conv => whnf); first | with_reducible (first | refine go1 (fun j q h => ?_) fun h => ?_ | refine go2 ⟨rfl, rfl⟩ (fun h => ?_) fun j h => ?_ | refine go2 ?_ (fun h => ?_) fun j h => ?_ | refine goQ ?_ (fun h => ?_) fun h => ?_) | apply go3 | apply go4 | apply go5 | ((first | apply go6 | apply go7 | apply go8 | apply go9 | apply goA) <;> intro h) | with_reducible (first | refine IdxK.mk _ rfl ?_ | refine call_ite (fun h => ?_) fun h => ?_ | refine idx_topC ?_ ?_ | refine goB ?_ fun hc => ?_ | refine goC ?_ fun hc => ?_ | refine goD ?_ fun hc => ?_ | refine goE ?_ fun hc => ?_ | apply goF | apply goG | refine goH ?_ fun b hb => ?_) | apply goI | apply goJ | apply goK | apply goL | apply goM | apply goN | apply goO | with_reducible refine goP ?_)
  all_goals try conv => whnf
  all_goals try (refine Side.mk ?_; try dsimp only)
  all_goals first | refine stay ?_ | trivial | omega | (simp (discharger := omega) only [wR]; omega) | (simp only [lnS]; omega) | (simp (discharger := omega) [-List.getD_eq_getElem?_getD, wR] <;> omega) | skip
  all_goals first
    | (show EndP _ _ _ _ _ _
       simp only [List.length_map] at *
       first | rw [if_pos (by omega)] | rw [if_neg (by omega)]
       refine EndP.mk [] ?_ <;> (repeat' first | trivial | rfl | exact eqS _ _ | apply andI | apply eqA | apply eqB | apply eqC | apply eqD | apply eqE | apply eqF | apply eqG | apply eqH | apply eqI)
       all_goals first
         | (rw [show (IntKind.i64.wrap (↑w.l.length - 1)).toNat = w.l.length - 1 by (first | omega | (simp (discharger := omega) only [wR]; omega) | (simp only [lnS]; omega) | (simp (discharger := omega) [-List.getD_eq_getElem?_getD, wR] <;> omega))]; rfl)
         | rfl
      )
    | skip
def sm_cwTop : Sm := fun args σ => match args, σ with
  | [.ptr 0 0], [.cells [.buf 1, .buf 2, .int .i64 c_w], .buf 1 0 o_w, .buf 4 0 l_w] => some (okC o_w l_w ∧ ((deC o_w l_w c_w).l.length ≤ 1000), if (deC o_w l_w c_w).l.length = 0 then .nilptr else .bptr 2 ((deC o_w l_w c_w).l.length - 1) 0, none)
  | _, _ => none
theorem k_cwTop : SOK 42 sm_cwTop := by
  intro args sg pre x r he hp
  unfold sm_cwTop at he
  split at he <;> cases he
  · rw [viewCw (hp).1]; exact f_cwTop_1 (hp := hp.2) ..
theorem f_cwMay_1 (id k : Int) (hp : True) : OK 36 ([.nilptr, .int .i64 id, .int .u8 k]) ([]) (.bool false) (none) := by
  refine funOK_of_vc (C := cx [(34, sm_cwReady), (42, sm_cwTop), (35, sm_cwFail), (64, sm_cSame), (65, sm_cPutField)]) (good ⟨k_cwReady, k_cwTop, k_cwFail, k_cSame, k_cPutField, trivial⟩) (fn := Tryd.f36) rfl rfl rfl rfl fun hw hs => ?_
  repeat' ((conv => whnf); first | with_reducible (first | refine go1 (fun j q h => ?_) fun h => ?_ | refine go2 ⟨rfl, rfl⟩ (fun h => ?_) fun j h => ?_ | refine go2 ?_ (fun h => ?_) fun j h => ?_ | refine goQ ?_ (fun h => ?_) fun h => ?_) | apply go3 | apply go4 | apply go5 | ((first | apply go6 | apply go7 | apply go8 | apply go9 | apply goA) <;> intro h) | with_reducible (first | refine IdxK.mk _ rfl ?_ | refine call_ite (fun h => ?_) fun h => ?_ | refine idx_topC ?_ ?_ | refine goB ?_ fun hc => ?_ | refine goC ?_ fun hc => ?_ | refine goD ?_ fun hc => ?_ | refine goE ?_ fun hc => ?_ | apply goF | apply goG | refine goH ?_ fun b hb => ?_) | apply goI | apply goJ | apply goK | apply goL | apply goM | apply goN | apply goO | with_reducible refine goP ?_)
  all_goals try conv => whnf
  all_goals try (refine Side.mk ?_; try dsimp only)
  all_goals first | refine stay ?_ | trivial | omega | (simp (discharger := omega) only [wR]; omega) | (simp only [lnS]; omega) | (simp (discharger := omega) [-List.getD_eq_getElem?_getD, wR] <;> omega) | skip
  refine EndP.mk [] ?_ <;> (repeat' first | trivial | rfl | exact eqS _ _ | apply andI | apply eqA | apply eqB | apply eqC | apply eqD | apply eqE | apply eqF | apply eqG | apply eqH | apply eqI)
theorem f_cwMay_2 (w : CS) (id k : Int) (hp : w.out.length ≤ 1900000000 ∧ w.l.length ≤ 1000) : OK 36 ([.ptr 0 0, .int .i64 id, .int .u8 k]) (eCw w) (.bool (w.may id k).2) (some (eCw (w.may id k).1)) := by
  refine funOK_of_vc (C := cx [(34, sm_cwReady), (42, sm_cwTop), (35, sm_cwFail), (64, sm_cSame), (65, sm_cPutField)]) (good ⟨k_cwReady, k_cwTop, k_cwFail, k_cSame, k_cPutField, trivial⟩) (fn := Tryd.f36) rfl rfl rfl rfl fun hw hs => ?_
  have e1 : (w.l.map eP).length = w.l.length := by simp
  have hkd := wf_top hs
  have hk : 0 ≤ k ∧ k ≤ 255 := hw.2.2.1
  repeat' ((conv => whnf); first | with_reducible (first | refine go1 (fun j q h => ?_) fun h => ?_ | refine go2 ⟨rfl, rfl⟩ (fun h => ?_) fun j h => ?_ | refine go2 ?_ (fun h => ?_) fun j h => ?_ | refine goQ ?_ (fun h => ?_) fun h => ?_) | apply go3 | apply go4 | apply go5 | ((first | apply go6 | apply go7 | apply go8 | apply go9 | apply goA) <;> intro h) | with_reducible (first | refine IdxK.mk _ rfl ?_ | refine call_ite (fun h => ?_) fun h => ?_ | refine idx_topC ?_ ?_ | refine goB ?_ fun hc => ?_ | refine goC ?_ fun hc => ?_ | refine goD ?_ fun hc => ?_ | refine goE ?_ fun hc => ?_ | apply goF | apply goG | refine goH ?_ fun b hb => ?_) | apply goI | apply goJ | apply goK | apply goL | apply goM | apply goN | apply goO | with_reducible refine goP ?_)
  all_goals try conv => whnf
  all_goals try (refine Side.mk ?_; try dsimp only)
  all_goals first | refine stay ?_ | trivial | omega | (simp (discharger := omega) only [wR]; omega) | (simp only [lnS]; omega) | (simp (discharger := omega) [-List.getD_eq_getElem?_getD, wR] <;> omega) | skip
  all_goals (try rw [deC_e] at *)
  all_goals first
    | exact ⟨okC_e (by omega) (by omega), trivial⟩
    | exact ⟨okC_e (by omega) (by omega), by omega⟩
    | omega
    | (have hkd := hkd (by omega); exact ⟨⟨by omega, by omega⟩, ⟨by omega, by omega⟩, trivial⟩)
    | (refine ⟨⟨by omega, by omega⟩, ?_⟩; rw [bl_length]; omega)
    | skip
  all_goals first
    | (show EndP _ _ _ _ _ _
       try simp only [List.length_append, bl_length] at *
       try rw [fail_0 (by assumption)]
       have he : w.may id k = w.may id k := rfl
       conv at he => rhs; unfold CS.may
       repeat (first | rw [if_pos (by first | assumption | omega | exact sameK_t.2 (by assumption))] at he | rw [if_neg (by first | assumption | omega | exact li_f (by assumption) | exact fun q => absurd (sameK_t.1 q) (by assumption))] at he)
       rw [he]
       first
         | (refine EndP.mk [] ?_ <;> (repeat' first | trivial | rfl | exact eqS _ _ | apply andI | apply eqA | apply eqB | apply eqC | apply eqD | apply eqE | apply eqF | apply eqG | apply eqH | apply eqI)
            all_goals first
              | rfl
              | (show (List.map eP w.l).set _ _ = List.map eP (CS.setTop w _).l
                 simp only [CS.setTop, List.map_set]
                 done))
         | (refine EndP.mk [.swap 1 3] ?_ <;> (repeat' first | trivial | rfl | exact eqS _ _ | apply andI | apply eqA | apply eqB | apply eqC | apply eqD | apply eqE | apply eqF | apply eqG | apply eqH | apply eqI)
            all_goals first
              | rfl
              | (show (List.map eP w.l).set _ _ = List.map eP (CS.setTop w _).l
                 simp only [CS.setTop, List.map_set]
                 done)
              | (show bl _ ++ bl _ = bl _
                 rw [← bl_append]
                 done)))
    | skip
def sm_cwMay : Sm := fun args σ => match args, σ with
  | [.nilptr, .int .i64 id, .int .u8 k], [] => some (True, .bool false, none)
  | [.ptr 0 0, .int .i64 id, .int .u8 k], [.cells [.buf 1, .buf 2, .int .i64 c_w], .buf 1 0 o_w, .buf 4 0 l_w] => some (okC o_w l_w ∧ ((deC o_w l_w c_w).out.length ≤ 1900000000 ∧ (deC o_w l_w c_w).l.length ≤ 1000), .bool ((deC o_w l_w c_w).may id k).2, some (eCw ((deC o_w l_w c_w).may id k).1))
  | _, _ => none
theorem k_cwMay : SOK 36 sm_cwMay := by
  intro args sg pre x r he hp
  unfold sm_cwMay at he
  split at he <;> cases he
  · exact f_cwMay_1 (hp := hp) ..
  · rw [viewCw (hp).1]; exact f_cwMay_2 (hp := hp.2) ..
end Go.Proofs.YtcgjkjabcdeagaaDoor
