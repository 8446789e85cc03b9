/-
  A writer of structs: its other words.
-/
import Derived.Test.YtcgjkjabcdeagaaDoorCWq
set_option linter.unusedSimpArgs false
set_option linter.unusedVariables false
set_option maxHeartbeats 4000000
namespace Go.Proofs.YtcgjkjabcdeagaaDoor
open Go Go.VG
set_option maxRecDepth 100000

theorem may_fail {w : CS} {c id k : Int} (h : ¬ c = 0) : (w.fail c).may id k = (w.fail c, false) := by
  have : (w.fail c).code ≠ 0 := by unfold CS.fail; split <;> simp_all
  unfold CS.may; rw [if_pos this]
theorem may_err {w : CS} {id k : Int} (h : ¬ w.code = 0) : w.may id k = (w, false) := by
  unfold CS.may; rw [if_pos h]
theorem fail_len (w : CS) (c : Int) : (w.fail c).out = w.out ∧ (w.fail c).l = w.l := by unfold CS.fail; split <;> exact ⟨rfl, rfl⟩
theorem fail_err {w : CS} {c : Int} (h : ¬ w.code = 0) : w.fail c = w := by unfold CS.fail; rw [if_neg h]
theorem bitsK_0 {k : Int} (h1 : ¬ k = 3) (h2 : ¬ k = 4) (h3 : ¬ k = 5) (h4 : ¬ k = 6) : bitsK k = 0 := by unfold bitsK; rw [if_neg h1, if_neg h2, if_neg h3, if_neg h4]
theorem f_cwStruct_1 (w : CS) (id : Int) (hp : w.out.length ≤ 1800000000 ∧ w.l.length ≤ 800) : OK 13 ([.ptr 0 0, .int .i64 id]) (eCw w) (.tuple []) (some (eCw (w.struct id))) := by
  refine funOK_of_vc (C := cx [(34, sm_cwReady), (35, sm_cwFail), (36, sm_cwMay), (37, sm_cwBegin)]) (good ⟨k_cwReady, k_cwFail, k_cwMay, k_cwBegin, trivial⟩) (fn := Tryd.f13) rfl rfl rfl rfl fun hw hs => ?_
  have e1 : (w.l.map eP).length = w.l.length := by simp
  have m1 := may_len w id 12
  repeat' ((conv => whnf); first | with_reducible (first | refine go1 (fun j q h => ?_) fun h => ?_ | refine go2 ⟨rfl, rfl⟩ (fun h => ?_) fun j h => ?_ | refine go2 ?_ (fun h => ?_) fun j h => ?_ | refine goQ ?_ (fun h => ?_) fun h => ?_) | apply go3 | apply go4 | apply go5 | ((first | apply go6 | apply go7 | apply go8 | apply go9 | apply goA) <;> intro h) | with_reducible (first | refine IdxK.mk _ rfl ?_ | refine call_ite (fun h => ?_) fun h => ?_ | refine idx_topC ?_ ?_ | refine goB ?_ fun hc => ?_ | refine goC ?_ fun hc => ?_ | refine goD ?_ fun hc => ?_ | refine goE ?_ fun hc => ?_ | apply goF | apply goG | refine goH ?_ fun b hb => ?_) | apply goI | apply goJ | apply goK | apply goL | apply goM | apply goN | apply goO | with_reducible refine goP ?_)
  all_goals try conv => whnf
  all_goals try (refine Side.mk ?_; try dsimp only)
  all_goals first | refine stay ?_ | trivial | omega | (simp (discharger := omega) only [wR]; omega) | (simp only [lnS]; omega) | (simp (discharger := omega) [-List.getD_eq_getElem?_getD, wR] <;> omega) | skip
  all_goals (try simp only [deC_e, bl_length, cond_true, Int.toNat_natCast, List.length_append, List.length_map, List.length_singleton] at *)
  all_goals first
    | (show EndP _ _ _ _ _ _
       skip)
    | exact ⟨okC_e (by omega) (by omega), trivial⟩
    | exact ⟨trivial, okC_e (by omega) (by omega), by omega, by omega⟩
    | exact ⟨okC_e (by omega) (by omega), by omega, by omega⟩
    | exact ⟨okC_e (by omega) (by omega), by omega⟩
    | omega
    | exact ⟨by omega, by omega⟩
    | exact (may_pos (by assumption)).2.1 (by assumption)
    | (have := (may_pos (by assumption)).2.1; omega)
    | skip
  all_goals
    show EndP _ _ _ _ _ _
    unfold CS.struct
    repeat (first | rw [if_pos (by first | assumption | omega)] | rw [if_neg (by first | assumption | omega | exact li_f (by assumption))])
  all_goals (try rw [fail_0 (by assumption)])
  all_goals
    refine EndP.mk [] ?_ <;> (repeat' first | trivial | rfl | exact eqS _ _ | apply andI | apply eqA | apply eqB | apply eqC | apply eqD | apply eqE | apply eqF | apply eqG | apply eqH | apply eqI)
  all_goals (first | rfl | simp [CS.begin])
def sm_cwStruct : Sm := fun args σ => match args, σ with
  | [.ptr 0 0, .int .i64 id], [.cells [.buf 1, .buf 2, .int .i64 c_w], .buf 1 0 o_w, .buf 4 0 l_w] => some (okC o_w l_w ∧ ((deC o_w l_w c_w).out.length ≤ 1800000000 ∧ (deC o_w l_w c_w).l.length ≤ 800), .tuple [], some (eCw ((deC o_w l_w c_w).struct id)))
  | _, _ => none
theorem k_cwStruct : SOK 13 sm_cwStruct := by
  intro args sg pre x r he hp
  unfold sm_cwStruct at he
  split at he <;> cases he
  · rw [viewCw (hp).1]; exact f_cwStruct_1 (hp := hp.2) ..
theorem f_cwList_1 (w : CS) (id n k : Int) (hp : w.out.length ≤ 1800000000 ∧ w.l.length ≤ 800) : OK 19 ([.ptr 0 0, .int .i64 id, .int .i64 n, .int .u8 k]) (eCw w) (.tuple []) (some (eCw (w.list id n k))) := by
  refine funOK_of_vc (C := cx [(34, sm_cwReady), (43, sm_cPutList), (35, sm_cwFail), (36, sm_cwMay), (37, sm_cwBegin)]) (good ⟨k_cwReady, k_cPutList, k_cwFail, k_cwMay, k_cwBegin, trivial⟩) (fn := Tryd.f19) rfl rfl rfl rfl fun hw hs => ?_
  have e1 : (w.l.map eP).length = w.l.length := by simp
  have m1 := may_len w id 9
  have hk : 0 ≤ k ∧ k ≤ 255 := hw.2.2.2.1
  have pl := @plist_len n (byte k)
  repeat' ((conv => whnf); first | with_reducible (first | refine go1 (fun j q h => ?_) fun h => ?_ | refine go2 ⟨rfl, rfl⟩ (fun h => ?_) fun j h => ?_ | refine go2 ?_ (fun h => ?_) fun j h => ?_ | refine goQ ?_ (fun h => ?_) fun h => ?_) | apply go3 | apply go4 | apply go5 | ((first | apply go6 | apply go7 | apply go8 | apply go9 | apply goA) <;> intro h) | with_reducible (first | refine IdxK.mk _ rfl ?_ | refine call_ite (fun h => ?_) fun h => ?_ | refine idx_topC ?_ ?_ | refine goB ?_ fun hc => ?_ | refine goC ?_ fun hc => ?_ | refine goD ?_ fun hc => ?_ | refine goE ?_ fun hc => ?_ | apply goF | apply goG | refine goH ?_ fun b hb => ?_) | apply goI | apply goJ | apply goK | apply goL | apply goM | apply goN | apply goO | with_reducible refine goP ?_)
  all_goals try conv => whnf
  all_goals try (refine Side.mk ?_; try dsimp only)
  all_goals first | refine stay ?_ | trivial | omega | (simp (discharger := omega) only [wR]; omega) | (simp only [lnS]; omega) | (simp (discharger := omega) [-List.getD_eq_getElem?_getD, wR] <;> omega) | skip
  all_goals (try simp only [deC_e, bl_length, cond_true, Int.toNat_natCast, List.length_append, List.length_map, List.length_singleton] at *)
  all_goals first
    | (show EndP _ _ _ _ _ _
       skip)
    | exact ⟨okC_e (by omega) (by omega), trivial⟩
    | exact ⟨trivial, okC_e (by omega) (by omega), by omega, by omega⟩
    | exact ⟨okC_e (by omega) (by omega), by omega, by omega⟩
    | exact ⟨okC_e (by omega) (by omega), by omega⟩
    | omega
    | exact ⟨by omega, by omega⟩
    | exact (may_pos (by assumption)).2.1 (by assumption)
    | (have := (may_pos (by assumption)).2.1; omega)
    | skip
  all_goals (try exact ⟨⟨by omega, by omega⟩, trivial⟩)
  all_goals (try (rw [← bl_append, deC_lit]; refine ⟨trivial, okC_e ?_ ?_, ?_, ?_⟩ <;> (try dsimp only) <;> (try simp only [List.length_append]) <;> omega))
  all_goals (try rw [← bl_append, deC_lit])
  all_goals
    show EndP _ _ _ _ _ _
    unfold CS.list
    repeat (first | rw [if_pos (by first | assumption | omega)] | rw [if_neg (by first | assumption | omega | exact li_f (by assumption))])
  all_goals (try rw [fail_0 (by assumption)])
  all_goals
    refine EndP.mk [] ?_ <;> (repeat' first | trivial | rfl | exact eqS _ _ | apply andI | apply eqA | apply eqB | apply eqC | apply eqD | apply eqE | apply eqF | apply eqG | apply eqH | apply eqI)
  all_goals (first | rfl | simp [CS.begin, bl_append])
def sm_cwList : Sm := fun args σ => match args, σ with
  | [.ptr 0 0, .int .i64 id, .int .i64 n, .int .u8 k], [.cells [.buf 1, .buf 2, .int .i64 c_w], .buf 1 0 o_w, .buf 4 0 l_w] => some (okC o_w l_w ∧ ((deC o_w l_w c_w).out.length ≤ 1800000000 ∧ (deC o_w l_w c_w).l.length ≤ 800), .tuple [], some (eCw ((deC o_w l_w c_w).list id n k)))
  | _, _ => none
theorem k_cwList : SOK 19 sm_cwList := by
  intro args sg pre x r he hp
  unfold sm_cwList at he
  split at he <;> cases he
  · rw [viewCw (hp).1]; exact f_cwList_1 (hp := hp.2) ..
theorem f_cwEnd_1 (w : CS) (hp : w.out.length ≤ 1800000000 ∧ w.l.length ≤ 800) : OK 18 ([.ptr 0 0]) (eCw w) (.tuple []) (some (eCw w.fin)) := by
  refine funOK_of_vc (C := cx [(34, sm_cwReady), (42, sm_cwTop), (35, sm_cwFail)]) (good ⟨k_cwReady, k_cwTop, k_cwFail, trivial⟩) (fn := Tryd.f18) rfl rfl rfl rfl fun hw hs => ?_
  have e1 : (w.l.map eP).length = w.l.length := by simp
  repeat' ((conv => whnf); first | with_reducible (first | refine go1 (fun j q h => ?_) fun h => ?_ | refine go2 ⟨rfl, rfl⟩ (fun h => ?_) fun j h => ?_ | refine go2 ?_ (fun h => ?_) fun j h => ?_ | refine goQ ?_ (fun h => ?_) fun h => ?_) | apply go3 | apply go4 | apply go5 | ((first | apply go6 | apply go7 | apply go8 | apply go9 | apply goA) <;> intro h) | with_reducible (first | refine IdxK.mk _ rfl ?_ | refine call_ite (fun h => ?_) fun h => ?_ | refine idx_topC ?_ ?_ | refine goB ?_ fun hc => ?_ | refine goC ?_ fun hc => ?_ | refine goD ?_ fun hc => ?_ | refine goE ?_ fun hc => ?_ | apply goF | apply goG | refine goH ?_ fun b hb => ?_) | apply goI | apply goJ | apply goK | apply goL | apply goM | apply goN | apply goO | with_reducible refine goP ?_)
  all_goals try conv => whnf
  all_goals try (refine Side.mk ?_; try dsimp only)
  all_goals first | refine stay ?_ | trivial | omega | (simp (discharger := omega) only [wR]; omega) | (simp only [lnS]; omega) | (simp (discharger := omega) [-List.getD_eq_getElem?_getD, wR] <;> omega) | skip
  all_goals (try simp only [deC_e, bl_length, cond_true, Int.toNat_natCast, List.length_append, List.length_map, List.length_singleton] at *)
  all_goals first
    | (show EndP _ _ _ _ _ _
       skip)
    | exact ⟨okC_e (by omega) (by omega), trivial⟩
    | exact ⟨trivial, okC_e (by omega) (by omega), by omega, by omega⟩
    | exact ⟨okC_e (by omega) (by omega), by omega, by omega⟩
    | exact ⟨okC_e (by omega) (by omega), by omega⟩
    | omega
    | exact ⟨by omega, by omega⟩
    | exact (may_pos (by assumption)).2.1 (by assumption)
    | (have := (may_pos (by assumption)).2.1; omega)
    | skip
  all_goals (try (refine ⟨?_, ?_⟩ <;> (first | omega | (simp (discharger := omega) only [wR]; omega) | (simp only [lnS]; omega) | (simp (discharger := omega) [-List.getD_eq_getElem?_getD, wR] <;> omega))))
  all_goals
    show EndP _ _ _ _ _ _
    unfold CS.fin
    repeat (first | rw [if_pos (by first | assumption | omega)] | rw [if_neg (by first | assumption | omega | exact li_f (by assumption))])
  all_goals (try rw [fail_0 (by assumption)])
  all_goals
    refine EndP.mk [] ?_ <;> (repeat' first | trivial | rfl | exact eqS _ _ | apply andI | apply eqA | apply eqB | apply eqC | apply eqD | apply eqE | apply eqF | apply eqG | apply eqH | apply eqI)
  all_goals (try rw [show (IntKind.i64.wrap (↑w.l.length - 1)).toNat = w.l.length - 1 by (first | omega | (simp (discharger := omega) only [wR]; omega) | (simp only [lnS]; omega) | (simp (discharger := omega) [-List.getD_eq_getElem?_getD, wR] <;> omega))])
  all_goals (first | rfl | (simp [bl_append, bl, bv, List.map_take]; done))
def sm_cwEnd : Sm := fun args σ => match args, σ with
  | [.ptr 0 0], [.cells [.buf 1, .buf 2, .int .i64 c_w], .buf 1 0 o_w, .buf 4 0 l_w] => some (okC o_w l_w ∧ ((deC o_w l_w c_w).out.length ≤ 1800000000 ∧ (deC o_w l_w c_w).l.length ≤ 800), .tuple [], some (eCw (deC o_w l_w c_w).fin))
  | _, _ => none
theorem k_cwEnd : SOK 18 sm_cwEnd := by
  intro args sg pre x r he hp
  unfold sm_cwEnd at he
  split at he <;> cases he
  · rw [viewCw (hp).1]; exact f_cwEnd_1 (hp := hp.2) ..
theorem f_cwDone_1  (hp : True) : OK 10 ([.nilptr]) ([]) (.tuple [.str [], .int .i64 9]) (none) := by
  refine funOK_of_vc (C := cx []) (good trivial) (fn := Tryd.f10) rfl rfl rfl rfl fun hw hs => ?_
  repeat' ((conv => whnf); first | with_reducible (first | refine go1 (fun j q h => ?_) fun h => ?_ | refine go2 ⟨rfl, rfl⟩ (fun h => ?_) fun j h => ?_ | refine go2 ?_ (fun h => ?_) fun j h => ?_ | refine goQ ?_ (fun h => ?_) fun h => ?_) | apply go3 | apply go4 | apply go5 | ((first | apply go6 | apply go7 | apply go8 | apply go9 | apply goA) <;> intro h) | with_reducible (first | refine IdxK.mk _ rfl ?_ | refine call_ite (fun h => ?_) fun h => ?_ | refine idx_topC ?_ ?_ | refine goB ?_ fun hc => ?_ | refine goC ?_ fun hc => ?_ | refine goD ?_ fun hc => ?_ | refine goE ?_ fun hc => ?_ | apply goF | apply goG | refine goH ?_ fun b hb => ?_) | apply goI | apply goJ | apply goK | apply goL | apply goM | apply goN | apply goO | with_reducible refine goP ?_)
  all_goals try conv => whnf
  all_goals try (refine Side.mk ?_; try dsimp only)
  all_goals first | refine stay ?_ | trivial | omega | (simp (discharger := omega) only [wR]; omega) | (simp only [lnS]; omega) | (simp (discharger := omega) [-List.getD_eq_getElem?_getD, wR] <;> omega) | skip
  refine EndP.mk [] ?_ <;> (repeat' first | trivial | rfl | exact eqS _ _ | apply andI | apply eqA | apply eqB | apply eqC | apply eqD | apply eqE | apply eqF | apply eqG | apply eqH | apply eqI)
theorem f_cwDone_2 (w : CS) (hp : True) : OK 10 ([.ptr 0 0]) (eCw w) (.tuple [.str w.done.1, .int .i64 w.done.2]) (none) := by
  refine funOK_of_vc (C := cx []) (good trivial) (fn := Tryd.f10) rfl rfl rfl rfl fun hw hs => ?_
  have e1 : (w.l.map eP).length = w.l.length := by simp
  repeat' ((conv => whnf); first | with_reducible (first | refine go1 (fun j q h => ?_) fun h => ?_ | refine go2 ⟨rfl, rfl⟩ (fun h => ?_) fun j h => ?_ | refine go2 ?_ (fun h => ?_) fun j h => ?_ | refine goQ ?_ (fun h => ?_) fun h => ?_) | apply go3 | apply go4 | apply go5 | ((first | apply go6 | apply go7 | apply go8 | apply go9 | apply goA) <;> intro h) | with_reducible (first | refine IdxK.mk _ rfl ?_ | refine call_ite (fun h => ?_) fun h => ?_ | refine idx_topC ?_ ?_ | refine goB ?_ fun hc => ?_ | refine goC ?_ fun hc => ?_ | refine goD ?_ fun hc => ?_ | refine goE ?_ fun hc => ?_ | apply goF | apply goG | refine goH ?_ fun b hb => ?_) | apply goI | apply goJ | apply goK | apply goL | apply goM | apply goN | apply goO | with_reducible refine goP ?_)
  all_goals try conv => whnf
  all_goals try (refine Side.mk ?_; try dsimp only)
  all_goals first | refine stay ?_ | trivial | omega | (simp (discharger := omega) only [wR]; omega) | (simp only [lnS]; omega) | (simp (discharger := omega) [-List.getD_eq_getElem?_getD, wR] <;> omega) | skip
  all_goals
    have he : w.done = w.done := rfl
    conv at he => rhs; unfold CS.done
    repeat (first | rw [if_pos (by first | assumption | omega | (simp [*]; done) | (simp; omega))] at he | rw [if_neg (by first | omega | (intro hh; rcases hh with hh | hh; (· omega); (· simp_all)))] at he)
    rw [he]
    refine EndP.mk [] ?_ <;> (repeat' first | trivial | rfl | exact eqS _ _ | apply andI | apply eqA | apply eqB | apply eqC | apply eqD | apply eqE | apply eqF | apply eqG | apply eqH | apply eqI)
def sm_cwDone : Sm := fun args σ => match args, σ with
  | [.nilptr], [] => some (True, .tuple [.str [], .int .i64 9], none)
  | [.ptr 0 0], [.cells [.buf 1, .buf 2, .int .i64 c_w], .buf 1 0 o_w, .buf 4 0 l_w] => some (okC o_w l_w ∧ (True), .tuple [.str (deC o_w l_w c_w).done.1, .int .i64 (deC o_w l_w c_w).done.2], none)
  | _, _ => none
theorem k_cwDone : SOK 10 sm_cwDone := by
  intro args sg pre x r he hp
  unfold sm_cwDone at he
  split at he <;> cases he
  · exact f_cwDone_1 (hp := hp) ..
  · rw [viewCw (hp).1]; exact f_cwDone_2 (hp := hp.2) ..
theorem f_cwNew_1  (hp : True) : OK 7 ([]) ([]) (.ptr 0 0) (some (eCw .new)) := by
  refine funOK_of_vc (C := cx []) (good trivial) (fn := Tryd.f7) rfl rfl rfl rfl fun hw hs => ?_
  repeat' ((conv => whnf); first | with_reducible (first | refine go1 (fun j q h => ?_) fun h => ?_ | refine go2 ⟨rfl, rfl⟩ (fun h => ?_) fun j h => ?_ | refine go2 ?_ (fun h => ?_) fun j h => ?_ | refine goQ ?_ (fun h => ?_) fun h => ?_) | apply go3 | apply go4 | apply go5 | ((first | apply go6 | apply go7 | apply go8 | apply go9 | apply goA) <;> intro h) | with_reducible (first | refine IdxK.mk _ rfl ?_ | refine call_ite (fun h => ?_) fun h => ?_ | refine idx_topC ?_ ?_ | refine goB ?_ fun hc => ?_ | refine goC ?_ fun hc => ?_ | refine goD ?_ fun hc => ?_ | refine goE ?_ fun hc => ?_ | apply goF | apply goG | refine goH ?_ fun b hb => ?_) | apply goI | apply goJ | apply goK | apply goL | apply goM | apply goN | apply goO | with_reducible refine goP ?_)
  all_goals try conv => whnf
  all_goals try (refine Side.mk ?_; try dsimp only)
  all_goals first | refine stay ?_ | trivial | omega | (simp (discharger := omega) only [wR]; omega) | (simp only [lnS]; omega) | (simp (discharger := omega) [-List.getD_eq_getElem?_getD, wR] <;> omega) | skip
  refine EndP.mk [.cell 0 0 1, .cell 0 1 4] ?_ <;> (repeat' first | trivial | rfl | exact eqS _ _ | apply andI | apply eqA | apply eqB | apply eqC | apply eqD | apply eqE | apply eqF | apply eqG | apply eqH | apply eqI)
def sm_cwNew : Sm := fun args σ => match args, σ with
  | [], [] => some (True, .ptr 0 0, some (eCw .new))
  | _, _ => none
theorem k_cwNew : SOK 7 sm_cwNew := by
  intro args sg pre x r he hp
  unfold sm_cwNew at he
  split at he <;> cases he
  · exact f_cwNew_1 (hp := hp) ..
end Go.Proofs.YtcgjkjabcdeagaaDoor
