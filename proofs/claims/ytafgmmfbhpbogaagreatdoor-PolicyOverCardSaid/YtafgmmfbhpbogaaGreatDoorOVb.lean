/-
  What is left of a room behind a span, and behind a batch.
-/
import Derived.Test.YtafgmmfbhpbogaaGreatDoorOVi
set_option linter.unusedSimpArgs false
set_option linter.unusedVariables false
set_option maxHeartbeats 4000000
namespace Go.Proofs.YtafgmmfbhpbogaaGreatDoor
open Go Go.VG
set_option maxRecDepth 100000
-- #name leftM truchmanlaw24.LeftEntries
def sm_leftM : Sm := fun args σ => match args, σ with
  | [x, .int .i64 q], [] => some (isM x ∧ q ≤ 6000, .int .i64 (leftM (decMv x) q), none)
  | _, _ => none
theorem k_leftM : SOK 12 sm_leftM := by
  intro args sg pre x r he hp
  unfold sm_leftM at he
  split at he <;> cases he
  rename_i y q
  exact (left_all (nodesM (decMv y) + 1)).2 [y, .int .i64 q] [] _ _ _ rfl ⟨hp.1, Nat.lt_succ_self _, hp.2⟩
theorem leftE_drop {l : List Ev} {i : Nat} (h : i < l.length) (n : Int) : leftE (l.drop i) n = if n < 0 then n else if ((l.getD i default).name.length : Int) > n then -1 else leftE (l.drop (i + 1)) (leftM (l.getD i default).attrs (n - 1 - (l.getD i default).name.length)) := by
  rw [drop_nextE h, leftE]
theorem leftK_drop {l : List Lk} {i : Nat} (h : i < l.length) (n : Int) : leftK (l.drop i) n = if n < 0 then n else if ((l.getD i default).state.length : Int) > n then -1 else leftK (l.drop (i + 1)) (leftM (l.getD i default).attrs (n - 1 - (l.getD i default).state.length)) := by
  rw [drop_nextE h, leftK]
theorem leftE_neg {l : List Ev} {n : Int} (h : n < 0) : leftE l n = n := by cases l <;> simp [leftE, h]
theorem leftK_neg {l : List Lk} {n : Int} (h : n < 0) : leftK l n = n := by cases l <;> simp [leftK, h]
theorem leftM_b (l : List Att) (n : Int) (h : -2 ≤ n ∨ -9000000000000000000 ≤ n) : -9000000000000000000 ≤ leftM l n ∧ (leftM l n ≤ n ∨ leftM l n = -1) := by
  have := leftM_le l n
  rcases Int.lt_or_le n 0 with q | q
  · rw [leftM_neg _ _ q]; omega
  · omega
theorem wfL_get {l : List V} {i : Nat} {x : V} (h : V.wfL l) (hx : l[i]? = some x) : x.wf := wfL_iff.1 h x (List.mem_of_getElem? hx)
theorem wr9 {x : Int} (h : -9000000000000000001 ≤ x ∧ x ≤ 9000000000000000000) : IntKind.i64.wrap x = x := by rw [wi64]; omega
-- #name left27 truchmanlaw27.Left
noncomputable def sm_left27 : Sm := fun args σ => match args, σ with
  | [x, .int .i64 q], [] => some ((∃ s, x = eSp s) ∧ q ≤ 6000, .int .i64 (leftS (unE eSp x) q), none)
  | _, _ => none
theorem f_left27 (s : Sp) (n : Int) (hn : n ≤ 6000) : OK 13 [eSp s, .int .i64 n] [] (.int .i64 (leftS s n)) none := by
  refine funOK_of_vc (C := cx [(12, sm_leftM)]) (good ⟨k_leftM, trivial⟩) (fn := Tryz.f13) rfl rfl rfl rfl fun hw _ => ?_
  have hnb : -9223372036854775808 ≤ n := hw.2.1.1
  repeat' ((conv => whnf); first | with_reducible (first | refine go1 (fun j q h => ?_) fun h => ?_ | refine go2 ⟨rfl, rfl⟩ (fun h => ?_) fun j h => ?_ | refine go2 ?_ (fun h => ?_) fun j h => ?_ | refine goQ ?_ (fun h => ?_) fun h => ?_) | apply go3 | apply go4 | apply go5 | ((first | apply go6 | apply go7 | apply go8 | apply go9 | apply goA) <;> intro h) | with_reducible (first | refine IdxK.mk _ rfl ?_ | refine idx_encL ?_ ?_ | refine idx_encM ?_ ?_ | refine goB ?_ fun hc => ?_ | refine goC ?_ fun hc => ?_ | refine goD ?_ fun hc => ?_ | refine goE ?_ fun hc => ?_ | apply goF | apply goG | refine goH ?_ fun b hb => ?_) | apply goI | apply goJ | apply goK | apply goL | apply goM | apply goN | apply goO | with_reducible refine goP ?_)
  all_goals try conv => whnf
  all_goals try (refine Side.mk ?_; try dsimp only)
  all_goals first | refine stay ?_ | trivial | omega | (simp (discharger := omega) only [wR]; omega) | (simp only [lnS]; omega) | (simp (discharger := omega) [-List.getD_eq_getElem?_getD, wR] <;> omega) | skip
  · unfold leftS
    rw [if_pos (by omega)]
    refine EndP.mk [] ?_ <;> (repeat' first | trivial | rfl | exact eqS _ _ | apply andI | apply eqA | apply eqB | apply eqC | apply eqD | apply eqE | apply eqF | apply eqG | apply eqH | apply eqI)
  · unfold leftS
    rw [if_pos (by omega)]
    refine EndP.mk [] ?_ <;> (repeat' first | trivial | rfl | exact eqS _ _ | apply andI | apply eqA | apply eqB | apply eqC | apply eqD | apply eqE | apply eqF | apply eqG | apply eqH | apply eqI)
  · unfold leftS
    rw [if_pos (by omega)]
    refine EndP.mk [] ?_ <;> (repeat' first | trivial | rfl | exact eqS _ _ | apply andI | apply eqA | apply eqB | apply eqC | apply eqD | apply eqE | apply eqF | apply eqG | apply eqH | apply eqI)
  · unfold leftS
    rw [if_pos (by omega)]
    refine EndP.mk [] ?_ <;> (repeat' first | trivial | rfl | exact eqS _ _ | apply andI | apply eqA | apply eqB | apply eqC | apply eqD | apply eqE | apply eqF | apply eqG | apply eqH | apply eqI)
  · refine ⟨isM_enc _, ?_⟩
    simp (discharger := omega) only [wr9]
    omega
  have hq := leftM_b s.attrs (n - 1 - s.state.length - s.name.length - s.note.length) (by omega)
  have hS : leftS s n = leftK s.lks (leftE s.evs (leftM s.attrs (n - 1 - s.state.length - s.name.length - s.note.length))) := by unfold leftS; rw [if_neg (by omega)]
  generalize hg : leftM s.attrs (n - 1 - s.state.length - s.name.length - s.note.length) = q0 at *
  refine LoopP.mk (Nat × Int) (fun (i, q) => i ≤ s.evs.length ∧ q ≤ 6000 ∧ -9000000000000000000 ≤ q ∧ leftE (s.evs.drop i) q = leftE s.evs q0) (fun (i, q) => ⟨124, [(2, .ptr 0 0), (1, .int .i64 q), (5, .int .i64 i)], [.cells (eSpc s)], []⟩) (fun x => s.evs.length - x.1) [] (0, q0) ⟨Nat.zero_le _, by show q0 ≤ 6000; omega, by show -9000000000000000000 ≤ q0; omega, rfl⟩ ?_ (fun ⟨i, q⟩ ⟨hi, hq1, hq2, he⟩ _ _ => ?_)
  · refine Go.VG.Sub.mk rfl ?_ ?_ ?_ ?_ <;> (repeat' first | trivial | rfl | exact eqS _ _ | apply andI | apply eqA | apply eqB | apply eqC | apply eqD | apply eqE | apply eqF | apply eqG | apply eqH | apply eqI)
    rw [decMv_enc, ← hg]
    simp (discharger := omega) only [wr9]
  have e1 : (s.evs.map eEv).length = s.evs.length := List.length_map _
  have e2 : (s.lks.map eLk).length = s.lks.length := List.length_map _
  have hb1 : s.evs.length ≤ 9223372036854775807 := by
    have := (wfL_get (i := 38) (show V.wfL (eSpc s) from hw.1) rfl).1
    rw [e1] at this; exact this
  have hb2 : s.lks.length ≤ 9223372036854775807 := by
    have := (wfL_get (i := 39) (show V.wfL (eSpc s) from hw.1) rfl).1
    rw [e2] at this; exact this
  repeat' ((conv => whnf); first | with_reducible (first | refine go1 (fun j q h => ?_) fun h => ?_ | refine go2 ⟨rfl, rfl⟩ (fun h => ?_) fun j h => ?_ | refine go2 ?_ (fun h => ?_) fun j h => ?_ | refine goQ ?_ (fun h => ?_) fun h => ?_) | apply go3 | apply go4 | apply go5 | ((first | apply go6 | apply go7 | apply go8 | apply go9 | apply goA) <;> intro h) | with_reducible (first | refine IdxK.mk _ rfl ?_ | refine idx_encL ?_ ?_ | refine idx_encM ?_ ?_ | refine goB ?_ fun hc => ?_ | refine goC ?_ fun hc => ?_ | refine goD ?_ fun hc => ?_ | refine goE ?_ fun hc => ?_ | apply goF | apply goG | refine goH ?_ fun b hb => ?_) | apply goI | apply goJ | apply goK | apply goL | apply goM | apply goN | apply goO | with_reducible refine goP ?_)
  all_goals try conv => whnf
  all_goals try (refine Side.mk ?_; try dsimp only)
  all_goals first | refine stay ?_ | trivial | omega | (simp (discharger := omega) only [wR]; omega) | (simp only [lnS]; omega) | (simp (discharger := omega) [-List.getD_eq_getElem?_getD, wR] <;> omega) | skip
  all_goals (try rw [e1] at *)
  · have hd := leftE_drop (l := s.evs) (i := i) (by omega) q
    rw [if_neg (by omega), if_pos (by omega)] at hd
    rw [hS, ← he, hd, leftK_neg (by omega)]
    refine EndP.mk [] ?_ <;> (repeat' first | trivial | rfl | exact eqS _ _ | apply andI | apply eqA | apply eqB | apply eqC | apply eqD | apply eqE | apply eqF | apply eqG | apply eqH | apply eqI)
  · refine ⟨isM_enc _, ?_⟩
    simp (discharger := omega) only [wr9]
    omega
  · have hd := leftE_drop (l := s.evs) (i := i) (by omega) q
    have hqq := leftM_b (s.evs.getD i default).attrs (q - 1 - (s.evs.getD i default).name.length) (by omega)
    rw [if_neg (by omega), if_neg (by omega)] at hd
    refine ⟨[], (i + 1, leftM (s.evs.getD i default).attrs (q - 1 - (s.evs.getD i default).name.length)), ⟨by omega, by omega, by omega, hd.symm.trans he⟩, ?_, by show s.evs.length - (i + 1) < s.evs.length - i; omega⟩
    refine Go.VG.Sub.mk rfl ?_ ?_ ?_ ?_ <;> (repeat' first | trivial | rfl | exact eqS _ _ | apply andI | apply eqA | apply eqB | apply eqC | apply eqD | apply eqE | apply eqF | apply eqG | apply eqH | apply eqI)
    · rw [decMv_enc]
      simp (discharger := omega) only [wr9]
    · (first | omega | (simp (discharger := omega) only [wR]; omega) | (simp only [lnS]; omega) | (simp (discharger := omega) [-List.getD_eq_getElem?_getD, wR] <;> omega))
  all_goals
    have hE : leftE s.evs q0 = q := by
      first
      | (rw [← he, List.drop_of_length_le (by omega)]; rfl)
      | (rw [← he, leftE_neg (by omega)])
    rw [hE] at hS
    refine LoopP.mk (Nat × Int) (fun (i, r) => i ≤ s.lks.length ∧ r ≤ 6000 ∧ -9000000000000000000 ≤ r ∧ leftK (s.lks.drop i) r = leftK s.lks q) (fun (i, r) => ⟨124, [(2, .ptr 0 0), (1, .int .i64 r), (6, .int .i64 i)], [.cells (eSpc s)], []⟩) (fun x => s.lks.length - x.1) [] (0, q) ⟨Nat.zero_le _, hq1, hq2, rfl⟩ ?_ (fun ⟨i, r⟩ ⟨hi, hq1, hq2, he⟩ _ _ => ?_)
    · refine Go.VG.Sub.mk rfl ?_ ?_ ?_ ?_ <;> (repeat' first | trivial | rfl | exact eqS _ _ | apply andI | apply eqA | apply eqB | apply eqC | apply eqD | apply eqE | apply eqF | apply eqG | apply eqH | apply eqI)
    repeat' ((conv => whnf); first | with_reducible (first | refine go1 (fun j q h => ?_) fun h => ?_ | refine go2 ⟨rfl, rfl⟩ (fun h => ?_) fun j h => ?_ | refine go2 ?_ (fun h => ?_) fun j h => ?_ | refine goQ ?_ (fun h => ?_) fun h => ?_) | apply go3 | apply go4 | apply go5 | ((first | apply go6 | apply go7 | apply go8 | apply go9 | apply goA) <;> intro h) | with_reducible (first | refine IdxK.mk _ rfl ?_ | refine idx_encL ?_ ?_ | refine idx_encM ?_ ?_ | refine goB ?_ fun hc => ?_ | refine goC ?_ fun hc => ?_ | refine goD ?_ fun hc => ?_ | refine goE ?_ fun hc => ?_ | apply goF | apply goG | refine goH ?_ fun b hb => ?_) | apply goI | apply goJ | apply goK | apply goL | apply goM | apply goN | apply goO | with_reducible refine goP ?_)
    all_goals try conv => whnf
    all_goals try (refine Side.mk ?_; try dsimp only)
    all_goals first | refine stay ?_ | trivial | omega | (simp (discharger := omega) only [wR]; omega) | (simp only [lnS]; omega) | (simp (discharger := omega) [-List.getD_eq_getElem?_getD, wR] <;> omega) | skip
    all_goals (try rw [e2] at *)
    · have hd := leftK_drop (l := s.lks) (i := i) (by omega) r
      rw [if_neg (by omega), if_pos (by omega)] at hd
      rw [hS, ← he, hd]
      refine EndP.mk [] ?_ <;> (repeat' first | trivial | rfl | exact eqS _ _ | apply andI | apply eqA | apply eqB | apply eqC | apply eqD | apply eqE | apply eqF | apply eqG | apply eqH | apply eqI)
    · refine ⟨isM_enc _, ?_⟩
      simp (discharger := omega) only [wr9]
      omega
    · have hd := leftK_drop (l := s.lks) (i := i) (by omega) r
      have hqq := leftM_b (s.lks.getD i default).attrs (r - 1 - (s.lks.getD i default).state.length) (by omega)
      rw [if_neg (by omega), if_neg (by omega)] at hd
      refine ⟨[], (i + 1, leftM (s.lks.getD i default).attrs (r - 1 - (s.lks.getD i default).state.length)), ⟨by omega, by omega, by omega, hd.symm.trans he⟩, ?_, by show s.lks.length - (i + 1) < s.lks.length - i; omega⟩
      refine Go.VG.Sub.mk rfl ?_ ?_ ?_ ?_ <;> (repeat' first | trivial | rfl | exact eqS _ _ | apply andI | apply eqA | apply eqB | apply eqC | apply eqD | apply eqE | apply eqF | apply eqG | apply eqH | apply eqI)
      · rw [decMv_enc]
        simp (discharger := omega) only [wr9]
      · (first | omega | (simp (discharger := omega) only [wR]; omega) | (simp only [lnS]; omega) | (simp (discharger := omega) [-List.getD_eq_getElem?_getD, wR] <;> omega))
    all_goals
      have hK : leftK s.lks q = r := by
        first
        | (rw [← he, List.drop_of_length_le (by omega)]; rfl)
        | (rw [← he, leftK_neg (by omega)])
      rw [hS, hK]
      refine EndP.mk [] ?_ <;> (repeat' first | trivial | rfl | exact eqS _ _ | apply andI | apply eqA | apply eqB | apply eqC | apply eqD | apply eqE | apply eqF | apply eqG | apply eqH | apply eqI)
theorem k_left27 : SOK 13 sm_left27 := by
  intro args sg pre x r he hp
  unfold sm_left27 at he
  split at he <;> cases he
  obtain ⟨⟨s, rfl⟩, hp⟩ := hp
  rw [un_sp]
  exact f_left27 s _ hp
end Go.Proofs.YtafgmmfbhpbogaaGreatDoor
