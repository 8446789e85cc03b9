/-
  What is left of a room behind a batch.
-/
import Derived.Test.YtafgmmfbhpbogaaGreatDoorOVb
set_option linter.unusedSimpArgs false
set_option linter.unusedVariables false
set_option maxHeartbeats 4000000
namespace Go.Proofs.YtafgmmfbhpbogaaGreatDoor
open Go Go.VG
set_option maxRecDepth 100000
theorem leftE_b : ∀ (l : List Ev) (n : Int), (-1 ≤ leftE l n ∨ leftE l n = n) ∧ (leftE l n ≤ n ∨ leftE l n = -1)
  | [], n => by simp [leftE]
  | e :: l, n => by
    rw [leftE]
    split
    · exact ⟨.inr rfl, .inl (Int.le_refl _)⟩
    split
    · exact ⟨.inl (Int.le_refl _), .inr rfl⟩
    · have h1 := leftM_le e.attrs (n - 1 - e.name.length)
      have h2 := leftE_b l (leftM e.attrs (n - 1 - e.name.length))
      omega
theorem leftK_b : ∀ (l : List Lk) (n : Int), (-1 ≤ leftK l n ∨ leftK l n = n) ∧ (leftK l n ≤ n ∨ leftK l n = -1)
  | [], n => by simp [leftK]
  | e :: l, n => by
    rw [leftK]
    split
    · exact ⟨.inr rfl, .inl (Int.le_refl _)⟩
    split
    · exact ⟨.inl (Int.le_refl _), .inr rfl⟩
    · have h1 := leftM_le e.attrs (n - 1 - e.state.length)
      have h2 := leftK_b l (leftM e.attrs (n - 1 - e.state.length))
      omega
theorem leftS_b (s : Sp) (n : Int) (h : n ≤ 6000) : -20000 ≤ leftS s n ∧ (leftS s n ≤ n ∨ leftS s n = -1) := by
  unfold leftS
  split
  · omega
  · have h1 := leftM_b s.attrs (n - 1 - s.state.length - s.name.length - s.note.length) (by omega)
    have h4 := leftM_le s.attrs (n - 1 - s.state.length - s.name.length - s.note.length)
    have h5 := @leftM_neg s.attrs (n - 1 - s.state.length - s.name.length - s.note.length)
    have h2 := leftE_b s.evs (leftM s.attrs (n - 1 - s.state.length - s.name.length - s.note.length))
    have h3 := leftK_b s.lks (leftE s.evs (leftM s.attrs (n - 1 - s.state.length - s.name.length - s.note.length)))
    rcases Int.lt_or_le (n - 1 - s.state.length - s.name.length - s.note.length) 0 with q | q
    · have := h5 q; omega
    · omega
theorem leftSs_b : ∀ (l : List Sp) (n : Int), n ≤ 6000 → (-20000 ≤ leftSs l n ∨ leftSs l n = n) ∧ (leftSs l n ≤ n ∨ leftSs l n = -1)
  | [], n, _ => by simp [leftSs]
  | s :: l, n, h => by
    rw [leftSs]
    split
    · exact ⟨.inr rfl, .inl (Int.le_refl _)⟩
    · have h1 := leftS_b s n h
      have h2 := leftSs_b l (leftS s n) (by omega)
      omega
theorem leftSc_b : ∀ (l : List Sc) (n : Int), n ≤ 6000 → (-20000 ≤ leftSc l n ∨ leftSc l n = n) ∧ (leftSc l n ≤ n ∨ leftSc l n = -1)
  | [], n, _ => by simp [leftSc]
  | c :: l, n, h => by
    rw [leftSc]
    split
    · exact ⟨.inr rfl, .inl (Int.le_refl _)⟩
    split
    · exact ⟨.inl (by omega), .inr rfl⟩
    · have h1 := leftSs_b c.spans (n - 1 - c.name.length - c.version.length) (by omega)
      have h2 := leftSc_b l (leftSs c.spans (n - 1 - c.name.length - c.version.length)) (by omega)
      omega
theorem leftSs_neg {l : List Sp} {n : Int} (h : n < 0) : leftSs l n = n := by cases l <;> simp [leftSs, h]
theorem leftSc_neg {l : List Sc} {n : Int} (h : n < 0) : leftSc l n = n := by cases l <;> simp [leftSc, h]
theorem leftB_neg {l : List Rs} {n : Int} (h : n < 0) : leftB l n = n := by cases l <;> simp [leftB, h]
theorem leftSs_drop {l : List Sp} {i : Nat} (h : i < l.length) (n : Int) : leftSs (l.drop i) n = if n < 0 then n else leftSs (l.drop (i + 1)) (leftS (l.getD i default) n) := by
  rw [drop_nextE h, leftSs]
theorem leftSc_drop {l : List Sc} {i : Nat} (h : i < l.length) (n : Int) : leftSc (l.drop i) n = if n < 0 then n else if ((l.getD i default).name.length : Int) > n ∨ ((l.getD i default).version.length : Int) > n then -1 else leftSc (l.drop (i + 1)) (leftSs (l.getD i default).spans (n - 1 - (l.getD i default).name.length - (l.getD i default).version.length)) := by
  rw [drop_nextE h, leftSc]
theorem leftB_drop {l : List Rs} {i : Nat} (h : i < l.length) (n : Int) : leftB (l.drop i) n = if n < 0 then n else leftB (l.drop (i + 1)) (leftSc (l.getD i default).scopes (leftM (l.getD i default).attrs (n - 1))) := by
  rw [drop_nextE h, leftB]
-- #name left28 truchmanlaw28.Left
noncomputable def sm_left28 : Sm := fun args σ => match args, σ with
  | [x, .int .i64 q], [] => some ((∃ b, x = eBt b) ∧ 0 ≤ q ∧ q ≤ 6000, .int .i64 (leftB (unE eBt x) q), none)
  | _, _ => none
theorem f_left28 (b : List Rs) (n : Int) (hn : 0 ≤ n ∧ n ≤ 6000) : OK 4 [eBt b, .int .i64 n] [] (.int .i64 (leftB b n)) none := by
  refine funOK_of_vc (C := cx [(12, sm_leftM), (13, sm_left27)]) (good ⟨k_leftM, k_left27, trivial⟩) (fn := Tryz.f4) rfl rfl rfl rfl fun hw _ => ?_
  have hb0 : (b.map eRs).length = b.length := List.length_map _
  have hbl : b.length ≤ 9223372036854775807 := by
    have := (wfL_get (i := 0) (show V.wfL [.list false 2 (b.map eRs)] from hw.1) rfl).1
    rw [hb0] at this; exact this
  repeat' ((conv => whnf); first | with_reducible (first | refine go1 (fun j q h => ?_) fun h => ?_ | refine go2 ⟨rfl, rfl⟩ (fun h => ?_) fun j h => ?_ | refine go2 ?_ (fun h => ?_) fun j h => ?_ | refine goQ ?_ (fun h => ?_) fun h => ?_) | apply go3 | apply go4 | apply go5 | ((first | apply go6 | apply go7 | apply go8 | apply go9 | apply goA) <;> intro h) | with_reducible (first | refine IdxK.mk _ rfl ?_ | refine idx_encL ?_ ?_ | refine idx_encM ?_ ?_ | refine goB ?_ fun hc => ?_ | refine goC ?_ fun hc => ?_ | refine goD ?_ fun hc => ?_ | refine goE ?_ fun hc => ?_ | apply goF | apply goG | refine goH ?_ fun b hb => ?_) | apply goI | apply goJ | apply goK | apply goL | apply goM | apply goN | apply goO | with_reducible refine goP ?_)
  all_goals try conv => whnf
  all_goals try (refine Side.mk ?_; try dsimp only)
  refine LoopP.mk (Nat × Int) (fun (i, q) => i ≤ b.length ∧ q ≤ 6000 ∧ -30000 ≤ q ∧ leftB (b.drop i) q = leftB b n) (fun (i, q) => ⟨106, [(2, .ptr 0 0), (1, .int .i64 q), (5, .int .i64 i)], [.cells [.list false 2 (b.map eRs)]], []⟩) (fun x => b.length - x.1) [] (0, n) ⟨Nat.zero_le _, hn.2, by show -30000 ≤ n; omega, rfl⟩ ?_ (fun ⟨i, q⟩ ⟨hi, hq1, hq2, he⟩ ht hss => ?_)
  · refine Go.VG.Sub.mk rfl ?_ ?_ ?_ ?_ <;> (repeat' first | trivial | rfl | exact eqS _ _ | apply andI | apply eqA | apply eqB | apply eqC | apply eqD | apply eqE | apply eqF | apply eqG | apply eqH | apply eqI)
  have hd := fun h => leftB_drop (l := b) (i := i) h q
  generalize hR : b.getD i default = r at *
  have hr := leftM_b r.attrs (q - 1) (by omega)
  have hr2 := leftM_le r.attrs (q - 1)
  repeat' ((conv => whnf); first | with_reducible (first | refine go1 (fun j q h => ?_) fun h => ?_ | refine go2 ⟨rfl, rfl⟩ (fun h => ?_) fun j h => ?_ | refine go2 ?_ (fun h => ?_) fun j h => ?_ | refine goQ ?_ (fun h => ?_) fun h => ?_) | apply go3 | apply go4 | apply go5 | ((first | apply go6 | apply go7 | apply go8 | apply go9 | apply goA) <;> intro h) | with_reducible (first | refine IdxK.mk _ rfl ?_ | refine idx_encL ?_ ?_ | refine idx_encM ?_ ?_ | refine goB ?_ fun hc => ?_ | refine goC ?_ fun hc => ?_ | refine goD ?_ fun hc => ?_ | refine goE ?_ fun hc => ?_ | apply goF | apply goG | refine goH ?_ fun b hb => ?_) | apply goI | apply goJ | apply goK | apply goL | apply goM | apply goN | apply goO | with_reducible refine goP ?_)
  all_goals try conv => whnf
  all_goals try (refine Side.mk ?_; try dsimp only)
  all_goals first | refine stay ?_ | trivial | omega | (simp (discharger := omega) only [wR]; omega) | (simp only [lnS]; omega) | (simp (discharger := omega) [-List.getD_eq_getElem?_getD, wR] <;> omega) | skip
  all_goals (try simp only [hb0, hR] at *)
  · refine ⟨isM_enc _, ?_⟩
    simp (discharger := omega) only [wr9]
    omega
  · have hd := hd (by omega)
    rw [if_neg (by omega)] at hd
    have hs0 : (r.scopes.map eSc).length = r.scopes.length := List.length_map _
    generalize hq0 : leftM r.attrs (q - 1) = q0 at *
    have hQ := leftSc_b r.scopes q0 (by omega)
    refine LoopP.mk (Nat × Int) (fun (k, p) => k ≤ r.scopes.length ∧ p ≤ 6000 ∧ -30000 ≤ p ∧ leftSc (r.scopes.drop k) p = leftSc r.scopes q0) (fun (k, p) => ⟨106, [(2, .ptr 0 0), (1, .int .i64 p), (5, .int .i64 i), (6, .ptr 1 0), (7, .int .i64 k)], [.cells [.list false 2 (b.map eRs)], .cells [.list false 7 (encM r.attrs), .list false 3 (r.scopes.map eSc)]], []⟩) (fun x => r.scopes.length - x.1) [] (0, q0) ⟨Nat.zero_le _, by show q0 ≤ 6000; omega, by show -30000 ≤ q0; omega, rfl⟩ ?_ (fun ⟨k, p⟩ ⟨hk, hp1, hp2, hpe⟩ _ hss => ?_)
    · refine Go.VG.Sub.mk rfl ?_ ?_ ?_ ?_ <;> (repeat' first | trivial | rfl | exact eqS _ _ | apply andI | apply eqA | apply eqB | apply eqC | apply eqD | apply eqE | apply eqF | apply eqG | apply eqH | apply eqI)
      rw [decMv_enc, ← hq0]
      simp (discharger := omega) only [wr9]
    have hsw : (V.list false 3 (r.scopes.map eSc)).wf := wfL_get (i := 1) (show V.wfL [V.list false 7 (encM r.attrs), .list false 3 (r.scopes.map eSc)] from hss.2.1) rfl
    have hsl : r.scopes.length ≤ 9223372036854775807 := by have := hsw.1; rw [hs0] at this; exact this
    have hcd := fun h => leftSc_drop (l := r.scopes) (i := k) h p
    have hcw : k < r.scopes.length → (eSc (r.scopes.getD k default)).wf := fun h => wfL_get (i := k) hsw.2 (by rw [List.getElem?_map, List.getD_eq_getElem?_getD, List.getElem?_eq_getElem h]; rfl)
    repeat' ((conv => whnf); first | with_reducible (first | refine go1 (fun j q h => ?_) fun h => ?_ | refine go2 ⟨rfl, rfl⟩ (fun h => ?_) fun j h => ?_ | refine go2 ?_ (fun h => ?_) fun j h => ?_ | refine goQ ?_ (fun h => ?_) fun h => ?_) | apply go3 | apply go4 | apply go5 | ((first | apply go6 | apply go7 | apply go8 | apply go9 | apply goA) <;> intro h) | with_reducible (first | refine IdxK.mk _ rfl ?_ | refine idx_encL ?_ ?_ | refine idx_encM ?_ ?_ | refine goB ?_ fun hc => ?_ | refine goC ?_ fun hc => ?_ | refine goD ?_ fun hc => ?_ | refine goE ?_ fun hc => ?_ | apply goF | apply goG | refine goH ?_ fun b hb => ?_) | apply goI | apply goJ | apply goK | apply goL | apply goM | apply goN | apply goO | with_reducible refine goP ?_)
    all_goals try conv => whnf
    all_goals try (refine Side.mk ?_; try dsimp only)
    all_goals first | refine stay ?_ | trivial | omega | (simp (discharger := omega) only [wR]; omega) | (simp only [lnS]; omega) | (simp (discharger := omega) [-List.getD_eq_getElem?_getD, wR] <;> omega) | skip
    all_goals (try simp only [hs0] at *)
    · have hcd := hcd (by omega)
      rw [if_neg (by omega), if_pos (by omega)] at hcd
      rw [← he, hd, ← hpe, hcd, leftB_neg (by omega)]
      refine EndP.mk [] ?_ <;> (repeat' first | trivial | rfl | exact eqS _ _ | apply andI | apply eqA | apply eqB | apply eqC | apply eqD | apply eqE | apply eqF | apply eqG | apply eqH | apply eqI)
    · have hcd := hcd (by omega)
      rw [if_neg (by omega), if_pos (by omega)] at hcd
      rw [← he, hd, ← hpe, hcd, leftB_neg (by omega)]
      refine EndP.mk [] ?_ <;> (repeat' first | trivial | rfl | exact eqS _ _ | apply andI | apply eqA | apply eqB | apply eqC | apply eqD | apply eqE | apply eqF | apply eqG | apply eqH | apply eqI)
    · have hcd := hcd (by omega)
      rw [if_neg (by omega), if_neg (by omega)] at hcd
      have hm0 : ((r.scopes.getD k default).spans.map eSp).length = (r.scopes.getD k default).spans.length := List.length_map _
      have hcl : (r.scopes.getD k default).spans.length ≤ 9223372036854775807 := by
        have := (wfL_get (i := 2) (show V.wfL [.str (r.scopes.getD k default).name, .str (r.scopes.getD k default).version, .list false 42 ((r.scopes.getD k default).spans.map eSp)] from hcw (by omega)) rfl).1
        rw [hm0] at this; exact this
      generalize hp0 : p - 1 - (r.scopes.getD k default).name.length - (r.scopes.getD k default).version.length = p0 at *
      have hPb := leftSs_b (r.scopes.getD k default).spans p0 (by omega)
      refine LoopP.mk (Nat × Int) (fun (m, y) => m ≤ (r.scopes.getD k default).spans.length ∧ y ≤ 6000 ∧ -30000 ≤ y ∧ leftSs ((r.scopes.getD k default).spans.drop m) y = leftSs (r.scopes.getD k default).spans p0) (fun (m, y) => ⟨106, [(2, .ptr 0 0), (1, .int .i64 y), (5, .int .i64 i), (6, .ptr 1 0), (7, .int .i64 k), (8, .int .i64 m)], [.cells [.list false 2 (b.map eRs)], .cells [.list false 7 (encM r.attrs), .list false 3 (r.scopes.map eSc)]], []⟩) (fun x => (r.scopes.getD k default).spans.length - x.1) [] (0, p0) ⟨Nat.zero_le _, by show p0 ≤ 6000; omega, by show -30000 ≤ p0; omega, rfl⟩ ?_ (fun ⟨m, y⟩ ⟨hm, hy1, hy2, hye⟩ _ _ => ?_)
      · refine Go.VG.Sub.mk rfl ?_ ?_ ?_ ?_ <;> (repeat' first | trivial | rfl | exact eqS _ _ | apply andI | apply eqA | apply eqB | apply eqC | apply eqD | apply eqE | apply eqF | apply eqG | apply eqH | apply eqI)
        rw [← hp0]
        simp (discharger := omega) only [wr9]
      have hsd := fun h => leftSs_drop (l := (r.scopes.getD k default).spans) (i := m) h y
      have hsb := leftS_b ((r.scopes.getD k default).spans.getD m default) y hy1
      repeat' ((conv => whnf); first | with_reducible (first | refine go1 (fun j q h => ?_) fun h => ?_ | refine go2 ⟨rfl, rfl⟩ (fun h => ?_) fun j h => ?_ | refine go2 ?_ (fun h => ?_) fun j h => ?_ | refine goQ ?_ (fun h => ?_) fun h => ?_) | apply go3 | apply go4 | apply go5 | ((first | apply go6 | apply go7 | apply go8 | apply go9 | apply goA) <;> intro h) | with_reducible (first | refine IdxK.mk _ rfl ?_ | refine idx_encL ?_ ?_ | refine idx_encM ?_ ?_ | refine goB ?_ fun hc => ?_ | refine goC ?_ fun hc => ?_ | refine goD ?_ fun hc => ?_ | refine goE ?_ fun hc => ?_ | apply goF | apply goG | refine goH ?_ fun b hb => ?_) | apply goI | apply goJ | apply goK | apply goL | apply goM | apply goN | apply goO | with_reducible refine goP ?_)
      all_goals try conv => whnf
      all_goals try (refine Side.mk ?_; try dsimp only)
      all_goals first | refine stay ?_ | trivial | omega | (simp (discharger := omega) only [wR]; omega) | (simp only [lnS]; omega) | (simp (discharger := omega) [-List.getD_eq_getElem?_getD, wR] <;> omega) | skip
      all_goals (try simp only [hs0, hm0, un_sp] at *)
      · exact ⟨⟨_, rfl⟩, hy1⟩
      · have hsd := hsd (by omega)
        rw [if_neg (by omega)] at hsd
        refine ⟨[], (m + 1, leftS ((r.scopes.getD k default).spans.getD m default) y), ⟨by show m + 1 ≤ _; omega, by show leftS _ y ≤ 6000; omega, by show -30000 ≤ leftS _ y; omega, hsd.symm.trans hye⟩, ?_, by show (r.scopes.getD k default).spans.length - (m + 1) < (r.scopes.getD k default).spans.length - m; omega⟩
        refine Go.VG.Sub.mk rfl ?_ ?_ ?_ ?_ <;> (repeat' first | trivial | rfl | exact eqS _ _ | apply andI | apply eqA | apply eqB | apply eqC | apply eqD | apply eqE | apply eqF | apply eqG | apply eqH | apply eqI)
        (first | omega | (simp (discharger := omega) only [wR]; omega) | (simp only [lnS]; omega) | (simp (discharger := omega) [-List.getD_eq_getElem?_getD, wR] <;> omega))
      all_goals
        have hQe : leftSs (r.scopes.getD k default).spans p0 = y := by
          first
          | (rw [← hye, List.drop_of_length_le (by omega)]; rfl)
          | (rw [← hye, leftSs_neg (by omega)])
        rw [hQe] at hcd
        refine ⟨[], (k + 1, y), ⟨by show k + 1 ≤ _; omega, hy1, hy2, hcd.symm.trans hpe⟩, ?_, by show r.scopes.length - (k + 1) < r.scopes.length - k; omega⟩
        refine Go.VG.Sub.mk rfl ?_ ?_ ?_ ?_ <;> (repeat' first | trivial | rfl | exact eqS _ _ | apply andI | apply eqA | apply eqB | apply eqC | apply eqD | apply eqE | apply eqF | apply eqG | apply eqH | apply eqI)
        (first | omega | (simp (discharger := omega) only [wR]; omega) | (simp only [lnS]; omega) | (simp (discharger := omega) [-List.getD_eq_getElem?_getD, wR] <;> omega))
    all_goals
      have hQe : leftSc r.scopes q0 = p := by
        first
        | (rw [← hpe, List.drop_of_length_le (by omega)]; rfl)
        | (rw [← hpe, leftSc_neg (by omega)])
      rw [hQe] at hd
      refine ⟨[], (i + 1, p), ⟨by show i + 1 ≤ _; omega, hp1, hp2, hd.symm.trans he⟩, ?_, by show b.length - (i + 1) < b.length - i; omega⟩
      refine Go.VG.Sub.mk rfl ?_ ?_ ?_ ?_ <;> (repeat' first | trivial | rfl | exact eqS _ _ | apply andI | apply eqA | apply eqB | apply eqC | apply eqD | apply eqE | apply eqF | apply eqG | apply eqH | apply eqI)
      (first | omega | (simp (discharger := omega) only [wR]; omega) | (simp only [lnS]; omega) | (simp (discharger := omega) [-List.getD_eq_getElem?_getD, wR] <;> omega))
  · have hd := leftB_neg (l := b.drop i) (n := q) (by omega)
    rw [← he, hd]
    refine EndP.mk [] ?_ <;> (repeat' first | trivial | rfl | exact eqS _ _ | apply andI | apply eqA | apply eqB | apply eqC | apply eqD | apply eqE | apply eqF | apply eqG | apply eqH | apply eqI)
  · have hd : leftB (b.drop i) q = q := by rw [List.drop_of_length_le (by omega)]; rfl
    rw [← he, hd]
    refine EndP.mk [] ?_ <;> (repeat' first | trivial | rfl | exact eqS _ _ | apply andI | apply eqA | apply eqB | apply eqC | apply eqD | apply eqE | apply eqF | apply eqG | apply eqH | apply eqI)
theorem k_left28 : SOK 4 sm_left28 := by
  intro args sg pre x r he hp
  unfold sm_left28 at he
  split at he <;> cases he
  obtain ⟨⟨s, rfl⟩, hp⟩ := hp
  rw [un_bt]
  exact f_left28 s _ hp
end Go.Proofs.YtafgmmfbhpbogaaGreatDoor
