/-
  A value's JSON and text: the program's.
-/
import Derived.Test.YtafgmmfbhpbogaaGreatDoorPQuote
import Derived.Test.YtafgmmfbhpbogaaGreatDoorPWord
import Derived.Test.YtafgmmfbhpbogaaGreatDoorTxt
set_option linter.unusedSimpArgs false
set_option linter.unusedVariables false
set_option maxHeartbeats 4000000
namespace Go.Proofs.YtafgmmfbhpbogaaGreatDoor
open Go Go.VG
set_option maxRecDepth 100000
theorem f_truth (n : Int) : OK 35 [.int .i64 n] [] (.str (truth n)) none := by
  refine funOK_of_vc (C := cx []) (good trivial) (fn := Tryz.f35) rfl rfl rfl rfl fun _ _ => ?_
  repeat' ((conv => whnf); first | with_reducible (first | refine go1 (fun j q h => ?_) fun h => ?_ | refine go2 ⟨rfl, rfl⟩ (fun h => ?_) fun j h => ?_ | refine go2 ?_ (fun h => ?_) fun j h => ?_ | refine goQ ?_ (fun h => ?_) fun h => ?_) | apply go3 | apply go4 | apply go5 | ((first | apply go6 | apply go7 | apply go8 | apply go9 | apply goA) <;> intro h) | with_reducible (first | refine IdxK.mk _ rfl ?_ | refine idx_encL ?_ ?_ | refine idx_encM ?_ ?_ | refine goB ?_ fun hc => ?_ | refine goC ?_ fun hc => ?_ | refine goD ?_ fun hc => ?_ | refine goE ?_ fun hc => ?_ | apply goF | apply goG | refine goH ?_ fun b hb => ?_) | apply goI | apply goJ | apply goK | apply goL | apply goM | apply goN | apply goO | with_reducible refine goP ?_)
  all_goals try conv => whnf
  all_goals try (refine Side.mk ?_; try dsimp only)
  all_goals first | refine stay ?_ | ((refine And.intro (isV_ev _) ?_; simp only [decV_ev]; repeat' (refine And.intro ?_ ?_)); all_goals (first | assumption | omega); done) | ((refine And.intro (isM_enc _) ?_; simp only [decMv_enc]; repeat' (refine And.intro ?_ ?_)); all_goals (first | assumption | omega); done) | (exact isV_ev _) | (exact isM_enc _) | (exact isL_enc _) | trivial | omega | (simp (discharger := omega) only [wR]; omega) | (simp only [lnS]; omega) | (simp (discharger := omega) [-List.getD_eq_getElem?_getD, wR] <;> omega) | skip
  · refine EndP.mk [] ?_ <;> (repeat' first | trivial | rfl | exact eqS _ _ | apply andI | apply eqA | apply eqB | apply eqC | apply eqD | apply eqE | apply eqF | apply eqG | apply eqH | apply eqI)
    unfold truth; rw [if_pos (by assumption)]
  · refine EndP.mk [] ?_ <;> (repeat' first | trivial | rfl | exact eqS _ _ | apply andI | apply eqA | apply eqB | apply eqC | apply eqD | apply eqE | apply eqF | apply eqG | apply eqH | apply eqI)
    unfold truth; rw [if_neg (by assumption)]
def sm_truth : Sm := fun args σ => match args, σ with
  | [.int .i64 q], [] => some (True, .str (truth q), none)
  | _, _ => none
theorem k_truth : SOK 35 sm_truth := by
  intro args sg pre x r he hp
  unfold sm_truth at he
  split at he <;> cases he
  exact f_truth _
/-- what a value is told as -/
def thingV (v : Val) : V := if v.kind = 0 then .iface 97 (.str [110, 117, 108, 108]) else if v.kind = 1 then .iface 96 (.str v.text) else if v.kind = 2 then .iface 97 (.str (truth v.num))
  else if v.kind = 3 then .iface 97 (.str (decI v.num)) else if v.kind = 4 then .iface 96 (.str (dbl v.bits)) else if v.kind = 5 then .iface 96 (.str (hexText v.text))
  else if v.kind = 6 then .iface 109 (.list false 6 (encL v.list)) else if v.kind = 7 then .iface 110 (.list false 7 (encM v.map)) else .iface 97 (.str [])
theorem f_thing (v : Val) (hs : v.text.length ≤ 1000000) : OK 29 [ev v] [] (thingV v) none := by
  refine funOK_of_vc (C := cx [(35, sm_truth), (36, sm_deciPut), (37, sm_double), (38, sm_hexaText)]) (good ⟨k_truth, k_deciPut, k_double, k_hexaText, trivial⟩) (fn := Tryz.f29) rfl rfl rfl rfl fun hw _ => ?_
  have hb := wf_ev hw.1
  repeat' ((conv => whnf); first | with_reducible (first | refine go1 (fun j q h => ?_) fun h => ?_ | refine go2 ⟨rfl, rfl⟩ (fun h => ?_) fun j h => ?_ | refine go2 ?_ (fun h => ?_) fun j h => ?_ | refine goQ ?_ (fun h => ?_) fun h => ?_) | apply go3 | apply go4 | apply go5 | ((first | apply go6 | apply go7 | apply go8 | apply go9 | apply goA) <;> intro h) | with_reducible (first | refine IdxK.mk _ rfl ?_ | refine idx_encL ?_ ?_ | refine idx_encM ?_ ?_ | refine goB ?_ fun hc => ?_ | refine goC ?_ fun hc => ?_ | refine goD ?_ fun hc => ?_ | refine goE ?_ fun hc => ?_ | apply goF | apply goG | refine goH ?_ fun b hb => ?_) | apply goI | apply goJ | apply goK | apply goL | apply goM | apply goN | apply goO | with_reducible refine goP ?_)
  all_goals try conv => whnf
  all_goals try (refine Side.mk ?_; try dsimp only)
  all_goals first | refine stay ?_ | ((refine And.intro (isV_ev _) ?_; simp only [decV_ev]; repeat' (refine And.intro ?_ ?_)); all_goals (first | assumption | omega); done) | ((refine And.intro (isM_enc _) ?_; simp only [decMv_enc]; repeat' (refine And.intro ?_ ?_)); all_goals (first | assumption | omega); done) | (exact isV_ev _) | (exact isM_enc _) | (exact isL_enc _) | trivial | omega | (simp (discharger := omega) only [wR]; omega) | (simp only [lnS]; omega) | (simp (discharger := omega) [-List.getD_eq_getElem?_getD, wR] <;> omega) | skip
  all_goals
    unfold thingV
    repeat' (first | rw [if_pos (by assumption)] | rw [if_neg (by assumption)])
    refine EndP.mk [] ?_ <;> (repeat' first | trivial | rfl | exact eqS _ _ | apply andI | apply eqA | apply eqB | apply eqC | apply eqD | apply eqE | apply eqF | apply eqG | apply eqH | apply eqI)
def sm_thing : Sm := fun args σ => match args, σ with
  | [x], [] => some (isV x ∧ (decV x).text.length ≤ 1000000, thingV (decV x), none)
  | _, _ => none
theorem k_thing : SOK 29 sm_thing := by
  intro args sg pre x r he hp
  unfold sm_thing at he
  split at he <;> cases he
  exact (f_thing _ hp.2).args (WkL.cons hp.1 WkL.nil)
/-- what is added behind a list -/
def smLay (k : Nat) : Sm := fun args σ => match args, σ with
  | [.buf 0, x], [.buf 1 0 l] => some (isV x ∧ (decV x).ok ∧ (decV x).nodes < k ∧ (decV x).size ≤ 300000 ∧ l.length + 120 * (decV x).size ≤ 2000000000, .buf 0, some [.buf 1 0 (l ++ bl (json (decV x)))])
  | _, _ => none
theorem smLay_ok {k : Nat} (h : ∀ v l, v.ok → v.nodes < k → v.size ≤ 300000 → l.length + 120 * v.size ≤ 2000000000 → OK 39 [.buf 0, ev v] [.buf 1 0 l] (.buf 0) (some [.buf 1 0 (l ++ bl (json v))])) : SOK 39 (smLay k) := by
  intro args sg pre x r he hp
  unfold smLay at he
  split at he <;> cases he
  exact (h _ _ hp.2.1 hp.2.2.1 hp.2.2.2.1 hp.2.2.2.2).args (WkL.cons (Wk.refl _) (WkL.cons hp.1 WkL.nil))
theorem okL_get {l : List Val} (h : okL l) {i : Nat} (hi : i < l.length) : (l.getD i default).ok := by
  induction l generalizing i with
  | nil => simp at hi
  | cons v r ih =>
    simp only [okL] at h
    cases i with
    | zero => exact h.1
    | succ i => exact ih h.2 (by simpa using hi)
theorem okM_get {l : List Att} (h : okM l) {i : Nat} (hi : i < l.length) : (l.getD i default).value.ok := by
  induction l generalizing i with
  | nil => simp at hi
  | cons v r ih =>
    simp only [okM] at h
    cases i with
    | zero => have := h.1; cases v; exact this
    | succ i => exact ih h.2 (by simpa using hi)
theorem ok_eq {v : Val} (h : v.ok) : (0 ≤ v.kind ∧ v.kind ≤ 255) ∧ (-9223372036854775808 ≤ v.num ∧ v.num ≤ 9223372036854775807) ∧ (0 ≤ v.bits ∧ v.bits ≤ 18446744073709551615) ∧ okL v.list ∧ okM v.map := by cases v; exact h
theorem sizeL_take {l : List Val} {i : Nat} (h : i < l.length) : sizeL (l.take i) + (l.getD i default).size ≤ sizeL l := by
  induction l generalizing i with
  | nil => simp at h
  | cons v r ih =>
    cases i with
    | zero => simp [sizeL]
    | succ i => have := ih (i := i) (by simpa using h); simp only [sizeL, List.getD_cons_succ, List.take_succ_cons]; omega
theorem sizeM_take {l : List Att} {i : Nat} (h : i < l.length) : sizeM (l.take i) + ((l.getD i default).key.length + (l.getD i default).value.size) ≤ sizeM l := by
  induction l generalizing i with
  | nil => simp at h
  | cons v r ih =>
    cases i with
    | zero => simp [sizeM, sizeA_eq]
    | succ i => have := ih (i := i) (by simpa using h); simp only [sizeM, List.getD_cons_succ, List.take_succ_cons]; omega
theorem okL_take {l : List Val} (h : okL l) (i : Nat) : okL (l.take i) := by
  induction l generalizing i with
  | nil => simpa using h
  | cons v r ih =>
    simp only [okL] at h
    cases i with
    | zero => simp [okL]
    | succ i => simp only [List.take_succ_cons, okL]; exact ⟨h.1, ih h.2 i⟩
theorem okM_take {l : List Att} (h : okM l) (i : Nat) : okM (l.take i) := by
  induction l generalizing i with
  | nil => simpa using h
  | cons v r ih =>
    simp only [okM] at h
    cases i with
    | zero => simp [okM]
    | succ i => simp only [List.take_succ_cons, okM]; exact ⟨h.1, ih h.2 i⟩
set_option maxHeartbeats 4000000 in
theorem f_lay {k : Nat} (ih : SOK 39 (smLay k)) (v : Val) (l : List V) (hok : v.ok) (hk : v.nodes < k + 1) (hs : v.size ≤ 300000) (hl : l.length + 120 * v.size ≤ 2000000000) :
    OK 39 [.buf 0, ev v] [.buf 1 0 l] (.buf 0) (some [.buf 1 0 (l ++ bl (json v))]) := by
  refine funOK_of_vc (C := cx [(29, sm_thing), (52, sm_jstringPut), (39, smLay k)]) (good ⟨k_thing, k_jstringPut, ih, trivial⟩) (fn := Tryz.f39) rfl rfl rfl rfl fun hw _ => ?_
  have hb := wf_ev hw.2.1
  have hz := size_eq v
  have hj := json_eq v
  have hlen := json_len v hok
  have ht : thingV v = thingV v := rfl
  rw (occs := .pos [2]) [thingV] at ht
  have e1 := encL_length v.list
  have e2 := encM_length v.map
  by_cases h0 : v.kind = 0
  · rw [if_pos h0] at ht hj
    rw [hj]
    repeat' ((conv => whnf); first | with_reducible (first | refine go1 (fun j q h => ?_) fun h => ?_ | refine go2 ⟨rfl, rfl⟩ (fun h => ?_) fun j h => ?_ | refine go2 ?_ (fun h => ?_) fun j h => ?_ | refine goQ ?_ (fun h => ?_) fun h => ?_) | apply go3 | apply go4 | apply go5 | ((first | apply go6 | apply go7 | apply go8 | apply go9 | apply goA) <;> intro h) | with_reducible (first | refine IdxK.mk _ rfl ?_ | refine idx_encL ?_ ?_ | refine idx_encM ?_ ?_ | refine goB ?_ fun hc => ?_ | refine goC ?_ fun hc => ?_ | refine goD ?_ fun hc => ?_ | refine goE ?_ fun hc => ?_ | apply goF | apply goG | refine goH ?_ fun b hb => ?_) | apply goI | apply goJ | apply goK | apply goL | apply goM | apply goN | apply goO | with_reducible refine goP ?_)
    all_goals try conv => whnf
    all_goals try (refine Side.mk ?_; try dsimp only)
    all_goals first | refine stay ?_ | ((refine And.intro (isV_ev _) ?_; simp only [decV_ev]; repeat' (refine And.intro ?_ ?_)); all_goals (first | assumption | omega); done) | ((refine And.intro (isM_enc _) ?_; simp only [decMv_enc]; repeat' (refine And.intro ?_ ?_)); all_goals (first | assumption | omega); done) | (exact isV_ev _) | (exact isM_enc _) | (exact isL_enc _) | trivial | omega | (simp (discharger := omega) only [wR]; omega) | (simp only [lnS]; omega) | (simp (discharger := omega) [-List.getD_eq_getElem?_getD, wR] <;> omega) | skip
    simp only [decV_ev, ht]
    repeat' ((conv => whnf); first | with_reducible (first | refine go1 (fun j q h => ?_) fun h => ?_ | refine go2 ⟨rfl, rfl⟩ (fun h => ?_) fun j h => ?_ | refine go2 ?_ (fun h => ?_) fun j h => ?_ | refine goQ ?_ (fun h => ?_) fun h => ?_) | apply go3 | apply go4 | apply go5 | ((first | apply go6 | apply go7 | apply go8 | apply go9 | apply goA) <;> intro h) | with_reducible (first | refine IdxK.mk _ rfl ?_ | refine idx_encL ?_ ?_ | refine idx_encM ?_ ?_ | refine goB ?_ fun hc => ?_ | refine goC ?_ fun hc => ?_ | refine goD ?_ fun hc => ?_ | refine goE ?_ fun hc => ?_ | apply goF | apply goG | refine goH ?_ fun b hb => ?_) | apply goI | apply goJ | apply goK | apply goL | apply goM | apply goN | apply goO | with_reducible refine goP ?_)
    all_goals try conv => whnf
    all_goals try (refine Side.mk ?_; try dsimp only)
    all_goals first | refine stay ?_ | ((refine And.intro (isV_ev _) ?_; simp only [decV_ev]; repeat' (refine And.intro ?_ ?_)); all_goals (first | assumption | omega); done) | ((refine And.intro (isM_enc _) ?_; simp only [decMv_enc]; repeat' (refine And.intro ?_ ?_)); all_goals (first | assumption | omega); done) | (exact isV_ev _) | (exact isM_enc _) | (exact isL_enc _) | trivial | omega | (simp (discharger := omega) only [wR]; omega) | (simp only [lnS]; omega) | (simp (discharger := omega) [-List.getD_eq_getElem?_getD, wR] <;> omega) | skip
    refine EndP.mk [] ?_ <;> (repeat' first | trivial | rfl | exact eqS _ _ | apply andI | apply eqA | apply eqB | apply eqC | apply eqD | apply eqE | apply eqF | apply eqG | apply eqH | apply eqI)
  rw [if_neg h0] at ht hj
  by_cases h1 : v.kind = 1
  · rw [if_pos h1] at ht hj
    rw [hj] at hlen
    rw [hj]
    have h21 := hexText_length v.text
    repeat' ((conv => whnf); first | with_reducible (first | refine go1 (fun j q h => ?_) fun h => ?_ | refine go2 ⟨rfl, rfl⟩ (fun h => ?_) fun j h => ?_ | refine go2 ?_ (fun h => ?_) fun j h => ?_ | refine goQ ?_ (fun h => ?_) fun h => ?_) | apply go3 | apply go4 | apply go5 | ((first | apply go6 | apply go7 | apply go8 | apply go9 | apply goA) <;> intro h) | with_reducible (first | refine IdxK.mk _ rfl ?_ | refine idx_encL ?_ ?_ | refine idx_encM ?_ ?_ | refine goB ?_ fun hc => ?_ | refine goC ?_ fun hc => ?_ | refine goD ?_ fun hc => ?_ | refine goE ?_ fun hc => ?_ | apply goF | apply goG | refine goH ?_ fun b hb => ?_) | apply goI | apply goJ | apply goK | apply goL | apply goM | apply goN | apply goO | with_reducible refine goP ?_)
    all_goals try conv => whnf
    all_goals try (refine Side.mk ?_; try dsimp only)
    all_goals first | refine stay ?_ | ((refine And.intro (isV_ev _) ?_; simp only [decV_ev]; repeat' (refine And.intro ?_ ?_)); all_goals (first | assumption | omega); done) | ((refine And.intro (isM_enc _) ?_; simp only [decMv_enc]; repeat' (refine And.intro ?_ ?_)); all_goals (first | assumption | omega); done) | (exact isV_ev _) | (exact isM_enc _) | (exact isL_enc _) | trivial | omega | (simp (discharger := omega) only [wR]; omega) | (simp only [lnS]; omega) | (simp (discharger := omega) [-List.getD_eq_getElem?_getD, wR] <;> omega) | skip
    simp only [decV_ev, ht]
    repeat' ((conv => whnf); first | with_reducible (first | refine go1 (fun j q h => ?_) fun h => ?_ | refine go2 ⟨rfl, rfl⟩ (fun h => ?_) fun j h => ?_ | refine go2 ?_ (fun h => ?_) fun j h => ?_ | refine goQ ?_ (fun h => ?_) fun h => ?_) | apply go3 | apply go4 | apply go5 | ((first | apply go6 | apply go7 | apply go8 | apply go9 | apply goA) <;> intro h) | with_reducible (first | refine IdxK.mk _ rfl ?_ | refine idx_encL ?_ ?_ | refine idx_encM ?_ ?_ | refine goB ?_ fun hc => ?_ | refine goC ?_ fun hc => ?_ | refine goD ?_ fun hc => ?_ | refine goE ?_ fun hc => ?_ | apply goF | apply goG | refine goH ?_ fun b hb => ?_) | apply goI | apply goJ | apply goK | apply goL | apply goM | apply goN | apply goO | with_reducible refine goP ?_)
    all_goals try conv => whnf
    all_goals try (refine Side.mk ?_; try dsimp only)
    all_goals first | refine stay ?_ | ((refine And.intro (isV_ev _) ?_; simp only [decV_ev]; repeat' (refine And.intro ?_ ?_)); all_goals (first | assumption | omega); done) | ((refine And.intro (isM_enc _) ?_; simp only [decMv_enc]; repeat' (refine And.intro ?_ ?_)); all_goals (first | assumption | omega); done) | (exact isV_ev _) | (exact isM_enc _) | (exact isL_enc _) | trivial | omega | (simp (discharger := omega) only [wR]; omega) | (simp only [lnS]; omega) | (simp (discharger := omega) [-List.getD_eq_getElem?_getD, wR] <;> omega) | skip
    refine EndP.mk [] ?_ <;> (repeat' first | trivial | rfl | exact eqS _ _ | apply andI | apply eqA | apply eqB | apply eqC | apply eqD | apply eqE | apply eqF | apply eqG | apply eqH | apply eqI)
  rw [if_neg h1] at ht hj
  by_cases h2 : v.kind = 2
  · rw [if_pos h2] at ht hj
    rw [hj] at hlen
    rw [hj]
    have h21 := hexText_length v.text
    repeat' ((conv => whnf); first | with_reducible (first | refine go1 (fun j q h => ?_) fun h => ?_ | refine go2 ⟨rfl, rfl⟩ (fun h => ?_) fun j h => ?_ | refine go2 ?_ (fun h => ?_) fun j h => ?_ | refine goQ ?_ (fun h => ?_) fun h => ?_) | apply go3 | apply go4 | apply go5 | ((first | apply go6 | apply go7 | apply go8 | apply go9 | apply goA) <;> intro h) | with_reducible (first | refine IdxK.mk _ rfl ?_ | refine idx_encL ?_ ?_ | refine idx_encM ?_ ?_ | refine goB ?_ fun hc => ?_ | refine goC ?_ fun hc => ?_ | refine goD ?_ fun hc => ?_ | refine goE ?_ fun hc => ?_ | apply goF | apply goG | refine goH ?_ fun b hb => ?_) | apply goI | apply goJ | apply goK | apply goL | apply goM | apply goN | apply goO | with_reducible refine goP ?_)
    all_goals try conv => whnf
    all_goals try (refine Side.mk ?_; try dsimp only)
    all_goals first | refine stay ?_ | ((refine And.intro (isV_ev _) ?_; simp only [decV_ev]; repeat' (refine And.intro ?_ ?_)); all_goals (first | assumption | omega); done) | ((refine And.intro (isM_enc _) ?_; simp only [decMv_enc]; repeat' (refine And.intro ?_ ?_)); all_goals (first | assumption | omega); done) | (exact isV_ev _) | (exact isM_enc _) | (exact isL_enc _) | trivial | omega | (simp (discharger := omega) only [wR]; omega) | (simp only [lnS]; omega) | (simp (discharger := omega) [-List.getD_eq_getElem?_getD, wR] <;> omega) | skip
    simp only [decV_ev, ht]
    repeat' ((conv => whnf); first | with_reducible (first | refine go1 (fun j q h => ?_) fun h => ?_ | refine go2 ⟨rfl, rfl⟩ (fun h => ?_) fun j h => ?_ | refine go2 ?_ (fun h => ?_) fun j h => ?_ | refine goQ ?_ (fun h => ?_) fun h => ?_) | apply go3 | apply go4 | apply go5 | ((first | apply go6 | apply go7 | apply go8 | apply go9 | apply goA) <;> intro h) | with_reducible (first | refine IdxK.mk _ rfl ?_ | refine idx_encL ?_ ?_ | refine idx_encM ?_ ?_ | refine goB ?_ fun hc => ?_ | refine goC ?_ fun hc => ?_ | refine goD ?_ fun hc => ?_ | refine goE ?_ fun hc => ?_ | apply goF | apply goG | refine goH ?_ fun b hb => ?_) | apply goI | apply goJ | apply goK | apply goL | apply goM | apply goN | apply goO | with_reducible refine goP ?_)
    all_goals try conv => whnf
    all_goals try (refine Side.mk ?_; try dsimp only)
    all_goals first | refine stay ?_ | ((refine And.intro (isV_ev _) ?_; simp only [decV_ev]; repeat' (refine And.intro ?_ ?_)); all_goals (first | assumption | omega); done) | ((refine And.intro (isM_enc _) ?_; simp only [decMv_enc]; repeat' (refine And.intro ?_ ?_)); all_goals (first | assumption | omega); done) | (exact isV_ev _) | (exact isM_enc _) | (exact isL_enc _) | trivial | omega | (simp (discharger := omega) only [wR]; omega) | (simp only [lnS]; omega) | (simp (discharger := omega) [-List.getD_eq_getElem?_getD, wR] <;> omega) | skip
    refine EndP.mk [] ?_ <;> (repeat' first | trivial | rfl | exact eqS _ _ | apply andI | apply eqA | apply eqB | apply eqC | apply eqD | apply eqE | apply eqF | apply eqG | apply eqH | apply eqI)
  rw [if_neg h2] at ht hj
  by_cases h3 : v.kind = 3
  · rw [if_pos h3] at ht hj
    rw [hj] at hlen
    rw [hj]
    have h21 := hexText_length v.text
    repeat' ((conv => whnf); first | with_reducible (first | refine go1 (fun j q h => ?_) fun h => ?_ | refine go2 ⟨rfl, rfl⟩ (fun h => ?_) fun j h => ?_ | refine go2 ?_ (fun h => ?_) fun j h => ?_ | refine goQ ?_ (fun h => ?_) fun h => ?_) | apply go3 | apply go4 | apply go5 | ((first | apply go6 | apply go7 | apply go8 | apply go9 | apply goA) <;> intro h) | with_reducible (first | refine IdxK.mk _ rfl ?_ | refine idx_encL ?_ ?_ | refine idx_encM ?_ ?_ | refine goB ?_ fun hc => ?_ | refine goC ?_ fun hc => ?_ | refine goD ?_ fun hc => ?_ | refine goE ?_ fun hc => ?_ | apply goF | apply goG | refine goH ?_ fun b hb => ?_) | apply goI | apply goJ | apply goK | apply goL | apply goM | apply goN | apply goO | with_reducible refine goP ?_)
    all_goals try conv => whnf
    all_goals try (refine Side.mk ?_; try dsimp only)
    all_goals first | refine stay ?_ | ((refine And.intro (isV_ev _) ?_; simp only [decV_ev]; repeat' (refine And.intro ?_ ?_)); all_goals (first | assumption | omega); done) | ((refine And.intro (isM_enc _) ?_; simp only [decMv_enc]; repeat' (refine And.intro ?_ ?_)); all_goals (first | assumption | omega); done) | (exact isV_ev _) | (exact isM_enc _) | (exact isL_enc _) | trivial | omega | (simp (discharger := omega) only [wR]; omega) | (simp only [lnS]; omega) | (simp (discharger := omega) [-List.getD_eq_getElem?_getD, wR] <;> omega) | skip
    simp only [decV_ev, ht]
    repeat' ((conv => whnf); first | with_reducible (first | refine go1 (fun j q h => ?_) fun h => ?_ | refine go2 ⟨rfl, rfl⟩ (fun h => ?_) fun j h => ?_ | refine go2 ?_ (fun h => ?_) fun j h => ?_ | refine goQ ?_ (fun h => ?_) fun h => ?_) | apply go3 | apply go4 | apply go5 | ((first | apply go6 | apply go7 | apply go8 | apply go9 | apply goA) <;> intro h) | with_reducible (first | refine IdxK.mk _ rfl ?_ | refine idx_encL ?_ ?_ | refine idx_encM ?_ ?_ | refine goB ?_ fun hc => ?_ | refine goC ?_ fun hc => ?_ | refine goD ?_ fun hc => ?_ | refine goE ?_ fun hc => ?_ | apply goF | apply goG | refine goH ?_ fun b hb => ?_) | apply goI | apply goJ | apply goK | apply goL | apply goM | apply goN | apply goO | with_reducible refine goP ?_)
    all_goals try conv => whnf
    all_goals try (refine Side.mk ?_; try dsimp only)
    all_goals first | refine stay ?_ | ((refine And.intro (isV_ev _) ?_; simp only [decV_ev]; repeat' (refine And.intro ?_ ?_)); all_goals (first | assumption | omega); done) | ((refine And.intro (isM_enc _) ?_; simp only [decMv_enc]; repeat' (refine And.intro ?_ ?_)); all_goals (first | assumption | omega); done) | (exact isV_ev _) | (exact isM_enc _) | (exact isL_enc _) | trivial | omega | (simp (discharger := omega) only [wR]; omega) | (simp only [lnS]; omega) | (simp (discharger := omega) [-List.getD_eq_getElem?_getD, wR] <;> omega) | skip
    refine EndP.mk [] ?_ <;> (repeat' first | trivial | rfl | exact eqS _ _ | apply andI | apply eqA | apply eqB | apply eqC | apply eqD | apply eqE | apply eqF | apply eqG | apply eqH | apply eqI)
  rw [if_neg h3] at ht hj
  by_cases h4 : v.kind = 4
  · rw [if_pos h4] at ht hj
    rw [hj] at hlen
    rw [hj]
    have h21 := dbl_len v.bits
    repeat' ((conv => whnf); first | with_reducible (first | refine go1 (fun j q h => ?_) fun h => ?_ | refine go2 ⟨rfl, rfl⟩ (fun h => ?_) fun j h => ?_ | refine go2 ?_ (fun h => ?_) fun j h => ?_ | refine goQ ?_ (fun h => ?_) fun h => ?_) | apply go3 | apply go4 | apply go5 | ((first | apply go6 | apply go7 | apply go8 | apply go9 | apply goA) <;> intro h) | with_reducible (first | refine IdxK.mk _ rfl ?_ | refine idx_encL ?_ ?_ | refine idx_encM ?_ ?_ | refine goB ?_ fun hc => ?_ | refine goC ?_ fun hc => ?_ | refine goD ?_ fun hc => ?_ | refine goE ?_ fun hc => ?_ | apply goF | apply goG | refine goH ?_ fun b hb => ?_) | apply goI | apply goJ | apply goK | apply goL | apply goM | apply goN | apply goO | with_reducible refine goP ?_)
    all_goals try conv => whnf
    all_goals try (refine Side.mk ?_; try dsimp only)
    all_goals first | refine stay ?_ | ((refine And.intro (isV_ev _) ?_; simp only [decV_ev]; repeat' (refine And.intro ?_ ?_)); all_goals (first | assumption | omega); done) | ((refine And.intro (isM_enc _) ?_; simp only [decMv_enc]; repeat' (refine And.intro ?_ ?_)); all_goals (first | assumption | omega); done) | (exact isV_ev _) | (exact isM_enc _) | (exact isL_enc _) | trivial | omega | (simp (discharger := omega) only [wR]; omega) | (simp only [lnS]; omega) | (simp (discharger := omega) [-List.getD_eq_getElem?_getD, wR] <;> omega) | skip
    simp only [decV_ev, ht]
    repeat' ((conv => whnf); first | with_reducible (first | refine go1 (fun j q h => ?_) fun h => ?_ | refine go2 ⟨rfl, rfl⟩ (fun h => ?_) fun j h => ?_ | refine go2 ?_ (fun h => ?_) fun j h => ?_ | refine goQ ?_ (fun h => ?_) fun h => ?_) | apply go3 | apply go4 | apply go5 | ((first | apply go6 | apply go7 | apply go8 | apply go9 | apply goA) <;> intro h) | with_reducible (first | refine IdxK.mk _ rfl ?_ | refine idx_encL ?_ ?_ | refine idx_encM ?_ ?_ | refine goB ?_ fun hc => ?_ | refine goC ?_ fun hc => ?_ | refine goD ?_ fun hc => ?_ | refine goE ?_ fun hc => ?_ | apply goF | apply goG | refine goH ?_ fun b hb => ?_) | apply goI | apply goJ | apply goK | apply goL | apply goM | apply goN | apply goO | with_reducible refine goP ?_)
    all_goals try conv => whnf
    all_goals try (refine Side.mk ?_; try dsimp only)
    all_goals first | refine stay ?_ | ((refine And.intro (isV_ev _) ?_; simp only [decV_ev]; repeat' (refine And.intro ?_ ?_)); all_goals (first | assumption | omega); done) | ((refine And.intro (isM_enc _) ?_; simp only [decMv_enc]; repeat' (refine And.intro ?_ ?_)); all_goals (first | assumption | omega); done) | (exact isV_ev _) | (exact isM_enc _) | (exact isL_enc _) | trivial | omega | (simp (discharger := omega) only [wR]; omega) | (simp only [lnS]; omega) | (simp (discharger := omega) [-List.getD_eq_getElem?_getD, wR] <;> omega) | skip
    refine EndP.mk [] ?_ <;> (repeat' first | trivial | rfl | exact eqS _ _ | apply andI | apply eqA | apply eqB | apply eqC | apply eqD | apply eqE | apply eqF | apply eqG | apply eqH | apply eqI)
  rw [if_neg h4] at ht hj
  by_cases h5 : v.kind = 5
  · rw [if_pos h5] at ht hj
    rw [hj] at hlen
    rw [hj]
    have h21 := hexText_length v.text
    repeat' ((conv => whnf); first | with_reducible (first | refine go1 (fun j q h => ?_) fun h => ?_ | refine go2 ⟨rfl, rfl⟩ (fun h => ?_) fun j h => ?_ | refine go2 ?_ (fun h => ?_) fun j h => ?_ | refine goQ ?_ (fun h => ?_) fun h => ?_) | apply go3 | apply go4 | apply go5 | ((first | apply go6 | apply go7 | apply go8 | apply go9 | apply goA) <;> intro h) | with_reducible (first | refine IdxK.mk _ rfl ?_ | refine idx_encL ?_ ?_ | refine idx_encM ?_ ?_ | refine goB ?_ fun hc => ?_ | refine goC ?_ fun hc => ?_ | refine goD ?_ fun hc => ?_ | refine goE ?_ fun hc => ?_ | apply goF | apply goG | refine goH ?_ fun b hb => ?_) | apply goI | apply goJ | apply goK | apply goL | apply goM | apply goN | apply goO | with_reducible refine goP ?_)
    all_goals try conv => whnf
    all_goals try (refine Side.mk ?_; try dsimp only)
    all_goals first | refine stay ?_ | ((refine And.intro (isV_ev _) ?_; simp only [decV_ev]; repeat' (refine And.intro ?_ ?_)); all_goals (first | assumption | omega); done) | ((refine And.intro (isM_enc _) ?_; simp only [decMv_enc]; repeat' (refine And.intro ?_ ?_)); all_goals (first | assumption | omega); done) | (exact isV_ev _) | (exact isM_enc _) | (exact isL_enc _) | trivial | omega | (simp (discharger := omega) only [wR]; omega) | (simp only [lnS]; omega) | (simp (discharger := omega) [-List.getD_eq_getElem?_getD, wR] <;> omega) | skip
    simp only [decV_ev, ht]
    repeat' ((conv => whnf); first | with_reducible (first | refine go1 (fun j q h => ?_) fun h => ?_ | refine go2 ⟨rfl, rfl⟩ (fun h => ?_) fun j h => ?_ | refine go2 ?_ (fun h => ?_) fun j h => ?_ | refine goQ ?_ (fun h => ?_) fun h => ?_) | apply go3 | apply go4 | apply go5 | ((first | apply go6 | apply go7 | apply go8 | apply go9 | apply goA) <;> intro h) | with_reducible (first | refine IdxK.mk _ rfl ?_ | refine idx_encL ?_ ?_ | refine idx_encM ?_ ?_ | refine goB ?_ fun hc => ?_ | refine goC ?_ fun hc => ?_ | refine goD ?_ fun hc => ?_ | refine goE ?_ fun hc => ?_ | apply goF | apply goG | refine goH ?_ fun b hb => ?_) | apply goI | apply goJ | apply goK | apply goL | apply goM | apply goN | apply goO | with_reducible refine goP ?_)
    all_goals try conv => whnf
    all_goals try (refine Side.mk ?_; try dsimp only)
    all_goals first | refine stay ?_ | ((refine And.intro (isV_ev _) ?_; simp only [decV_ev]; repeat' (refine And.intro ?_ ?_)); all_goals (first | assumption | omega); done) | ((refine And.intro (isM_enc _) ?_; simp only [decMv_enc]; repeat' (refine And.intro ?_ ?_)); all_goals (first | assumption | omega); done) | (exact isV_ev _) | (exact isM_enc _) | (exact isL_enc _) | trivial | omega | (simp (discharger := omega) only [wR]; omega) | (simp only [lnS]; omega) | (simp (discharger := omega) [-List.getD_eq_getElem?_getD, wR] <;> omega) | skip
    refine EndP.mk [] ?_ <;> (repeat' first | trivial | rfl | exact eqS _ _ | apply andI | apply eqA | apply eqB | apply eqC | apply eqD | apply eqE | apply eqF | apply eqG | apply eqH | apply eqI)
  rw [if_neg h5] at ht hj
  by_cases h6 : v.kind = 6
  · rw [if_pos h6] at ht hj
    rw [hj] at hlen
    simp only [List.length_cons, List.length_append, List.length_nil] at hlen
    rw [hj]
    repeat' ((conv => whnf); first | with_reducible (first | refine go1 (fun j q h => ?_) fun h => ?_ | refine go2 ⟨rfl, rfl⟩ (fun h => ?_) fun j h => ?_ | refine go2 ?_ (fun h => ?_) fun j h => ?_ | refine goQ ?_ (fun h => ?_) fun h => ?_) | apply go3 | apply go4 | apply go5 | ((first | apply go6 | apply go7 | apply go8 | apply go9 | apply goA) <;> intro h) | with_reducible (first | refine IdxK.mk _ rfl ?_ | refine idx_encL ?_ ?_ | refine idx_encM ?_ ?_ | refine goB ?_ fun hc => ?_ | refine goC ?_ fun hc => ?_ | refine goD ?_ fun hc => ?_ | refine goE ?_ fun hc => ?_ | apply goF | apply goG | refine goH ?_ fun b hb => ?_) | apply goI | apply goJ | apply goK | apply goL | apply goM | apply goN | apply goO | with_reducible refine goP ?_)
    all_goals try conv => whnf
    all_goals try (refine Side.mk ?_; try dsimp only)
    all_goals first | refine stay ?_ | ((refine And.intro (isV_ev _) ?_; simp only [decV_ev]; repeat' (refine And.intro ?_ ?_)); all_goals (first | assumption | omega); done) | ((refine And.intro (isM_enc _) ?_; simp only [decMv_enc]; repeat' (refine And.intro ?_ ?_)); all_goals (first | assumption | omega); done) | (exact isV_ev _) | (exact isM_enc _) | (exact isL_enc _) | trivial | omega | (simp (discharger := omega) only [wR]; omega) | (simp only [lnS]; omega) | (simp (discharger := omega) [-List.getD_eq_getElem?_getD, wR] <;> omega) | skip
    simp only [decV_ev, ht]
    repeat' ((conv => whnf); first | with_reducible (first | refine go1 (fun j q h => ?_) fun h => ?_ | refine go2 ⟨rfl, rfl⟩ (fun h => ?_) fun j h => ?_ | refine go2 ?_ (fun h => ?_) fun j h => ?_ | refine goQ ?_ (fun h => ?_) fun h => ?_) | apply go3 | apply go4 | apply go5 | ((first | apply go6 | apply go7 | apply go8 | apply go9 | apply goA) <;> intro h) | with_reducible (first | refine IdxK.mk _ rfl ?_ | refine idx_encL ?_ ?_ | refine idx_encM ?_ ?_ | refine goB ?_ fun hc => ?_ | refine goC ?_ fun hc => ?_ | refine goD ?_ fun hc => ?_ | refine goE ?_ fun hc => ?_ | apply goF | apply goG | refine goH ?_ fun b hb => ?_) | apply goI | apply goJ | apply goK | apply goL | apply goM | apply goN | apply goO | with_reducible refine goP ?_)
    all_goals try conv => whnf
    all_goals try (refine Side.mk ?_; try dsimp only)
    all_goals first | refine stay ?_ | ((refine And.intro (isV_ev _) ?_; simp only [decV_ev]; repeat' (refine And.intro ?_ ?_)); all_goals (first | assumption | omega); done) | ((refine And.intro (isM_enc _) ?_; simp only [decMv_enc]; repeat' (refine And.intro ?_ ?_)); all_goals (first | assumption | omega); done) | (exact isV_ev _) | (exact isM_enc _) | (exact isL_enc _) | trivial | omega | (simp (discharger := omega) only [wR]; omega) | (simp only [lnS]; omega) | (simp (discharger := omega) [-List.getD_eq_getElem?_getD, wR] <;> omega) | skip
    have hok' := (ok_eq hok).2.2.2.1
    refine LoopP.mk Nat (fun i => i ≤ v.list.length) (fun i => ⟨84, [(0, .buf 0), (33, .list false 6 (encL v.list)), (34, .int .i64 (encL v.list).length), (35, .int .i64 i)], [.buf 1 0 (l ++ bl (91 :: jsonL (v.list.take i))), .cells (cv v)], [0]⟩) (fun i => v.list.length - i) [] 0 (Nat.zero_le _) ?_ (fun i hi _ _ => ?_)
    · refine Go.VG.Sub.mk rfl ?_ ?_ ?_ ?_ <;> (repeat' first | trivial | rfl | exact eqS _ _ | apply andI | apply eqA | apply eqB | apply eqC | apply eqD | apply eqE | apply eqF | apply eqG | apply eqH | apply eqI)
    have hx : i < v.list.length → (jsonL (v.list.take i)).length + 120 * (v.list.getD i default).size ≤ 120 * sizeL v.list ∧ (v.list.getD i default).ok ∧ (v.list.getD i default).nodes < k ∧ (v.list.getD i default).size ≤ 300000 := fun h => by
      have q1 := sizeL_take h
      have q2 := jsonL_len _ (okL_take hok' i)
      have q3 := nodes_eq v
      have q4 := nodesL_get h
      exact ⟨by omega, okL_get hok' h, by omega, by omega⟩
    repeat' ((conv => whnf); first | with_reducible (first | refine go1 (fun j q h => ?_) fun h => ?_ | refine go2 ⟨rfl, rfl⟩ (fun h => ?_) fun j h => ?_ | refine go2 ?_ (fun h => ?_) fun j h => ?_ | refine goQ ?_ (fun h => ?_) fun h => ?_) | apply go3 | apply go4 | apply go5 | ((first | apply go6 | apply go7 | apply go8 | apply go9 | apply goA) <;> intro h) | with_reducible (first | refine IdxK.mk _ rfl ?_ | refine idx_encL ?_ ?_ | refine idx_encM ?_ ?_ | refine goB ?_ fun hc => ?_ | refine goC ?_ fun hc => ?_ | refine goD ?_ fun hc => ?_ | refine goE ?_ fun hc => ?_ | apply goF | apply goG | refine goH ?_ fun b hb => ?_) | apply goI | apply goJ | apply goK | apply goL | apply goM | apply goN | apply goO | with_reducible refine goP ?_)
    all_goals try conv => whnf
    all_goals try (refine Side.mk ?_; try dsimp only)
    all_goals first | refine stay ?_ | ((refine And.intro (isV_ev _) ?_; simp only [decV_ev]; repeat' (refine And.intro ?_ ?_)); all_goals (first | assumption | omega); done) | ((refine And.intro (isM_enc _) ?_; simp only [decMv_enc]; repeat' (refine And.intro ?_ ?_)); all_goals (first | assumption | omega); done) | (exact isV_ev _) | (exact isM_enc _) | (exact isL_enc _) | trivial | omega | (simp (discharger := omega) only [wR]; omega) | (simp only [lnS]; omega) | (simp (discharger := omega) [-List.getD_eq_getElem?_getD, wR] <;> omega) | skip
    all_goals first
      | (have hlt : i < v.list.length := by omega
         obtain ⟨x1, x2, x3, x4⟩ := hx hlt
         refine ⟨isV_ev _, ?_⟩
         rw [decV_ev]
         refine ⟨x2, x3, x4, ?_⟩
         simp only [List.length_append, bl_length, List.length_cons, List.length_nil]; omega)
      | (have hlt : i < v.list.length := by omega
         obtain ⟨x1, x2, x3, x4⟩ := hx hlt
         simp only [List.length_append, bl_length, List.length_cons, List.length_nil]; omega)
      | (refine ⟨[], i + 1, by omega, ?_, by omega⟩
         refine Go.VG.Sub.mk rfl ?_ ?_ ?_ ?_ <;> (repeat' first | trivial | rfl | exact eqS _ _ | apply andI | apply eqA | apply eqB | apply eqC | apply eqD | apply eqE | apply eqF | apply eqG | apply eqH | apply eqI)
         · (first | omega | (simp (discharger := omega) only [wR]; omega) | (simp only [lnS]; omega) | (simp (discharger := omega) [-List.getD_eq_getElem?_getD, wR] <;> omega))
         · rw [decV_ev, jsonL_next (by omega)]
           first
           | (rw [if_pos (by omega)]; simp [bl, bl_append, bv]; done)
           | (rw [if_neg (by omega)]; simp [bl, bl_append, bv]; done)
        )
      | skip
    · rw [List.take_of_length_le (by omega)]
      simp only [List.length_append, bl_length, List.length_cons, List.length_nil]; omega
    · refine EndP.mk [] ?_ <;> (repeat' first | trivial | rfl | exact eqS _ _ | apply andI | apply eqA | apply eqB | apply eqC | apply eqD | apply eqE | apply eqF | apply eqG | apply eqH | apply eqI)
      rw [List.take_of_length_le (by omega)]
      simp [bl, bl_append, bv]
  rw [if_neg h6] at ht hj
  by_cases h7 : v.kind = 7
  · rw [if_pos h7] at ht hj
    rw [hj] at hlen
    simp only [List.length_cons, List.length_append, List.length_nil] at hlen
    rw [hj]
    repeat' ((conv => whnf); first | with_reducible (first | refine go1 (fun j q h => ?_) fun h => ?_ | refine go2 ⟨rfl, rfl⟩ (fun h => ?_) fun j h => ?_ | refine go2 ?_ (fun h => ?_) fun j h => ?_ | refine goQ ?_ (fun h => ?_) fun h => ?_) | apply go3 | apply go4 | apply go5 | ((first | apply go6 | apply go7 | apply go8 | apply go9 | apply goA) <;> intro h) | with_reducible (first | refine IdxK.mk _ rfl ?_ | refine idx_encL ?_ ?_ | refine idx_encM ?_ ?_ | refine goB ?_ fun hc => ?_ | refine goC ?_ fun hc => ?_ | refine goD ?_ fun hc => ?_ | refine goE ?_ fun hc => ?_ | apply goF | apply goG | refine goH ?_ fun b hb => ?_) | apply goI | apply goJ | apply goK | apply goL | apply goM | apply goN | apply goO | with_reducible refine goP ?_)
    all_goals try conv => whnf
    all_goals try (refine Side.mk ?_; try dsimp only)
    all_goals first | refine stay ?_ | ((refine And.intro (isV_ev _) ?_; simp only [decV_ev]; repeat' (refine And.intro ?_ ?_)); all_goals (first | assumption | omega); done) | ((refine And.intro (isM_enc _) ?_; simp only [decMv_enc]; repeat' (refine And.intro ?_ ?_)); all_goals (first | assumption | omega); done) | (exact isV_ev _) | (exact isM_enc _) | (exact isL_enc _) | trivial | omega | (simp (discharger := omega) only [wR]; omega) | (simp only [lnS]; omega) | (simp (discharger := omega) [-List.getD_eq_getElem?_getD, wR] <;> omega) | skip
    simp only [decV_ev, ht]
    repeat' ((conv => whnf); first | with_reducible (first | refine go1 (fun j q h => ?_) fun h => ?_ | refine go2 ⟨rfl, rfl⟩ (fun h => ?_) fun j h => ?_ | refine go2 ?_ (fun h => ?_) fun j h => ?_ | refine goQ ?_ (fun h => ?_) fun h => ?_) | apply go3 | apply go4 | apply go5 | ((first | apply go6 | apply go7 | apply go8 | apply go9 | apply goA) <;> intro h) | with_reducible (first | refine IdxK.mk _ rfl ?_ | refine idx_encL ?_ ?_ | refine idx_encM ?_ ?_ | refine goB ?_ fun hc => ?_ | refine goC ?_ fun hc => ?_ | refine goD ?_ fun hc => ?_ | refine goE ?_ fun hc => ?_ | apply goF | apply goG | refine goH ?_ fun b hb => ?_) | apply goI | apply goJ | apply goK | apply goL | apply goM | apply goN | apply goO | with_reducible refine goP ?_)
    all_goals try conv => whnf
    all_goals try (refine Side.mk ?_; try dsimp only)
    all_goals first | refine stay ?_ | ((refine And.intro (isV_ev _) ?_; simp only [decV_ev]; repeat' (refine And.intro ?_ ?_)); all_goals (first | assumption | omega); done) | ((refine And.intro (isM_enc _) ?_; simp only [decMv_enc]; repeat' (refine And.intro ?_ ?_)); all_goals (first | assumption | omega); done) | (exact isV_ev _) | (exact isM_enc _) | (exact isL_enc _) | trivial | omega | (simp (discharger := omega) only [wR]; omega) | (simp only [lnS]; omega) | (simp (discharger := omega) [-List.getD_eq_getElem?_getD, wR] <;> omega) | skip
    have hok' := (ok_eq hok).2.2.2.2
    refine LoopP.mk Nat (fun i => i ≤ v.map.length) (fun i => ⟨84, [(0, .buf 0), (58, .list false 7 (encM v.map)), (59, .int .i64 (encM v.map).length), (60, .int .i64 i)], [.buf 1 0 (l ++ bl (123 :: jsonM (v.map.take i))), .cells (cv v)], [0]⟩) (fun i => v.map.length - i) [] 0 (Nat.zero_le _) ?_ (fun i hi _ _ => ?_)
    · refine Go.VG.Sub.mk rfl ?_ ?_ ?_ ?_ <;> (repeat' first | trivial | rfl | exact eqS _ _ | apply andI | apply eqA | apply eqB | apply eqC | apply eqD | apply eqE | apply eqF | apply eqG | apply eqH | apply eqI)
    have hx : i < v.map.length → ((jsonM (v.map.take i)).length + 120 * ((v.map.getD i default).key.length + (v.map.getD i default).value.size) ≤ 120 * sizeM v.map ∧ (quote (v.map.getD i default).key).length ≤ 6 * (v.map.getD i default).key.length + 2) ∧ (v.map.getD i default).value.ok ∧
        (v.map.getD i default).value.nodes < k ∧ (v.map.getD i default).value.size ≤ 300000 ∧ (v.map.getD i default).key.length ≤ 300000 := fun h => by
      have q1 := sizeM_take h
      have q2 := jsonM_len _ (okM_take hok' i)
      have q3 := nodes_eq v
      have q4 := nodesM_get h
      have q5 := quote_len (v.map.getD i default).key
      exact ⟨⟨by omega, by omega⟩, okM_get hok' h, by omega, by omega, by omega⟩
    repeat' ((conv => whnf); first | with_reducible (first | refine go1 (fun j q h => ?_) fun h => ?_ | refine go2 ⟨rfl, rfl⟩ (fun h => ?_) fun j h => ?_ | refine go2 ?_ (fun h => ?_) fun j h => ?_ | refine goQ ?_ (fun h => ?_) fun h => ?_) | apply go3 | apply go4 | apply go5 | ((first | apply go6 | apply go7 | apply go8 | apply go9 | apply goA) <;> intro h) | with_reducible (first | refine IdxK.mk _ rfl ?_ | refine idx_encL ?_ ?_ | refine idx_encM ?_ ?_ | refine goB ?_ fun hc => ?_ | refine goC ?_ fun hc => ?_ | refine goD ?_ fun hc => ?_ | refine goE ?_ fun hc => ?_ | apply goF | apply goG | refine goH ?_ fun b hb => ?_) | apply goI | apply goJ | apply goK | apply goL | apply goM | apply goN | apply goO | with_reducible refine goP ?_)
    all_goals try conv => whnf
    all_goals try (refine Side.mk ?_; try dsimp only)
    all_goals first | refine stay ?_ | ((refine And.intro (isV_ev _) ?_; simp only [decV_ev]; repeat' (refine And.intro ?_ ?_)); all_goals (first | assumption | omega); done) | ((refine And.intro (isM_enc _) ?_; simp only [decMv_enc]; repeat' (refine And.intro ?_ ?_)); all_goals (first | assumption | omega); done) | (exact isV_ev _) | (exact isM_enc _) | (exact isL_enc _) | trivial | omega | (simp (discharger := omega) only [wR]; omega) | (simp only [lnS]; omega) | (simp (discharger := omega) [-List.getD_eq_getElem?_getD, wR] <;> omega) | skip
    all_goals first
      | (have hlt : i < v.map.length := by omega
         obtain ⟨⟨x1, x5⟩, x2, x3, x4, x6⟩ := hx hlt
         refine ⟨isV_ev _, ?_⟩
         rw [decV_ev]
         refine ⟨x2, x3, x4, ?_⟩
         simp only [List.length_append, bl_length, List.length_cons, List.length_nil]; omega)
      | (have hlt : i < v.map.length := by omega
         obtain ⟨⟨x1, x5⟩, x2, x3, x4, x6⟩ := hx hlt
         simp only [List.length_append, bl_length, List.length_cons, List.length_nil]; omega)
      | (refine ⟨[], i + 1, by omega, ?_, by omega⟩
         refine Go.VG.Sub.mk rfl ?_ ?_ ?_ ?_ <;> (repeat' first | trivial | rfl | exact eqS _ _ | apply andI | apply eqA | apply eqB | apply eqC | apply eqD | apply eqE | apply eqF | apply eqG | apply eqH | apply eqI)
         · (first | omega | (simp (discharger := omega) only [wR]; omega) | (simp only [lnS]; omega) | (simp (discharger := omega) [-List.getD_eq_getElem?_getD, wR] <;> omega))
         · rw [decV_ev, jsonM_next (by omega), jsonA_eq]
           first
           | (rw [if_pos (by omega)]; simp [bl, bl_append, bv]; done)
           | (rw [if_neg (by omega)]; simp [bl, bl_append, bv]; done)
        )
      | skip
    · rw [List.take_of_length_le (by omega)]
      simp only [List.length_append, bl_length, List.length_cons, List.length_nil]; omega
    · refine EndP.mk [] ?_ <;> (repeat' first | trivial | rfl | exact eqS _ _ | apply andI | apply eqA | apply eqB | apply eqC | apply eqD | apply eqE | apply eqF | apply eqG | apply eqH | apply eqI)
      rw [List.take_of_length_le (by omega)]
      simp [bl, bl_append, bv]
  rw [if_neg h7] at ht hj
  rw [hj]
  repeat' ((conv => whnf); first | with_reducible (first | refine go1 (fun j q h => ?_) fun h => ?_ | refine go2 ⟨rfl, rfl⟩ (fun h => ?_) fun j h => ?_ | refine go2 ?_ (fun h => ?_) fun j h => ?_ | refine goQ ?_ (fun h => ?_) fun h => ?_) | apply go3 | apply go4 | apply go5 | ((first | apply go6 | apply go7 | apply go8 | apply go9 | apply goA) <;> intro h) | with_reducible (first | refine IdxK.mk _ rfl ?_ | refine idx_encL ?_ ?_ | refine idx_encM ?_ ?_ | refine goB ?_ fun hc => ?_ | refine goC ?_ fun hc => ?_ | refine goD ?_ fun hc => ?_ | refine goE ?_ fun hc => ?_ | apply goF | apply goG | refine goH ?_ fun b hb => ?_) | apply goI | apply goJ | apply goK | apply goL | apply goM | apply goN | apply goO | with_reducible refine goP ?_)
  all_goals try conv => whnf
  all_goals try (refine Side.mk ?_; try dsimp only)
  all_goals first | refine stay ?_ | ((refine And.intro (isV_ev _) ?_; simp only [decV_ev]; repeat' (refine And.intro ?_ ?_)); all_goals (first | assumption | omega); done) | ((refine And.intro (isM_enc _) ?_; simp only [decMv_enc]; repeat' (refine And.intro ?_ ?_)); all_goals (first | assumption | omega); done) | (exact isV_ev _) | (exact isM_enc _) | (exact isL_enc _) | trivial | omega | (simp (discharger := omega) only [wR]; omega) | (simp only [lnS]; omega) | (simp (discharger := omega) [-List.getD_eq_getElem?_getD, wR] <;> omega) | skip
  simp only [decV_ev, ht]
  repeat' ((conv => whnf); first | with_reducible (first | refine go1 (fun j q h => ?_) fun h => ?_ | refine go2 ⟨rfl, rfl⟩ (fun h => ?_) fun j h => ?_ | refine go2 ?_ (fun h => ?_) fun j h => ?_ | refine goQ ?_ (fun h => ?_) fun h => ?_) | apply go3 | apply go4 | apply go5 | ((first | apply go6 | apply go7 | apply go8 | apply go9 | apply goA) <;> intro h) | with_reducible (first | refine IdxK.mk _ rfl ?_ | refine idx_encL ?_ ?_ | refine idx_encM ?_ ?_ | refine goB ?_ fun hc => ?_ | refine goC ?_ fun hc => ?_ | refine goD ?_ fun hc => ?_ | refine goE ?_ fun hc => ?_ | apply goF | apply goG | refine goH ?_ fun b hb => ?_) | apply goI | apply goJ | apply goK | apply goL | apply goM | apply goN | apply goO | with_reducible refine goP ?_)
  all_goals try conv => whnf
  all_goals try (refine Side.mk ?_; try dsimp only)
  all_goals first | refine stay ?_ | ((refine And.intro (isV_ev _) ?_; simp only [decV_ev]; repeat' (refine And.intro ?_ ?_)); all_goals (first | assumption | omega); done) | ((refine And.intro (isM_enc _) ?_; simp only [decMv_enc]; repeat' (refine And.intro ?_ ?_)); all_goals (first | assumption | omega); done) | (exact isV_ev _) | (exact isM_enc _) | (exact isL_enc _) | trivial | omega | (simp (discharger := omega) only [wR]; omega) | (simp only [lnS]; omega) | (simp (discharger := omega) [-List.getD_eq_getElem?_getD, wR] <;> omega) | skip
  refine EndP.mk [] ?_ <;> (repeat' first | trivial | rfl | exact eqS _ _ | apply andI | apply eqA | apply eqB | apply eqC | apply eqD | apply eqE | apply eqF | apply eqG | apply eqH | apply eqI)
theorem lay_all : ∀ k : Nat, SOK 39 (smLay k)
  | 0 => smLay_ok fun _ _ _ h => by omega
  | k + 1 => smLay_ok fun v l h1 h2 h3 h4 => f_lay (lay_all k) v l h1 h2 h3 h4
def sm_lay : Sm := fun args σ => match args, σ with
  | [.list true _ [], x], [] => some (isV x ∧ (decV x).ok ∧ (decV x).size ≤ 300000, .buf 0, some [.buf 1 0 (bl (json (decV x)))])
  | _, _ => none
theorem k_lay : SOK 39 sm_lay := by
  intro args sg pre x r he hp
  unfold sm_lay at he
  split at he <;> cases he
  rename_i z y
  refine FunOK.nil 0 _ 0 rfl ?_
  exact (lay_all ((decV y).nodes + 1)) [.buf 0, y] [.buf 1 0 []] _ _ _ rfl ⟨hp.1, hp.2.1, Nat.lt_succ_self _, hp.2.2, by have := hp.2.2; simp; omega⟩
end Go.Proofs.YtafgmmfbhpbogaaGreatDoor
