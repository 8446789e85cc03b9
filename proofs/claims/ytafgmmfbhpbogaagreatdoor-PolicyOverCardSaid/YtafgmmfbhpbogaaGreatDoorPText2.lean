/-
  A value's JSON and text: the program's, as texts.
-/
import Derived.Test.YtafgmmfbhpbogaaGreatDoorPText
set_option linter.unusedSimpArgs false
set_option linter.unusedVariables false
set_option maxHeartbeats 4000000
namespace Go.Proofs.YtafgmmfbhpbogaaGreatDoor
open Go Go.VG
set_option maxRecDepth 100000
theorem f_JSON (v : Val) (h1 : v.ok) (h2 : v.size ≤ 300000) : OK 30 [ev v] [] (.str (json v)) none := by
  refine funOK_of_vc (C := cx [(39, sm_lay)]) (good ⟨k_lay, trivial⟩) (fn := Tryz.f30) rfl rfl rfl rfl fun _ _ => ?_
  repeat' ((conv => whnf); first | with_reducible (first | refine go1 (fun j q h => ?_) fun h => ?_ | refine go2 ⟨rfl, rfl⟩ (fun h => ?_) fun j h => ?_ | refine go2 ?_ (fun h => ?_) fun j h => ?_ | refine goQ ?_ (fun h => ?_) fun h => ?_) | apply go3 | apply go4 | apply go5 | ((first | apply go6 | apply go7 | apply go8 | apply go9 | apply goA) <;> intro h) | with_reducible (first | refine IdxK.mk _ rfl ?_ | refine idx_encL ?_ ?_ | refine idx_encM ?_ ?_ | refine goB ?_ fun hc => ?_ | refine goC ?_ fun hc => ?_ | refine goD ?_ fun hc => ?_ | refine goE ?_ fun hc => ?_ | apply goF | apply goG | refine goH ?_ fun b hb => ?_) | apply goI | apply goJ | apply goK | apply goL | apply goM | apply goN | apply goO | with_reducible refine goP ?_)
  all_goals try conv => whnf
  all_goals try (refine Side.mk ?_; try dsimp only)
  all_goals first | refine stay ?_ | ((refine And.intro (isV_ev _) ?_; simp only [decV_ev]; repeat' (refine And.intro ?_ ?_)); all_goals (first | assumption | omega); done) | ((refine And.intro (isM_enc _) ?_; simp only [decMv_enc]; repeat' (refine And.intro ?_ ?_)); all_goals (first | assumption | omega); done) | (exact isV_ev _) | (exact isM_enc _) | (exact isL_enc _) | trivial | omega | (simp (discharger := omega) only [wR]; omega) | (simp only [lnS]; omega) | (simp (discharger := omega) [-List.getD_eq_getElem?_getD, wR] <;> omega) | skip
  refine EndP.mk [] ?_ <;> (repeat' first | trivial | rfl | exact eqS _ _ | apply andI | apply eqA | apply eqB | apply eqC | apply eqD | apply eqE | apply eqF | apply eqG | apply eqH | apply eqI)
  rw [decV_ev]
def sm_JSON : Sm := fun args σ => match args, σ with
  | [x], [] => some (isV x ∧ (decV x).ok ∧ (decV x).size ≤ 300000, .str (json (decV x)), none)
  | _, _ => none
theorem k_JSON : SOK 30 sm_JSON := by
  intro args sg pre x r he hp
  unfold sm_JSON at he
  split at he <;> cases he
  exact (f_JSON _ hp.2.1 hp.2.2).args (WkL.cons hp.1 WkL.nil)
theorem f_Text (v : Val) (hw1 : v.ok) (h2 : v.size ≤ 300000) : OK 19 [ev v] [] (.str (text v)) none := by
  refine funOK_of_vc (C := cx [(29, sm_thing), (30, sm_JSON)]) (good ⟨k_thing, k_JSON, trivial⟩) (fn := Tryz.f19) rfl rfl rfl rfl fun hw _ => ?_
  have hz := size_eq v
  have ht : thingV v = thingV v := rfl
  rw (occs := .pos [2]) [thingV] at ht
  have hx : text v = text v := rfl
  rw (occs := .pos [2]) [text] at hx
  have hs : simple v = simple v := rfl
  rw (occs := .pos [2]) [simple] at hs
  by_cases h0 : v.kind = 0
  · rw [if_pos h0] at ht
    rw [if_neg (by omega)] at hx
    repeat (first | rw [if_pos (by omega)] at hs | rw [if_neg (by omega)] at hs)
    rw [hx, hs]
    repeat' ((conv => whnf); first | with_reducible (first | refine go1 (fun j q h => ?_) fun h => ?_ | refine go2 ⟨rfl, rfl⟩ (fun h => ?_) fun j h => ?_ | refine go2 ?_ (fun h => ?_) fun j h => ?_ | refine goQ ?_ (fun h => ?_) fun h => ?_) | apply go3 | apply go4 | apply go5 | ((first | apply go6 | apply go7 | apply go8 | apply go9 | apply goA) <;> intro h) | with_reducible (first | refine IdxK.mk _ rfl ?_ | refine idx_encL ?_ ?_ | refine idx_encM ?_ ?_ | refine goB ?_ fun hc => ?_ | refine goC ?_ fun hc => ?_ | refine goD ?_ fun hc => ?_ | refine goE ?_ fun hc => ?_ | apply goF | apply goG | refine goH ?_ fun b hb => ?_) | apply goI | apply goJ | apply goK | apply goL | apply goM | apply goN | apply goO | with_reducible refine goP ?_)
    all_goals try conv => whnf
    all_goals try (refine Side.mk ?_; try dsimp only)
    all_goals first | refine stay ?_ | ((refine And.intro (isV_ev _) ?_; simp only [decV_ev]; repeat' (refine And.intro ?_ ?_)); all_goals (first | assumption | omega); done) | ((refine And.intro (isM_enc _) ?_; simp only [decMv_enc]; repeat' (refine And.intro ?_ ?_)); all_goals (first | assumption | omega); done) | (exact isV_ev _) | (exact isM_enc _) | (exact isL_enc _) | trivial | omega | (simp (discharger := omega) only [wR]; omega) | (simp only [lnS]; omega) | (simp (discharger := omega) [-List.getD_eq_getElem?_getD, wR] <;> omega) | skip
    simp only [decV_ev, ht]
    repeat' ((conv => whnf); first | with_reducible (first | refine go1 (fun j q h => ?_) fun h => ?_ | refine go2 ⟨rfl, rfl⟩ (fun h => ?_) fun j h => ?_ | refine go2 ?_ (fun h => ?_) fun j h => ?_ | refine goQ ?_ (fun h => ?_) fun h => ?_) | apply go3 | apply go4 | apply go5 | ((first | apply go6 | apply go7 | apply go8 | apply go9 | apply goA) <;> intro h) | with_reducible (first | refine IdxK.mk _ rfl ?_ | refine idx_encL ?_ ?_ | refine idx_encM ?_ ?_ | refine goB ?_ fun hc => ?_ | refine goC ?_ fun hc => ?_ | refine goD ?_ fun hc => ?_ | refine goE ?_ fun hc => ?_ | apply goF | apply goG | refine goH ?_ fun b hb => ?_) | apply goI | apply goJ | apply goK | apply goL | apply goM | apply goN | apply goO | with_reducible refine goP ?_)
    all_goals try conv => whnf
    all_goals try (refine Side.mk ?_; try dsimp only)
    all_goals first | refine stay ?_ | ((refine And.intro (isV_ev _) ?_; simp only [decV_ev]; repeat' (refine And.intro ?_ ?_)); all_goals (first | assumption | omega); done) | ((refine And.intro (isM_enc _) ?_; simp only [decMv_enc]; repeat' (refine And.intro ?_ ?_)); all_goals (first | assumption | omega); done) | (exact isV_ev _) | (exact isM_enc _) | (exact isL_enc _) | trivial | omega | (simp (discharger := omega) only [wR]; omega) | (simp only [lnS]; omega) | (simp (discharger := omega) [-List.getD_eq_getElem?_getD, wR] <;> omega) | skip
    all_goals first
      | (exfalso; omega)
      | skip
    refine EndP.mk [] ?_ <;> (repeat' first | trivial | rfl | exact eqS _ _ | apply andI | apply eqA | apply eqB | apply eqC | apply eqD | apply eqE | apply eqF | apply eqG | apply eqH | apply eqI)
  rw [if_neg h0] at ht
  by_cases h1 : v.kind = 1
  · rw [if_pos h1] at ht
    rw [if_neg (by omega)] at hx
    repeat (first | rw [if_pos (by omega)] at hs | rw [if_neg (by omega)] at hs)
    rw [hx, hs]
    repeat' ((conv => whnf); first | with_reducible (first | refine go1 (fun j q h => ?_) fun h => ?_ | refine go2 ⟨rfl, rfl⟩ (fun h => ?_) fun j h => ?_ | refine go2 ?_ (fun h => ?_) fun j h => ?_ | refine goQ ?_ (fun h => ?_) fun h => ?_) | apply go3 | apply go4 | apply go5 | ((first | apply go6 | apply go7 | apply go8 | apply go9 | apply goA) <;> intro h) | with_reducible (first | refine IdxK.mk _ rfl ?_ | refine idx_encL ?_ ?_ | refine idx_encM ?_ ?_ | refine goB ?_ fun hc => ?_ | refine goC ?_ fun hc => ?_ | refine goD ?_ fun hc => ?_ | refine goE ?_ fun hc => ?_ | apply goF | apply goG | refine goH ?_ fun b hb => ?_) | apply goI | apply goJ | apply goK | apply goL | apply goM | apply goN | apply goO | with_reducible refine goP ?_)
    all_goals try conv => whnf
    all_goals try (refine Side.mk ?_; try dsimp only)
    all_goals first | refine stay ?_ | ((refine And.intro (isV_ev _) ?_; simp only [decV_ev]; repeat' (refine And.intro ?_ ?_)); all_goals (first | assumption | omega); done) | ((refine And.intro (isM_enc _) ?_; simp only [decMv_enc]; repeat' (refine And.intro ?_ ?_)); all_goals (first | assumption | omega); done) | (exact isV_ev _) | (exact isM_enc _) | (exact isL_enc _) | trivial | omega | (simp (discharger := omega) only [wR]; omega) | (simp only [lnS]; omega) | (simp (discharger := omega) [-List.getD_eq_getElem?_getD, wR] <;> omega) | skip
    simp only [decV_ev, ht]
    repeat' ((conv => whnf); first | with_reducible (first | refine go1 (fun j q h => ?_) fun h => ?_ | refine go2 ⟨rfl, rfl⟩ (fun h => ?_) fun j h => ?_ | refine go2 ?_ (fun h => ?_) fun j h => ?_ | refine goQ ?_ (fun h => ?_) fun h => ?_) | apply go3 | apply go4 | apply go5 | ((first | apply go6 | apply go7 | apply go8 | apply go9 | apply goA) <;> intro h) | with_reducible (first | refine IdxK.mk _ rfl ?_ | refine idx_encL ?_ ?_ | refine idx_encM ?_ ?_ | refine goB ?_ fun hc => ?_ | refine goC ?_ fun hc => ?_ | refine goD ?_ fun hc => ?_ | refine goE ?_ fun hc => ?_ | apply goF | apply goG | refine goH ?_ fun b hb => ?_) | apply goI | apply goJ | apply goK | apply goL | apply goM | apply goN | apply goO | with_reducible refine goP ?_)
    all_goals try conv => whnf
    all_goals try (refine Side.mk ?_; try dsimp only)
    all_goals first | refine stay ?_ | ((refine And.intro (isV_ev _) ?_; simp only [decV_ev]; repeat' (refine And.intro ?_ ?_)); all_goals (first | assumption | omega); done) | ((refine And.intro (isM_enc _) ?_; simp only [decMv_enc]; repeat' (refine And.intro ?_ ?_)); all_goals (first | assumption | omega); done) | (exact isV_ev _) | (exact isM_enc _) | (exact isL_enc _) | trivial | omega | (simp (discharger := omega) only [wR]; omega) | (simp only [lnS]; omega) | (simp (discharger := omega) [-List.getD_eq_getElem?_getD, wR] <;> omega) | skip
    all_goals first
      | (exfalso; omega)
      | skip
    refine EndP.mk [] ?_ <;> (repeat' first | trivial | rfl | exact eqS _ _ | apply andI | apply eqA | apply eqB | apply eqC | apply eqD | apply eqE | apply eqF | apply eqG | apply eqH | apply eqI)
  rw [if_neg h1] at ht
  by_cases h2 : v.kind = 2
  · rw [if_pos h2] at ht
    rw [if_neg (by omega)] at hx
    repeat (first | rw [if_pos (by omega)] at hs | rw [if_neg (by omega)] at hs)
    rw [hx, hs]
    repeat' ((conv => whnf); first | with_reducible (first | refine go1 (fun j q h => ?_) fun h => ?_ | refine go2 ⟨rfl, rfl⟩ (fun h => ?_) fun j h => ?_ | refine go2 ?_ (fun h => ?_) fun j h => ?_ | refine goQ ?_ (fun h => ?_) fun h => ?_) | apply go3 | apply go4 | apply go5 | ((first | apply go6 | apply go7 | apply go8 | apply go9 | apply goA) <;> intro h) | with_reducible (first | refine IdxK.mk _ rfl ?_ | refine idx_encL ?_ ?_ | refine idx_encM ?_ ?_ | refine goB ?_ fun hc => ?_ | refine goC ?_ fun hc => ?_ | refine goD ?_ fun hc => ?_ | refine goE ?_ fun hc => ?_ | apply goF | apply goG | refine goH ?_ fun b hb => ?_) | apply goI | apply goJ | apply goK | apply goL | apply goM | apply goN | apply goO | with_reducible refine goP ?_)
    all_goals try conv => whnf
    all_goals try (refine Side.mk ?_; try dsimp only)
    all_goals first | refine stay ?_ | ((refine And.intro (isV_ev _) ?_; simp only [decV_ev]; repeat' (refine And.intro ?_ ?_)); all_goals (first | assumption | omega); done) | ((refine And.intro (isM_enc _) ?_; simp only [decMv_enc]; repeat' (refine And.intro ?_ ?_)); all_goals (first | assumption | omega); done) | (exact isV_ev _) | (exact isM_enc _) | (exact isL_enc _) | trivial | omega | (simp (discharger := omega) only [wR]; omega) | (simp only [lnS]; omega) | (simp (discharger := omega) [-List.getD_eq_getElem?_getD, wR] <;> omega) | skip
    simp only [decV_ev, ht]
    repeat' ((conv => whnf); first | with_reducible (first | refine go1 (fun j q h => ?_) fun h => ?_ | refine go2 ⟨rfl, rfl⟩ (fun h => ?_) fun j h => ?_ | refine go2 ?_ (fun h => ?_) fun j h => ?_ | refine goQ ?_ (fun h => ?_) fun h => ?_) | apply go3 | apply go4 | apply go5 | ((first | apply go6 | apply go7 | apply go8 | apply go9 | apply goA) <;> intro h) | with_reducible (first | refine IdxK.mk _ rfl ?_ | refine idx_encL ?_ ?_ | refine idx_encM ?_ ?_ | refine goB ?_ fun hc => ?_ | refine goC ?_ fun hc => ?_ | refine goD ?_ fun hc => ?_ | refine goE ?_ fun hc => ?_ | apply goF | apply goG | refine goH ?_ fun b hb => ?_) | apply goI | apply goJ | apply goK | apply goL | apply goM | apply goN | apply goO | with_reducible refine goP ?_)
    all_goals try conv => whnf
    all_goals try (refine Side.mk ?_; try dsimp only)
    all_goals first | refine stay ?_ | ((refine And.intro (isV_ev _) ?_; simp only [decV_ev]; repeat' (refine And.intro ?_ ?_)); all_goals (first | assumption | omega); done) | ((refine And.intro (isM_enc _) ?_; simp only [decMv_enc]; repeat' (refine And.intro ?_ ?_)); all_goals (first | assumption | omega); done) | (exact isV_ev _) | (exact isM_enc _) | (exact isL_enc _) | trivial | omega | (simp (discharger := omega) only [wR]; omega) | (simp only [lnS]; omega) | (simp (discharger := omega) [-List.getD_eq_getElem?_getD, wR] <;> omega) | skip
    all_goals first
      | (exfalso; omega)
      | skip
    refine EndP.mk [] ?_ <;> (repeat' first | trivial | rfl | exact eqS _ _ | apply andI | apply eqA | apply eqB | apply eqC | apply eqD | apply eqE | apply eqF | apply eqG | apply eqH | apply eqI)
  rw [if_neg h2] at ht
  by_cases h3 : v.kind = 3
  · rw [if_pos h3] at ht
    rw [if_neg (by omega)] at hx
    repeat (first | rw [if_pos (by omega)] at hs | rw [if_neg (by omega)] at hs)
    rw [hx, hs]
    repeat' ((conv => whnf); first | with_reducible (first | refine go1 (fun j q h => ?_) fun h => ?_ | refine go2 ⟨rfl, rfl⟩ (fun h => ?_) fun j h => ?_ | refine go2 ?_ (fun h => ?_) fun j h => ?_ | refine goQ ?_ (fun h => ?_) fun h => ?_) | apply go3 | apply go4 | apply go5 | ((first | apply go6 | apply go7 | apply go8 | apply go9 | apply goA) <;> intro h) | with_reducible (first | refine IdxK.mk _ rfl ?_ | refine idx_encL ?_ ?_ | refine idx_encM ?_ ?_ | refine goB ?_ fun hc => ?_ | refine goC ?_ fun hc => ?_ | refine goD ?_ fun hc => ?_ | refine goE ?_ fun hc => ?_ | apply goF | apply goG | refine goH ?_ fun b hb => ?_) | apply goI | apply goJ | apply goK | apply goL | apply goM | apply goN | apply goO | with_reducible refine goP ?_)
    all_goals try conv => whnf
    all_goals try (refine Side.mk ?_; try dsimp only)
    all_goals first | refine stay ?_ | ((refine And.intro (isV_ev _) ?_; simp only [decV_ev]; repeat' (refine And.intro ?_ ?_)); all_goals (first | assumption | omega); done) | ((refine And.intro (isM_enc _) ?_; simp only [decMv_enc]; repeat' (refine And.intro ?_ ?_)); all_goals (first | assumption | omega); done) | (exact isV_ev _) | (exact isM_enc _) | (exact isL_enc _) | trivial | omega | (simp (discharger := omega) only [wR]; omega) | (simp only [lnS]; omega) | (simp (discharger := omega) [-List.getD_eq_getElem?_getD, wR] <;> omega) | skip
    simp only [decV_ev, ht]
    repeat' ((conv => whnf); first | with_reducible (first | refine go1 (fun j q h => ?_) fun h => ?_ | refine go2 ⟨rfl, rfl⟩ (fun h => ?_) fun j h => ?_ | refine go2 ?_ (fun h => ?_) fun j h => ?_ | refine goQ ?_ (fun h => ?_) fun h => ?_) | apply go3 | apply go4 | apply go5 | ((first | apply go6 | apply go7 | apply go8 | apply go9 | apply goA) <;> intro h) | with_reducible (first | refine IdxK.mk _ rfl ?_ | refine idx_encL ?_ ?_ | refine idx_encM ?_ ?_ | refine goB ?_ fun hc => ?_ | refine goC ?_ fun hc => ?_ | refine goD ?_ fun hc => ?_ | refine goE ?_ fun hc => ?_ | apply goF | apply goG | refine goH ?_ fun b hb => ?_) | apply goI | apply goJ | apply goK | apply goL | apply goM | apply goN | apply goO | with_reducible refine goP ?_)
    all_goals try conv => whnf
    all_goals try (refine Side.mk ?_; try dsimp only)
    all_goals first | refine stay ?_ | ((refine And.intro (isV_ev _) ?_; simp only [decV_ev]; repeat' (refine And.intro ?_ ?_)); all_goals (first | assumption | omega); done) | ((refine And.intro (isM_enc _) ?_; simp only [decMv_enc]; repeat' (refine And.intro ?_ ?_)); all_goals (first | assumption | omega); done) | (exact isV_ev _) | (exact isM_enc _) | (exact isL_enc _) | trivial | omega | (simp (discharger := omega) only [wR]; omega) | (simp only [lnS]; omega) | (simp (discharger := omega) [-List.getD_eq_getElem?_getD, wR] <;> omega) | skip
    all_goals first
      | (exfalso; omega)
      | skip
    refine EndP.mk [] ?_ <;> (repeat' first | trivial | rfl | exact eqS _ _ | apply andI | apply eqA | apply eqB | apply eqC | apply eqD | apply eqE | apply eqF | apply eqG | apply eqH | apply eqI)
  rw [if_neg h3] at ht
  by_cases h4 : v.kind = 4
  · rw [if_pos h4] at ht
    rw [if_neg (by omega)] at hx
    repeat (first | rw [if_pos (by omega)] at hs | rw [if_neg (by omega)] at hs)
    rw [hx, hs]
    repeat' ((conv => whnf); first | with_reducible (first | refine go1 (fun j q h => ?_) fun h => ?_ | refine go2 ⟨rfl, rfl⟩ (fun h => ?_) fun j h => ?_ | refine go2 ?_ (fun h => ?_) fun j h => ?_ | refine goQ ?_ (fun h => ?_) fun h => ?_) | apply go3 | apply go4 | apply go5 | ((first | apply go6 | apply go7 | apply go8 | apply go9 | apply goA) <;> intro h) | with_reducible (first | refine IdxK.mk _ rfl ?_ | refine idx_encL ?_ ?_ | refine idx_encM ?_ ?_ | refine goB ?_ fun hc => ?_ | refine goC ?_ fun hc => ?_ | refine goD ?_ fun hc => ?_ | refine goE ?_ fun hc => ?_ | apply goF | apply goG | refine goH ?_ fun b hb => ?_) | apply goI | apply goJ | apply goK | apply goL | apply goM | apply goN | apply goO | with_reducible refine goP ?_)
    all_goals try conv => whnf
    all_goals try (refine Side.mk ?_; try dsimp only)
    all_goals first | refine stay ?_ | ((refine And.intro (isV_ev _) ?_; simp only [decV_ev]; repeat' (refine And.intro ?_ ?_)); all_goals (first | assumption | omega); done) | ((refine And.intro (isM_enc _) ?_; simp only [decMv_enc]; repeat' (refine And.intro ?_ ?_)); all_goals (first | assumption | omega); done) | (exact isV_ev _) | (exact isM_enc _) | (exact isL_enc _) | trivial | omega | (simp (discharger := omega) only [wR]; omega) | (simp only [lnS]; omega) | (simp (discharger := omega) [-List.getD_eq_getElem?_getD, wR] <;> omega) | skip
    simp only [decV_ev, ht]
    repeat' ((conv => whnf); first | with_reducible (first | refine go1 (fun j q h => ?_) fun h => ?_ | refine go2 ⟨rfl, rfl⟩ (fun h => ?_) fun j h => ?_ | refine go2 ?_ (fun h => ?_) fun j h => ?_ | refine goQ ?_ (fun h => ?_) fun h => ?_) | apply go3 | apply go4 | apply go5 | ((first | apply go6 | apply go7 | apply go8 | apply go9 | apply goA) <;> intro h) | with_reducible (first | refine IdxK.mk _ rfl ?_ | refine idx_encL ?_ ?_ | refine idx_encM ?_ ?_ | refine goB ?_ fun hc => ?_ | refine goC ?_ fun hc => ?_ | refine goD ?_ fun hc => ?_ | refine goE ?_ fun hc => ?_ | apply goF | apply goG | refine goH ?_ fun b hb => ?_) | apply goI | apply goJ | apply goK | apply goL | apply goM | apply goN | apply goO | with_reducible refine goP ?_)
    all_goals try conv => whnf
    all_goals try (refine Side.mk ?_; try dsimp only)
    all_goals first | refine stay ?_ | ((refine And.intro (isV_ev _) ?_; simp only [decV_ev]; repeat' (refine And.intro ?_ ?_)); all_goals (first | assumption | omega); done) | ((refine And.intro (isM_enc _) ?_; simp only [decMv_enc]; repeat' (refine And.intro ?_ ?_)); all_goals (first | assumption | omega); done) | (exact isV_ev _) | (exact isM_enc _) | (exact isL_enc _) | trivial | omega | (simp (discharger := omega) only [wR]; omega) | (simp only [lnS]; omega) | (simp (discharger := omega) [-List.getD_eq_getElem?_getD, wR] <;> omega) | skip
    all_goals first
      | (exfalso; omega)
      | skip
    refine EndP.mk [] ?_ <;> (repeat' first | trivial | rfl | exact eqS _ _ | apply andI | apply eqA | apply eqB | apply eqC | apply eqD | apply eqE | apply eqF | apply eqG | apply eqH | apply eqI)
  rw [if_neg h4] at ht
  by_cases h5 : v.kind = 5
  · rw [if_pos h5] at ht
    rw [if_neg (by omega)] at hx
    repeat (first | rw [if_pos (by omega)] at hs | rw [if_neg (by omega)] at hs)
    rw [hx, hs]
    repeat' ((conv => whnf); first | with_reducible (first | refine go1 (fun j q h => ?_) fun h => ?_ | refine go2 ⟨rfl, rfl⟩ (fun h => ?_) fun j h => ?_ | refine go2 ?_ (fun h => ?_) fun j h => ?_ | refine goQ ?_ (fun h => ?_) fun h => ?_) | apply go3 | apply go4 | apply go5 | ((first | apply go6 | apply go7 | apply go8 | apply go9 | apply goA) <;> intro h) | with_reducible (first | refine IdxK.mk _ rfl ?_ | refine idx_encL ?_ ?_ | refine idx_encM ?_ ?_ | refine goB ?_ fun hc => ?_ | refine goC ?_ fun hc => ?_ | refine goD ?_ fun hc => ?_ | refine goE ?_ fun hc => ?_ | apply goF | apply goG | refine goH ?_ fun b hb => ?_) | apply goI | apply goJ | apply goK | apply goL | apply goM | apply goN | apply goO | with_reducible refine goP ?_)
    all_goals try conv => whnf
    all_goals try (refine Side.mk ?_; try dsimp only)
    all_goals first | refine stay ?_ | ((refine And.intro (isV_ev _) ?_; simp only [decV_ev]; repeat' (refine And.intro ?_ ?_)); all_goals (first | assumption | omega); done) | ((refine And.intro (isM_enc _) ?_; simp only [decMv_enc]; repeat' (refine And.intro ?_ ?_)); all_goals (first | assumption | omega); done) | (exact isV_ev _) | (exact isM_enc _) | (exact isL_enc _) | trivial | omega | (simp (discharger := omega) only [wR]; omega) | (simp only [lnS]; omega) | (simp (discharger := omega) [-List.getD_eq_getElem?_getD, wR] <;> omega) | skip
    simp only [decV_ev, ht]
    repeat' ((conv => whnf); first | with_reducible (first | refine go1 (fun j q h => ?_) fun h => ?_ | refine go2 ⟨rfl, rfl⟩ (fun h => ?_) fun j h => ?_ | refine go2 ?_ (fun h => ?_) fun j h => ?_ | refine goQ ?_ (fun h => ?_) fun h => ?_) | apply go3 | apply go4 | apply go5 | ((first | apply go6 | apply go7 | apply go8 | apply go9 | apply goA) <;> intro h) | with_reducible (first | refine IdxK.mk _ rfl ?_ | refine idx_encL ?_ ?_ | refine idx_encM ?_ ?_ | refine goB ?_ fun hc => ?_ | refine goC ?_ fun hc => ?_ | refine goD ?_ fun hc => ?_ | refine goE ?_ fun hc => ?_ | apply goF | apply goG | refine goH ?_ fun b hb => ?_) | apply goI | apply goJ | apply goK | apply goL | apply goM | apply goN | apply goO | with_reducible refine goP ?_)
    all_goals try conv => whnf
    all_goals try (refine Side.mk ?_; try dsimp only)
    all_goals first | refine stay ?_ | ((refine And.intro (isV_ev _) ?_; simp only [decV_ev]; repeat' (refine And.intro ?_ ?_)); all_goals (first | assumption | omega); done) | ((refine And.intro (isM_enc _) ?_; simp only [decMv_enc]; repeat' (refine And.intro ?_ ?_)); all_goals (first | assumption | omega); done) | (exact isV_ev _) | (exact isM_enc _) | (exact isL_enc _) | trivial | omega | (simp (discharger := omega) only [wR]; omega) | (simp only [lnS]; omega) | (simp (discharger := omega) [-List.getD_eq_getElem?_getD, wR] <;> omega) | skip
    all_goals first
      | (exfalso; omega)
      | skip
    refine EndP.mk [] ?_ <;> (repeat' first | trivial | rfl | exact eqS _ _ | apply andI | apply eqA | apply eqB | apply eqC | apply eqD | apply eqE | apply eqF | apply eqG | apply eqH | apply eqI)
  rw [if_neg h5] at ht
  by_cases h6 : v.kind = 6
  · rw [if_pos h6] at ht
    rw [if_pos (by omega)] at hx
    rw [hx]
    repeat' ((conv => whnf); first | with_reducible (first | refine go1 (fun j q h => ?_) fun h => ?_ | refine go2 ⟨rfl, rfl⟩ (fun h => ?_) fun j h => ?_ | refine go2 ?_ (fun h => ?_) fun j h => ?_ | refine goQ ?_ (fun h => ?_) fun h => ?_) | apply go3 | apply go4 | apply go5 | ((first | apply go6 | apply go7 | apply go8 | apply go9 | apply goA) <;> intro h) | with_reducible (first | refine IdxK.mk _ rfl ?_ | refine idx_encL ?_ ?_ | refine idx_encM ?_ ?_ | refine goB ?_ fun hc => ?_ | refine goC ?_ fun hc => ?_ | refine goD ?_ fun hc => ?_ | refine goE ?_ fun hc => ?_ | apply goF | apply goG | refine goH ?_ fun b hb => ?_) | apply goI | apply goJ | apply goK | apply goL | apply goM | apply goN | apply goO | with_reducible refine goP ?_)
    all_goals try conv => whnf
    all_goals try (refine Side.mk ?_; try dsimp only)
    all_goals first | refine stay ?_ | ((refine And.intro (isV_ev _) ?_; simp only [decV_ev]; repeat' (refine And.intro ?_ ?_)); all_goals (first | assumption | omega); done) | ((refine And.intro (isM_enc _) ?_; simp only [decMv_enc]; repeat' (refine And.intro ?_ ?_)); all_goals (first | assumption | omega); done) | (exact isV_ev _) | (exact isM_enc _) | (exact isL_enc _) | trivial | omega | (simp (discharger := omega) only [wR]; omega) | (simp only [lnS]; omega) | (simp (discharger := omega) [-List.getD_eq_getElem?_getD, wR] <;> omega) | skip
    simp only [decV_ev, ht]
    repeat' ((conv => whnf); first | with_reducible (first | refine go1 (fun j q h => ?_) fun h => ?_ | refine go2 ⟨rfl, rfl⟩ (fun h => ?_) fun j h => ?_ | refine go2 ?_ (fun h => ?_) fun j h => ?_ | refine goQ ?_ (fun h => ?_) fun h => ?_) | apply go3 | apply go4 | apply go5 | ((first | apply go6 | apply go7 | apply go8 | apply go9 | apply goA) <;> intro h) | with_reducible (first | refine IdxK.mk _ rfl ?_ | refine idx_encL ?_ ?_ | refine idx_encM ?_ ?_ | refine goB ?_ fun hc => ?_ | refine goC ?_ fun hc => ?_ | refine goD ?_ fun hc => ?_ | refine goE ?_ fun hc => ?_ | apply goF | apply goG | refine goH ?_ fun b hb => ?_) | apply goI | apply goJ | apply goK | apply goL | apply goM | apply goN | apply goO | with_reducible refine goP ?_)
    all_goals try conv => whnf
    all_goals try (refine Side.mk ?_; try dsimp only)
    all_goals first | refine stay ?_ | ((refine And.intro (isV_ev _) ?_; simp only [decV_ev]; repeat' (refine And.intro ?_ ?_)); all_goals (first | assumption | omega); done) | ((refine And.intro (isM_enc _) ?_; simp only [decMv_enc]; repeat' (refine And.intro ?_ ?_)); all_goals (first | assumption | omega); done) | (exact isV_ev _) | (exact isM_enc _) | (exact isL_enc _) | trivial | omega | (simp (discharger := omega) only [wR]; omega) | (simp only [lnS]; omega) | (simp (discharger := omega) [-List.getD_eq_getElem?_getD, wR] <;> omega) | skip
    all_goals first
      | (exfalso; omega)
      | skip
    refine EndP.mk [] ?_ <;> (repeat' first | trivial | rfl | exact eqS _ _ | apply andI | apply eqA | apply eqB | apply eqC | apply eqD | apply eqE | apply eqF | apply eqG | apply eqH | apply eqI)
    rw [decV_ev]
  rw [if_neg h6] at ht
  by_cases h7 : v.kind = 7
  · rw [if_pos h7] at ht
    rw [if_pos (by omega)] at hx
    rw [hx]
    repeat' ((conv => whnf); first | with_reducible (first | refine go1 (fun j q h => ?_) fun h => ?_ | refine go2 ⟨rfl, rfl⟩ (fun h => ?_) fun j h => ?_ | refine go2 ?_ (fun h => ?_) fun j h => ?_ | refine goQ ?_ (fun h => ?_) fun h => ?_) | apply go3 | apply go4 | apply go5 | ((first | apply go6 | apply go7 | apply go8 | apply go9 | apply goA) <;> intro h) | with_reducible (first | refine IdxK.mk _ rfl ?_ | refine idx_encL ?_ ?_ | refine idx_encM ?_ ?_ | refine goB ?_ fun hc => ?_ | refine goC ?_ fun hc => ?_ | refine goD ?_ fun hc => ?_ | refine goE ?_ fun hc => ?_ | apply goF | apply goG | refine goH ?_ fun b hb => ?_) | apply goI | apply goJ | apply goK | apply goL | apply goM | apply goN | apply goO | with_reducible refine goP ?_)
    all_goals try conv => whnf
    all_goals try (refine Side.mk ?_; try dsimp only)
    all_goals first | refine stay ?_ | ((refine And.intro (isV_ev _) ?_; simp only [decV_ev]; repeat' (refine And.intro ?_ ?_)); all_goals (first | assumption | omega); done) | ((refine And.intro (isM_enc _) ?_; simp only [decMv_enc]; repeat' (refine And.intro ?_ ?_)); all_goals (first | assumption | omega); done) | (exact isV_ev _) | (exact isM_enc _) | (exact isL_enc _) | trivial | omega | (simp (discharger := omega) only [wR]; omega) | (simp only [lnS]; omega) | (simp (discharger := omega) [-List.getD_eq_getElem?_getD, wR] <;> omega) | skip
    simp only [decV_ev, ht]
    repeat' ((conv => whnf); first | with_reducible (first | refine go1 (fun j q h => ?_) fun h => ?_ | refine go2 ⟨rfl, rfl⟩ (fun h => ?_) fun j h => ?_ | refine go2 ?_ (fun h => ?_) fun j h => ?_ | refine goQ ?_ (fun h => ?_) fun h => ?_) | apply go3 | apply go4 | apply go5 | ((first | apply go6 | apply go7 | apply go8 | apply go9 | apply goA) <;> intro h) | with_reducible (first | refine IdxK.mk _ rfl ?_ | refine idx_encL ?_ ?_ | refine idx_encM ?_ ?_ | refine goB ?_ fun hc => ?_ | refine goC ?_ fun hc => ?_ | refine goD ?_ fun hc => ?_ | refine goE ?_ fun hc => ?_ | apply goF | apply goG | refine goH ?_ fun b hb => ?_) | apply goI | apply goJ | apply goK | apply goL | apply goM | apply goN | apply goO | with_reducible refine goP ?_)
    all_goals try conv => whnf
    all_goals try (refine Side.mk ?_; try dsimp only)
    all_goals first | refine stay ?_ | ((refine And.intro (isV_ev _) ?_; simp only [decV_ev]; repeat' (refine And.intro ?_ ?_)); all_goals (first | assumption | omega); done) | ((refine And.intro (isM_enc _) ?_; simp only [decMv_enc]; repeat' (refine And.intro ?_ ?_)); all_goals (first | assumption | omega); done) | (exact isV_ev _) | (exact isM_enc _) | (exact isL_enc _) | trivial | omega | (simp (discharger := omega) only [wR]; omega) | (simp only [lnS]; omega) | (simp (discharger := omega) [-List.getD_eq_getElem?_getD, wR] <;> omega) | skip
    all_goals first
      | (exfalso; omega)
      | skip
    refine EndP.mk [] ?_ <;> (repeat' first | trivial | rfl | exact eqS _ _ | apply andI | apply eqA | apply eqB | apply eqC | apply eqD | apply eqE | apply eqF | apply eqG | apply eqH | apply eqI)
    rw [decV_ev]
  rw [if_neg h7] at ht
  rw [if_neg (by omega)] at hx
  repeat (first | rw [if_pos (by omega)] at hs | rw [if_neg (by omega)] at hs)
  rw [hx, hs]
  repeat' ((conv => whnf); first | with_reducible (first | refine go1 (fun j q h => ?_) fun h => ?_ | refine go2 ⟨rfl, rfl⟩ (fun h => ?_) fun j h => ?_ | refine go2 ?_ (fun h => ?_) fun j h => ?_ | refine goQ ?_ (fun h => ?_) fun h => ?_) | apply go3 | apply go4 | apply go5 | ((first | apply go6 | apply go7 | apply go8 | apply go9 | apply goA) <;> intro h) | with_reducible (first | refine IdxK.mk _ rfl ?_ | refine idx_encL ?_ ?_ | refine idx_encM ?_ ?_ | refine goB ?_ fun hc => ?_ | refine goC ?_ fun hc => ?_ | refine goD ?_ fun hc => ?_ | refine goE ?_ fun hc => ?_ | apply goF | apply goG | refine goH ?_ fun b hb => ?_) | apply goI | apply goJ | apply goK | apply goL | apply goM | apply goN | apply goO | with_reducible refine goP ?_)
  all_goals try conv => whnf
  all_goals try (refine Side.mk ?_; try dsimp only)
  all_goals first | refine stay ?_ | ((refine And.intro (isV_ev _) ?_; simp only [decV_ev]; repeat' (refine And.intro ?_ ?_)); all_goals (first | assumption | omega); done) | ((refine And.intro (isM_enc _) ?_; simp only [decMv_enc]; repeat' (refine And.intro ?_ ?_)); all_goals (first | assumption | omega); done) | (exact isV_ev _) | (exact isM_enc _) | (exact isL_enc _) | trivial | omega | (simp (discharger := omega) only [wR]; omega) | (simp only [lnS]; omega) | (simp (discharger := omega) [-List.getD_eq_getElem?_getD, wR] <;> omega) | skip
  simp only [decV_ev, ht]
  repeat' ((conv => whnf); first | with_reducible (first | refine go1 (fun j q h => ?_) fun h => ?_ | refine go2 ⟨rfl, rfl⟩ (fun h => ?_) fun j h => ?_ | refine go2 ?_ (fun h => ?_) fun j h => ?_ | refine goQ ?_ (fun h => ?_) fun h => ?_) | apply go3 | apply go4 | apply go5 | ((first | apply go6 | apply go7 | apply go8 | apply go9 | apply goA) <;> intro h) | with_reducible (first | refine IdxK.mk _ rfl ?_ | refine idx_encL ?_ ?_ | refine idx_encM ?_ ?_ | refine goB ?_ fun hc => ?_ | refine goC ?_ fun hc => ?_ | refine goD ?_ fun hc => ?_ | refine goE ?_ fun hc => ?_ | apply goF | apply goG | refine goH ?_ fun b hb => ?_) | apply goI | apply goJ | apply goK | apply goL | apply goM | apply goN | apply goO | with_reducible refine goP ?_)
  all_goals try conv => whnf
  all_goals try (refine Side.mk ?_; try dsimp only)
  all_goals first | refine stay ?_ | ((refine And.intro (isV_ev _) ?_; simp only [decV_ev]; repeat' (refine And.intro ?_ ?_)); all_goals (first | assumption | omega); done) | ((refine And.intro (isM_enc _) ?_; simp only [decMv_enc]; repeat' (refine And.intro ?_ ?_)); all_goals (first | assumption | omega); done) | (exact isV_ev _) | (exact isM_enc _) | (exact isL_enc _) | trivial | omega | (simp (discharger := omega) only [wR]; omega) | (simp only [lnS]; omega) | (simp (discharger := omega) [-List.getD_eq_getElem?_getD, wR] <;> omega) | skip
  all_goals first
    | (exfalso; omega)
    | skip
  refine EndP.mk [] ?_ <;> (repeat' first | trivial | rfl | exact eqS _ _ | apply andI | apply eqA | apply eqB | apply eqC | apply eqD | apply eqE | apply eqF | apply eqG | apply eqH | apply eqI)
def sm_Text : Sm := fun args σ => match args, σ with
  | [x], [] => some (isV x ∧ (decV x).ok ∧ (decV x).size ≤ 300000, .str (text (decV x)), none)
  | _, _ => none
theorem k_Text : SOK 19 sm_Text := by
  intro args sg pre x r he hp
  unfold sm_Text at he
  split at he <;> cases he
  exact (f_Text _ hp.2.1 hp.2.2).args (WkL.cons hp.1 WkL.nil)
theorem f_Plain (v : Val) (h1 : v.ok) (h2 : v.size ≤ 300000) : OK 303 [ev v] [] (ev (.mk 1 (text v) 0 0 [] [])) none := by
  refine FunOK.res (x := .agg [.int .u8 1, .str (text v), .int .i64 0, .int .u64 0, .list true 0 [], .list true 0 []]) ?_ (Wk.agg (WkL.cons (Wk.refl _) (WkL.cons (Wk.refl _) (WkL.cons (Wk.refl _) (WkL.cons (Wk.refl _) (WkL.cons (Wk.nil (.inl rfl)) (WkL.cons (Wk.nil (.inl rfl)) WkL.nil)))))))
  refine funOK_of_vc (C := cx [(19, sm_Text)]) (good ⟨k_Text, trivial⟩) (fn := Tryz.f303) rfl rfl rfl rfl fun _ _ => ?_
  repeat' ((conv => whnf); first | with_reducible (first | refine go1 (fun j q h => ?_) fun h => ?_ | refine go2 ⟨rfl, rfl⟩ (fun h => ?_) fun j h => ?_ | refine go2 ?_ (fun h => ?_) fun j h => ?_ | refine goQ ?_ (fun h => ?_) fun h => ?_) | apply go3 | apply go4 | apply go5 | ((first | apply go6 | apply go7 | apply go8 | apply go9 | apply goA) <;> intro h) | with_reducible (first | refine IdxK.mk _ rfl ?_ | refine idx_encL ?_ ?_ | refine idx_encM ?_ ?_ | refine goB ?_ fun hc => ?_ | refine goC ?_ fun hc => ?_ | refine goD ?_ fun hc => ?_ | refine goE ?_ fun hc => ?_ | apply goF | apply goG | refine goH ?_ fun b hb => ?_) | apply goI | apply goJ | apply goK | apply goL | apply goM | apply goN | apply goO | with_reducible refine goP ?_)
  all_goals try conv => whnf
  all_goals try (refine Side.mk ?_; try dsimp only)
  all_goals first | refine stay ?_ | ((refine And.intro (isV_ev _) ?_; simp only [decV_ev]; repeat' (refine And.intro ?_ ?_)); all_goals (first | assumption | omega); done) | ((refine And.intro (isM_enc _) ?_; simp only [decMv_enc]; repeat' (refine And.intro ?_ ?_)); all_goals (first | assumption | omega); done) | (exact isV_ev _) | (exact isM_enc _) | (exact isL_enc _) | trivial | omega | (simp (discharger := omega) only [wR]; omega) | (simp only [lnS]; omega) | (simp (discharger := omega) [-List.getD_eq_getElem?_getD, wR] <;> omega) | skip
  refine EndP.mk [] ?_ <;> (repeat' first | trivial | rfl | exact eqS _ _ | apply andI | apply eqA | apply eqB | apply eqC | apply eqD | apply eqE | apply eqF | apply eqG | apply eqH | apply eqI)
  rw [decV_ev]
def sm_Plain : Sm := fun args σ => match args, σ with
  | [x], [] => some (isV x ∧ (decV x).ok ∧ (decV x).size ≤ 300000, ev (.mk 1 (text (decV x)) 0 0 [] []), none)
  | _, _ => none
theorem k_Plain : SOK 303 sm_Plain := by
  intro args sg pre x r he hp
  unfold sm_Plain at he
  split at he <;> cases he
  exact (f_Plain _ hp.2.1 hp.2.2).args (WkL.cons hp.1 WkL.nil)
end Go.Proofs.YtafgmmfbhpbogaaGreatDoor
