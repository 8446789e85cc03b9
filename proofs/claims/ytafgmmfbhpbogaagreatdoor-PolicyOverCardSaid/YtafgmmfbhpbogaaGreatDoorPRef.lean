/-
  A value's JSON and text: the document's.
-/
import Derived.Test.YtafgmmfbhpbogaaGreatDoorPText2
set_option linter.unusedSimpArgs false
set_option linter.unusedVariables false
set_option maxHeartbeats 4000000
namespace Go.Proofs.YtafgmmfbhpbogaaGreatDoor
open Go Go.VG
set_option maxRecDepth 100000
theorem f_simple (v : Val) (h1 : v.ok) (h2 : v.size ≤ 300000) : OK 41 [ev v] [] (.str (simple v)) none := by
  refine funOK_of_vc (C := cx [(55, sm_R06Text), (57, sm_High), (56, sm_r04Text)]) (good ⟨k0_R06Text, k_High, k_r04Text, trivial⟩) (fn := Tryz.f41) rfl rfl rfl rfl fun hw _ => ?_
  have hb := wf_ev hw.1
  have hz := size_eq v
  have hbe := be_length 8 v.bits.toNat
  repeat' ((conv => whnf); first | with_reducible (first | refine go1 (fun j q h => ?_) fun h => ?_ | refine go2 ⟨rfl, rfl⟩ (fun h => ?_) fun j h => ?_ | refine go2 ?_ (fun h => ?_) fun j h => ?_ | refine goQ ?_ (fun h => ?_) fun h => ?_) | apply go3 | apply go4 | apply go5 | ((first | apply go6 | apply go7 | apply go8 | apply go9 | apply goA) <;> intro h) | with_reducible (first | refine IdxK.mk _ rfl ?_ | refine idx_encL ?_ ?_ | refine idx_encM ?_ ?_ | refine goB ?_ fun hc => ?_ | refine goC ?_ fun hc => ?_ | refine goD ?_ fun hc => ?_ | refine goE ?_ fun hc => ?_ | apply goF | apply goG | refine goH ?_ fun b hb => ?_) | apply goI | apply goJ | apply goK | apply goL | apply goM | apply goN | apply goO | with_reducible refine goP ?_)
  all_goals try conv => whnf
  all_goals try (refine Side.mk ?_; try dsimp only)
  all_goals first | refine stay ?_ | ((refine And.intro (isV_ev _) ?_; simp only [decV_ev]; repeat' (refine And.intro ?_ ?_)); all_goals (first | assumption | omega); done) | ((refine And.intro (isM_enc _) ?_; simp only [decMv_enc]; repeat' (refine And.intro ?_ ?_)); all_goals (first | assumption | omega); done) | (exact isV_ev _) | (exact isM_enc _) | (exact isL_enc _) | trivial | omega | (simp (discharger := omega) only [wR]; omega) | (simp only [lnS]; omega) | (simp (discharger := omega) [-List.getD_eq_getElem?_getD, wR] <;> omega) | skip
  all_goals first
    | (exfalso; omega)
    | (unfold simple truth
       repeat (first | rw [if_pos (by omega)] | rw [if_neg (by omega)])
       refine EndP.mk [] ?_ <;> (repeat' first | trivial | rfl | exact eqS _ _ | apply andI | apply eqA | apply eqB | apply eqC | apply eqD | apply eqE | apply eqF | apply eqG | apply eqH | apply eqI)
      )
def sm_simple : Sm := fun args σ => match args, σ with
  | [x], [] => some (isV x ∧ (decV x).ok ∧ (decV x).size ≤ 300000, .str (simple (decV x)), none)
  | _, _ => none
theorem k_simple : SOK 41 sm_simple := by
  intro args sg pre x r he hp
  unfold sm_simple at he
  split at he <;> cases he
  exact (f_simple _ hp.2.1 hp.2.2).args (WkL.cons hp.1 WkL.nil)
theorem f_comma (i : Int) : OK 54 [.int .i64 i] [] (.str (if i = 0 then [] else [44])) none := by
  refine funOK_of_vc (C := cx []) (good trivial) (fn := Tryz.f54) rfl rfl rfl rfl fun hw _ => ?_
  repeat' ((conv => whnf); first | with_reducible (first | refine go1 (fun j q h => ?_) fun h => ?_ | refine go2 ⟨rfl, rfl⟩ (fun h => ?_) fun j h => ?_ | refine go2 ?_ (fun h => ?_) fun j h => ?_ | refine goQ ?_ (fun h => ?_) fun h => ?_) | apply go3 | apply go4 | apply go5 | ((first | apply go6 | apply go7 | apply go8 | apply go9 | apply goA) <;> intro h) | with_reducible (first | refine IdxK.mk _ rfl ?_ | refine idx_encL ?_ ?_ | refine idx_encM ?_ ?_ | refine goB ?_ fun hc => ?_ | refine goC ?_ fun hc => ?_ | refine goD ?_ fun hc => ?_ | refine goE ?_ fun hc => ?_ | apply goF | apply goG | refine goH ?_ fun b hb => ?_) | apply goI | apply goJ | apply goK | apply goL | apply goM | apply goN | apply goO | with_reducible refine goP ?_)
  all_goals try conv => whnf
  all_goals try (refine Side.mk ?_; try dsimp only)
  all_goals first | refine stay ?_ | ((refine And.intro (isV_ev _) ?_; simp only [decV_ev]; repeat' (refine And.intro ?_ ?_)); all_goals (first | assumption | omega); done) | ((refine And.intro (isM_enc _) ?_; simp only [decMv_enc]; repeat' (refine And.intro ?_ ?_)); all_goals (first | assumption | omega); done) | (exact isV_ev _) | (exact isM_enc _) | (exact isL_enc _) | trivial | omega | (simp (discharger := omega) only [wR]; omega) | (simp only [lnS]; omega) | (simp (discharger := omega) [-List.getD_eq_getElem?_getD, wR] <;> omega) | skip
  · refine EndP.mk [] ?_ <;> (repeat' first | trivial | rfl | exact eqS _ _ | apply andI | apply eqA | apply eqB | apply eqC | apply eqD | apply eqE | apply eqF | apply eqG | apply eqH | apply eqI)
    rw [if_pos (by assumption)]
  · refine EndP.mk [] ?_ <;> (repeat' first | trivial | rfl | exact eqS _ _ | apply andI | apply eqA | apply eqB | apply eqC | apply eqD | apply eqE | apply eqF | apply eqG | apply eqH | apply eqI)
    rw [if_neg (by assumption)]
def sm_comma : Sm := fun args σ => match args, σ with
  | [.int .i64 q], [] => some (True, .str (if q = 0 then [] else [44]), none)
  | _, _ => none
theorem k_comma : SOK 54 sm_comma := by
  intro args sg pre x r he hp
  unfold sm_comma at he
  split at he <;> cases he
  exact f_comma _
def smRJSON (k : Nat) : Sm := fun args σ => match args, σ with
  | [x], [] => some (isV x ∧ (decV x).ok ∧ (decV x).nodes < k ∧ (decV x).size ≤ 300000, .str (json (decV x)), none)
  | _, _ => none
theorem smRJSON_ok {k : Nat} (h : ∀ v, v.ok → v.nodes < k → v.size ≤ 300000 → OK 40 [ev v] [] (.str (json v)) none) : SOK 40 (smRJSON k) := by
  intro args sg pre x r he hp
  unfold smRJSON at he
  split at he <;> cases he
  exact (h _ hp.2.1 hp.2.2.1 hp.2.2.2).args (WkL.cons hp.1 WkL.nil)
set_option maxHeartbeats 4000000 in
theorem f_RJSON {k : Nat} (ih : SOK 40 (smRJSON k)) (v : Val) (hok : v.ok) (hk : v.nodes < k + 1) (hs : v.size ≤ 300000) : OK 40 [ev v] [] (.str (json v)) none := by
  refine funOK_of_vc (C := cx [(41, sm_simple), (53, sm_r10Text), (54, sm_comma), (40, smRJSON k)]) (good ⟨k_simple, k_r10Text, k_comma, ih, trivial⟩) (fn := Tryz.f40) rfl rfl rfl rfl fun hw _ => ?_
  have hb := wf_ev hw.1
  have hz := size_eq v
  have hj := json_eq v
  have hlen := json_len v hok
  have e1 := encL_length v.list
  have e2 := encM_length v.map
  have hsl : (simple v).length ≤ 1000000 := by
    have a1 := truth_len v.num
    have a2 := decI_len hb.2.2.1.1 hb.2.2.1.2
    have a3 := dbl_len v.bits
    have a4 := hexText_length v.text
    unfold simple
    repeat' split
    all_goals (try simp only [List.length_nil]); all_goals omega
  repeat' ((conv => whnf); first | with_reducible (first | refine go1 (fun j q h => ?_) fun h => ?_ | refine go2 ⟨rfl, rfl⟩ (fun h => ?_) fun j h => ?_ | refine go2 ?_ (fun h => ?_) fun j h => ?_ | refine goQ ?_ (fun h => ?_) fun h => ?_) | apply go3 | apply go4 | apply go5 | ((first | apply go6 | apply go7 | apply go8 | apply go9 | apply goA) <;> intro h) | with_reducible (first | refine IdxK.mk _ rfl ?_ | refine idx_encL ?_ ?_ | refine idx_encM ?_ ?_ | refine goB ?_ fun hc => ?_ | refine goC ?_ fun hc => ?_ | refine goD ?_ fun hc => ?_ | refine goE ?_ fun hc => ?_ | apply goF | apply goG | refine goH ?_ fun b hb => ?_) | apply goI | apply goJ | apply goK | apply goL | apply goM | apply goN | apply goO | with_reducible refine goP ?_)
  all_goals try conv => whnf
  all_goals try (refine Side.mk ?_; try dsimp only)
  all_goals first | refine stay ?_ | ((refine And.intro (isV_ev _) ?_; simp only [decV_ev]; repeat' (refine And.intro ?_ ?_)); all_goals (first | assumption | omega); done) | ((refine And.intro (isM_enc _) ?_; simp only [decMv_enc]; repeat' (refine And.intro ?_ ?_)); all_goals (first | assumption | omega); done) | (exact isV_ev _) | (exact isM_enc _) | (exact isL_enc _) | trivial | omega | (simp (discharger := omega) only [wR]; omega) | (simp only [lnS]; omega) | (simp (discharger := omega) [-List.getD_eq_getElem?_getD, wR] <;> omega) | skip
  all_goals first
    | (exfalso; omega)
    | (rw [decV_ev]; omega)
    | (show EndP _ _ _ _ _ _
       rw [hj]
       repeat (first | rw [if_pos (by omega)] | rw [if_neg (by omega)])
       refine EndP.mk [] ?_ <;> (repeat' first | trivial | rfl | exact eqS _ _ | apply andI | apply eqA | apply eqB | apply eqC | apply eqD | apply eqE | apply eqF | apply eqG | apply eqH | apply eqI)
       rw [decV_ev]
       unfold simple
       repeat (first | rw [if_pos (by omega)] | rw [if_neg (by omega)])
       done
      )
    | (show EndP _ _ _ _ _ _
       rw [hj]
       repeat (first | rw [if_pos (by omega)] | rw [if_neg (by omega)])
       refine EndP.mk [] ?_ <;> (repeat' first | trivial | rfl | exact eqS _ _ | apply andI | apply eqA | apply eqB | apply eqC | apply eqD | apply eqE | apply eqF | apply eqG | apply eqH | apply eqI)
       done
      )
    | skip
  · have hj : json v = 91 :: (jsonL v.list ++ [93]) := by rw [hj]; repeat (first | rw [if_pos (by omega)] | rw [if_neg (by omega)])
    rw [hj] at hlen
    simp only [List.length_cons, List.length_append, List.length_nil] at hlen
    rw [hj]
    have hok' := (ok_eq hok).2.2.2.1
    refine LoopP.mk Nat (fun i => i ≤ v.list.length) (fun i => ⟨85, [(1, .ptr 0 0), (3, .str (jsonL (v.list.take i))), (4, .int .i64 i)], [.cells (cv v)], []⟩) (fun i => v.list.length - i) [] 0 (Nat.zero_le _) ?_ (fun i hi _ _ => ?_)
    · refine Go.VG.Sub.mk rfl ?_ ?_ ?_ ?_ <;> (repeat' first | trivial | rfl | exact eqS _ _ | apply andI | apply eqA | apply eqB | apply eqC | apply eqD | apply eqE | apply eqF | apply eqG | apply eqH | apply eqI)
    have hx : i < v.list.length → (jsonL (v.list.take i)).length + 120 * (v.list.getD i default).size ≤ 120 * sizeL v.list ∧ (v.list.getD i default).ok ∧ (v.list.getD i default).nodes < k ∧ (v.list.getD i default).size ≤ 300000 ∧ (json (v.list.getD i default)).length ≤ 120 * (v.list.getD i default).size := fun h => by
      have q1 := sizeL_take h
      have q2 := jsonL_len _ (okL_take hok' i)
      have q3 := nodes_eq v
      have q4 := nodesL_get h
      have q5 := json_len _ (okL_get hok' h)
      exact ⟨by omega, okL_get hok' h, by omega, by omega, by omega⟩
    have hc : (if (i : Int) = 0 then [] else [44] : List UInt8).length ≤ 1 := by split <;> simp
    repeat' ((conv => whnf); first | with_reducible (first | refine go1 (fun j q h => ?_) fun h => ?_ | refine go2 ⟨rfl, rfl⟩ (fun h => ?_) fun j h => ?_ | refine go2 ?_ (fun h => ?_) fun j h => ?_ | refine goQ ?_ (fun h => ?_) fun h => ?_) | apply go3 | apply go4 | apply go5 | ((first | apply go6 | apply go7 | apply go8 | apply go9 | apply goA) <;> intro h) | with_reducible (first | refine IdxK.mk _ rfl ?_ | refine idx_encL ?_ ?_ | refine idx_encM ?_ ?_ | refine goB ?_ fun hc => ?_ | refine goC ?_ fun hc => ?_ | refine goD ?_ fun hc => ?_ | refine goE ?_ fun hc => ?_ | apply goF | apply goG | refine goH ?_ fun b hb => ?_) | apply goI | apply goJ | apply goK | apply goL | apply goM | apply goN | apply goO | with_reducible refine goP ?_)
    all_goals try conv => whnf
    all_goals try (refine Side.mk ?_; try dsimp only)
    all_goals first | refine stay ?_ | ((refine And.intro (isV_ev _) ?_; simp only [decV_ev]; repeat' (refine And.intro ?_ ?_)); all_goals (first | assumption | omega); done) | ((refine And.intro (isM_enc _) ?_; simp only [decMv_enc]; repeat' (refine And.intro ?_ ?_)); all_goals (first | assumption | omega); done) | (exact isV_ev _) | (exact isM_enc _) | (exact isL_enc _) | trivial | omega | (simp (discharger := omega) only [wR]; omega) | (simp only [lnS]; omega) | (simp (discharger := omega) [-List.getD_eq_getElem?_getD, wR] <;> omega) | skip
    all_goals first
      | (have hlt : i < v.list.length := by omega
         obtain ⟨x1, x2, x3, x4, x5⟩ := hx hlt
         refine ⟨isV_ev _, ?_⟩
         rw [decV_ev]
         exact ⟨x2, x3, x4⟩)
      | (have hlt : i < v.list.length := by omega
         obtain ⟨x1, x2, x3, x4, x5⟩ := hx hlt
         try rw [decV_ev]
         simp only [List.length_append]; omega)
      | (refine ⟨[], i + 1, by omega, ?_, by omega⟩
         refine Go.VG.Sub.mk rfl ?_ ?_ ?_ ?_ <;> (repeat' first | trivial | rfl | exact eqS _ _ | apply andI | apply eqA | apply eqB | apply eqC | apply eqD | apply eqE | apply eqF | apply eqG | apply eqH | apply eqI)
         · rw [decV_ev, jsonL_next (by omega)]
           by_cases hi0 : i = 0
           · subst hi0; simp
           · rw [if_neg (by omega), if_neg hi0]; simp
         · (first | omega | (simp (discharger := omega) only [wR]; omega) | (simp only [lnS]; omega) | (simp (discharger := omega) [-List.getD_eq_getElem?_getD, wR] <;> omega))
        )
      | skip
    · rw [List.take_of_length_le (by omega)]
      simp only [List.length_append, List.length_cons, List.length_nil]; omega
    · rw [List.take_of_length_le (by omega)]
      simp only [List.length_append, List.length_cons, List.length_nil]; omega
    · refine EndP.mk [] ?_ <;> (repeat' first | trivial | rfl | exact eqS _ _ | apply andI | apply eqA | apply eqB | apply eqC | apply eqD | apply eqE | apply eqF | apply eqG | apply eqH | apply eqI)
      rw [List.take_of_length_le (by omega)]
      simp
  · have hj : json v = 123 :: (jsonM v.map ++ [125]) := by rw [hj]; repeat (first | rw [if_pos (by omega)] | rw [if_neg (by omega)])
    rw [hj] at hlen
    simp only [List.length_cons, List.length_append, List.length_nil] at hlen
    rw [hj]
    have hok' := (ok_eq hok).2.2.2.2
    refine LoopP.mk Nat (fun i => i ≤ v.map.length) (fun i => ⟨85, [(1, .ptr 0 0), (3, .str (jsonM (v.map.take i))), (5, .int .i64 i)], [.cells (cv v)], []⟩) (fun i => v.map.length - i) [] 0 (Nat.zero_le _) ?_ (fun i hi _ _ => ?_)
    · refine Go.VG.Sub.mk rfl ?_ ?_ ?_ ?_ <;> (repeat' first | trivial | rfl | exact eqS _ _ | apply andI | apply eqA | apply eqB | apply eqC | apply eqD | apply eqE | apply eqF | apply eqG | apply eqH | apply eqI)
    have hx : i < v.map.length → (jsonM (v.map.take i)).length + 120 * ((v.map.getD i default).key.length + (v.map.getD i default).value.size) ≤ 120 * sizeM v.map ∧ (v.map.getD i default).value.ok ∧ (v.map.getD i default).value.nodes < k ∧ (v.map.getD i default).value.size ≤ 300000 ∧
        (json (v.map.getD i default).value).length ≤ 120 * (v.map.getD i default).value.size ∧ (quote (v.map.getD i default).key).length ≤ 6 * (v.map.getD i default).key.length + 2 ∧ (v.map.getD i default).key.length ≤ 300000 := fun h => by
      have q1 := sizeM_take h
      have q2 := jsonM_len _ (okM_take hok' i)
      have q3 := nodes_eq v
      have q4 := nodesM_get h
      have q5 := json_len _ (okM_get hok' h)
      have q6 := quote_len (v.map.getD i default).key
      exact ⟨by omega, okM_get hok' h, by omega, by omega, by omega, by omega, by omega⟩
    have hc : (if (i : Int) = 0 then [] else [44] : List UInt8).length ≤ 1 := by split <;> simp
    repeat' ((conv => whnf); first | with_reducible (first | refine go1 (fun j q h => ?_) fun h => ?_ | refine go2 ⟨rfl, rfl⟩ (fun h => ?_) fun j h => ?_ | refine go2 ?_ (fun h => ?_) fun j h => ?_ | refine goQ ?_ (fun h => ?_) fun h => ?_) | apply go3 | apply go4 | apply go5 | ((first | apply go6 | apply go7 | apply go8 | apply go9 | apply goA) <;> intro h) | with_reducible (first | refine IdxK.mk _ rfl ?_ | refine idx_encL ?_ ?_ | refine idx_encM ?_ ?_ | refine goB ?_ fun hc => ?_ | refine goC ?_ fun hc => ?_ | refine goD ?_ fun hc => ?_ | refine goE ?_ fun hc => ?_ | apply goF | apply goG | refine goH ?_ fun b hb => ?_) | apply goI | apply goJ | apply goK | apply goL | apply goM | apply goN | apply goO | with_reducible refine goP ?_)
    all_goals try conv => whnf
    all_goals try (refine Side.mk ?_; try dsimp only)
    all_goals first | refine stay ?_ | ((refine And.intro (isV_ev _) ?_; simp only [decV_ev]; repeat' (refine And.intro ?_ ?_)); all_goals (first | assumption | omega); done) | ((refine And.intro (isM_enc _) ?_; simp only [decMv_enc]; repeat' (refine And.intro ?_ ?_)); all_goals (first | assumption | omega); done) | (exact isV_ev _) | (exact isM_enc _) | (exact isL_enc _) | trivial | omega | (simp (discharger := omega) only [wR]; omega) | (simp only [lnS]; omega) | (simp (discharger := omega) [-List.getD_eq_getElem?_getD, wR] <;> omega) | skip
    all_goals first
      | (have hlt : i < v.map.length := by omega
         obtain ⟨x1, x2, x3, x4, x5, x6, x7⟩ := hx hlt
         refine ⟨isV_ev _, ?_⟩
         rw [decV_ev]
         exact ⟨x2, x3, x4⟩)
      | (have hlt : i < v.map.length := by omega
         obtain ⟨x1, x2, x3, x4, x5, x6, x7⟩ := hx hlt
         try rw [decV_ev]
         simp only [List.length_append, List.length_cons, List.length_nil]; omega)
      | (refine ⟨[], i + 1, by omega, ?_, by omega⟩
         refine Go.VG.Sub.mk rfl ?_ ?_ ?_ ?_ <;> (repeat' first | trivial | rfl | exact eqS _ _ | apply andI | apply eqA | apply eqB | apply eqC | apply eqD | apply eqE | apply eqF | apply eqG | apply eqH | apply eqI)
         · rw [decV_ev, jsonM_next (by omega), jsonA_eq]
           by_cases hi0 : i = 0
           · subst hi0; simp
           · rw [if_neg (by omega), if_neg hi0]; simp
         · (first | omega | (simp (discharger := omega) only [wR]; omega) | (simp only [lnS]; omega) | (simp (discharger := omega) [-List.getD_eq_getElem?_getD, wR] <;> omega))
        )
      | skip
    · rw [List.take_of_length_le (by omega)]
      simp only [List.length_append, List.length_cons, List.length_nil]; omega
    · rw [List.take_of_length_le (by omega)]
      simp only [List.length_append, List.length_cons, List.length_nil]; omega
    · refine EndP.mk [] ?_ <;> (repeat' first | trivial | rfl | exact eqS _ _ | apply andI | apply eqA | apply eqB | apply eqC | apply eqD | apply eqE | apply eqF | apply eqG | apply eqH | apply eqI)
      rw [List.take_of_length_le (by omega)]
      simp
  · have hj : json v = simple v := by
      rw [hj]
      unfold simple
      by_cases h2 : v.kind = 2
      · repeat (first | rw [if_pos (by omega)] | rw [if_neg (by omega)])
      · by_cases h3 : v.kind = 3
        · repeat (first | rw [if_pos (by omega)] | rw [if_neg (by omega)])
        · repeat (first | rw [if_pos (by omega)] | rw [if_neg (by omega)])
    rw [hj]
    refine EndP.mk [] ?_ <;> (repeat' first | trivial | rfl | exact eqS _ _ | apply andI | apply eqA | apply eqB | apply eqC | apply eqD | apply eqE | apply eqF | apply eqG | apply eqH | apply eqI)
    all_goals rw [decV_ev]
theorem RJSON_all : ∀ k : Nat, SOK 40 (smRJSON k)
  | 0 => smRJSON_ok fun _ _ h => by omega
  | k + 1 => smRJSON_ok fun v h1 h2 h3 => f_RJSON (RJSON_all k) v h1 h2 h3
def sm_RJSON : Sm := fun args σ => match args, σ with
  | [x], [] => some (isV x ∧ (decV x).ok ∧ (decV x).size ≤ 300000, .str (json (decV x)), none)
  | _, _ => none
theorem k_RJSON : SOK 40 sm_RJSON := by
  intro args sg pre x r he hp
  unfold sm_RJSON at he
  split at he <;> cases he
  rename_i y
  exact (RJSON_all ((decV y).nodes + 1)) [y] [] _ _ _ rfl ⟨hp.1, hp.2.1, Nat.lt_succ_self _, hp.2.2⟩
theorem f_RText (v : Val) (h1 : v.ok) (h2 : v.size ≤ 300000) : OK 31 [ev v] [] (.str (text v)) none := by
  refine funOK_of_vc (C := cx [(41, sm_simple), (40, sm_RJSON)]) (good ⟨k_simple, k_RJSON, trivial⟩) (fn := Tryz.f31) rfl rfl rfl rfl fun hw _ => ?_
  repeat' ((conv => whnf); first | with_reducible (first | refine go1 (fun j q h => ?_) fun h => ?_ | refine go2 ⟨rfl, rfl⟩ (fun h => ?_) fun j h => ?_ | refine go2 ?_ (fun h => ?_) fun j h => ?_ | refine goQ ?_ (fun h => ?_) fun h => ?_) | apply go3 | apply go4 | apply go5 | ((first | apply go6 | apply go7 | apply go8 | apply go9 | apply goA) <;> intro h) | with_reducible (first | refine IdxK.mk _ rfl ?_ | refine idx_encL ?_ ?_ | refine idx_encM ?_ ?_ | refine goB ?_ fun hc => ?_ | refine goC ?_ fun hc => ?_ | refine goD ?_ fun hc => ?_ | refine goE ?_ fun hc => ?_ | apply goF | apply goG | refine goH ?_ fun b hb => ?_) | apply goI | apply goJ | apply goK | apply goL | apply goM | apply goN | apply goO | with_reducible refine goP ?_)
  all_goals try conv => whnf
  all_goals try (refine Side.mk ?_; try dsimp only)
  all_goals first | refine stay ?_ | ((refine And.intro (isV_ev _) ?_; simp only [decV_ev]; repeat' (refine And.intro ?_ ?_)); all_goals (first | assumption | omega); done) | ((refine And.intro (isM_enc _) ?_; simp only [decMv_enc]; repeat' (refine And.intro ?_ ?_)); all_goals (first | assumption | omega); done) | (exact isV_ev _) | (exact isM_enc _) | (exact isL_enc _) | trivial | omega | (simp (discharger := omega) only [wR]; omega) | (simp only [lnS]; omega) | (simp (discharger := omega) [-List.getD_eq_getElem?_getD, wR] <;> omega) | skip
  all_goals
    unfold text
    first
    | rw [if_pos (by omega)]
    | rw [if_neg (by omega)]
    refine EndP.mk [] ?_ <;> (repeat' first | trivial | rfl | exact eqS _ _ | apply andI | apply eqA | apply eqB | apply eqC | apply eqD | apply eqE | apply eqF | apply eqG | apply eqH | apply eqI)
    all_goals rw [decV_ev]
def sm_RText : Sm := fun args σ => match args, σ with
  | [x], [] => some (isV x ∧ (decV x).ok ∧ (decV x).size ≤ 300000, .str (text (decV x)), none)
  | _, _ => none
theorem k_RText : SOK 31 sm_RText := by
  intro args sg pre x r he hp
  unfold sm_RText at he
  split at he <;> cases he
  exact (f_RText _ hp.2.1 hp.2.2).args (WkL.cons hp.1 WkL.nil)
end Go.Proofs.YtafgmmfbhpbogaaGreatDoor
