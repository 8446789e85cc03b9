/-
  Messages of Protobuf: what the document says of fields together.
-/
import Derived.Test.YtbeejnmeakcpjaaDoorPQb
set_option linter.unusedSimpArgs false
set_option linter.unusedVariables false
set_option maxHeartbeats 4000000
namespace Go.Proofs.YtbeejnmeakcpjaaDoor
open Go Go.VG
set_option maxRecDepth 100000
theorem lastF_getD (l : List Pf) : l.getD (l.length - 1) default = lastF l := by
  unfold lastF
  rw [List.getLastD_eq_getLast?, List.getLast?_eq_getElem?, List.getD_eq_getElem?_getD]
theorem anyF_len (l : List Pf) : anyF l = decide (l.length ≠ 0) := by
  cases l <;> simp [anyF]
theorem anyF_len0 {l : List Pf} (h : (l.length : Int) = 0) : anyF l = false ∧ lastF l = default ∧ joinT l = [] := by
  obtain rfl : l = [] := List.eq_nil_of_length_eq_zero (by omega)
  exact ⟨rfl, rfl, rfl⟩
theorem isF_yes {n w : Int} {f : Pf} (h : f.no = n) (k : f.wi = w) : isF n w f = true := by simp [isF, h, k]
theorem isF_no1 {n w : Int} {f : Pf} (h : ¬ f.no = n) : ¬ isF n w f = true := by simp [isF, h]
theorem isF_no2 {n w : Int} {f : Pf} (h : ¬ f.wi = w) : ¬ isF n w f = true := by simp [isF, h]
theorem anyF_len1 {l : List Pf} (h : ¬ (l.length : Int) = 0) : anyF l = true := by
  rw [anyF_len]; exact decide_eq_true (by omega)
theorem f_r18Of_1 (l : List V) (n w : Int) (hp : (∃ a : List Pf, l = a.map ePf) ∧ l.length ≤ 1000000) : OK 46 ([.buf 0, .int .i64 n, .int .i64 w]) ([.buf 4 0 l]) (.buf 1) (some [.buf 4 0 l, .buf 4 0 ((selF (isF n w) (l.map dePf)).map ePf), .dead]) := by
  refine funOK_of_vc (C := cx []) (good trivial) (fn := Tryd.f46) rfl rfl rfl rfl fun hw hs => ?_
  obtain ⟨⟨a, rfl⟩, hl⟩ := hp
  simp only [dePf_map]
  have hml : (a.map ePf).length = a.length := List.length_map ..
  repeat' (
      conv => whnf
      first
      | with_reducible refine optB_i (fun j q h => ?_) (fun h => ?_)
      | with_reducible refine nextM_i ⟨rfl, rfl⟩ (fun h => ?_) (fun j h => ?_)
      | with_reducible refine nextM_i ?_ (fun h => ?_) (fun j h => ?_)
      | refine req_i ?_ ?_
      | refine when_i ?_ ?_
      | refine brn_not ?_
      | refine brn_dec (fun h => ?_) (fun h => ?_)
      | refine brn_int (fun h => ?_) (fun h => ?_)
      | refine brn_intne (fun h => ?_) (fun h => ?_)
      | refine brn_str (fun h => ?_) (fun h => ?_)
      | refine brn_i (fun h => ?_) (fun h => ?_)
      | with_reducible refine IdxK.mk _ rfl ?_
      | with_reducible refine idx_blI ?_ (fun hc => ?_)
      | with_reducible refine idx_bl ?_ (fun hc => ?_)
      | with_reducible refine idx_strI ?_ (fun hc => ?_)
      | with_reducible refine idx_str ?_ (fun hc => ?_)
      | with_reducible refine idx_mapDI ?_ ?_
      | with_reducible refine idx_mapD ?_ ?_
      | with_reducible refine idx_at ?_ (fun b hb => ?_)
      | refine ex_bl ?_
      | refine ex_b1 ?_ ?_
      | refine ex_b2 ?_ ?_ ?_
      | refine ex_b3 ?_ ?_ ?_ ?_
      | refine ex_b4 ?_ ?_ ?_ ?_ ?_
      | refine optK_setL ?_ ?_
      | refine optK_takeL ?_ ?_
      | with_reducible refine forceDs_i ?_
      )
  all_goals try (conv => whnf)
  all_goals try (refine Side.mk ?_; try dsimp only)
  refine LoopP.mk Nat (fun i => i ≤ a.length) (fun i => ⟨39, [(0, .buf 0), (1, .int .i64 n), (2, .int .i64 w), (7, .buf 1), (8, .int .i64 i)], [.buf 4 0 (a.map ePf), .buf 4 0 ((selF (isF n w) (a.take i)).map ePf)], [1]⟩) (fun i => a.length - i) [.tm 7 4] 0 (Nat.zero_le _) ?_ (fun i hi _ _ => ?_)
  · refine Go.VG.Sub.mk rfl ?_ ?_ ?_ ?_ <;> (repeat' (first | trivial | rfl | exact scopedL_bl _ _ | refine And.intro ?_ ?_ | refine congrArg V.str ?_ | refine congrArg (V.int _) ?_ | refine congrArg V.bool ?_ | refine congrArg (O.buf _ _) ?_ | refine congrArg O.cells ?_ | refine congrArg (V.list _ _) ?_ | refine congrArg V.agg ?_ | refine congrArg V.tuple ?_ | refine cons_eq ?_ ?_))
  have hst := fun h => sel_step (isF n w) (a := a) (i := i) h
  have hsl : ((selF (isF n w) (a.take i)).map ePf).length ≤ a.length := by
    rw [List.length_map]; exact Nat.le_trans (List.length_filter_le ..) (by rw [List.length_take]; exact Nat.min_le_right _ _)
  repeat' (
      conv => whnf
      first
      | with_reducible refine optB_i (fun j q h => ?_) (fun h => ?_)
      | with_reducible refine nextM_i ⟨rfl, rfl⟩ (fun h => ?_) (fun j h => ?_)
      | with_reducible refine nextM_i ?_ (fun h => ?_) (fun j h => ?_)
      | refine req_i ?_ ?_
      | refine when_i ?_ ?_
      | refine brn_not ?_
      | refine brn_dec (fun h => ?_) (fun h => ?_)
      | refine brn_int (fun h => ?_) (fun h => ?_)
      | refine brn_intne (fun h => ?_) (fun h => ?_)
      | refine brn_str (fun h => ?_) (fun h => ?_)
      | refine brn_i (fun h => ?_) (fun h => ?_)
      | with_reducible refine IdxK.mk _ rfl ?_
      | with_reducible refine idx_blI ?_ (fun hc => ?_)
      | with_reducible refine idx_bl ?_ (fun hc => ?_)
      | with_reducible refine idx_strI ?_ (fun hc => ?_)
      | with_reducible refine idx_str ?_ (fun hc => ?_)
      | with_reducible refine idx_mapDI ?_ ?_
      | with_reducible refine idx_mapD ?_ ?_
      | with_reducible refine idx_at ?_ (fun b hb => ?_)
      | refine ex_bl ?_
      | refine ex_b1 ?_ ?_
      | refine ex_b2 ?_ ?_ ?_
      | refine ex_b3 ?_ ?_ ?_ ?_
      | refine ex_b4 ?_ ?_ ?_ ?_ ?_
      | refine optK_setL ?_ ?_
      | refine optK_takeL ?_ ?_
      | with_reducible refine forceDs_i ?_
      )
  all_goals try (conv => whnf)
  all_goals try (refine Side.mk ?_; try dsimp only)
  all_goals (try simp only [Cu_eta] at *)
  all_goals first
    | (show LoopP _ _ _ _; skip)
    | (show GotoP _ _ _ _ _; skip)
    | (show EndP _ _ _ _ _ _; skip)
    | (show ∃ _, _; skip)
    | (first
          | trivial
          | omega
          | (simp (discharger := omega) only [wu8, wu16, wu32, wu64, wi32, wi64, Int.tdiv_eq_ediv_of_nonneg, Int.tmod_eq_emod_of_nonneg]; omega)
          | (simp only [List.length_append, List.length_cons, List.length_nil, bl_length, List.length_take, List.length_drop]; omega)
          | (simp (discharger := omega) [-List.getD_eq_getElem?_getD, wu8, wu16, wu32, wu64, wi32, wi64, Int.tdiv_eq_ediv_of_nonneg, Int.tmod_eq_emod_of_nonneg]; done)
          | (simp (discharger := omega) [-List.getD_eq_getElem?_getD, wu8, wu16, wu32, wu64, wi32, wi64, Int.tdiv_eq_ediv_of_nonneg, Int.tmod_eq_emod_of_nonneg]; omega))
    | skip
  all_goals first
    | (show EndP _ _ _ _ _ _
       obtain rfl : i = a.length := by omega
       simp only [List.take_length]
       refine EndP.mk [.nw] ?_ <;> (repeat' (first | trivial | rfl | exact scopedL_bl _ _ | refine And.intro ?_ ?_ | refine congrArg V.str ?_ | refine congrArg (V.int _) ?_ | refine congrArg V.bool ?_ | refine congrArg (O.buf _ _) ?_ | refine congrArg O.cells ?_ | refine congrArg (V.list _ _) ?_ | refine congrArg V.agg ?_ | refine congrArg V.tuple ?_ | refine cons_eq ?_ ?_))
       done)
    | (have hst := hst (by omega)
       first
       | rw [if_pos (isF_yes (by assumption) (by assumption))] at hst
       | rw [if_neg (isF_no1 (by assumption))] at hst
       | rw [if_neg (isF_no2 (by assumption))] at hst
       refine ⟨[], i + 1, by omega, ?_, by omega⟩
       refine Go.VG.Sub.mk rfl ?_ ?_ ?_ ?_ <;> (repeat' (first | trivial | rfl | exact scopedL_bl _ _ | refine And.intro ?_ ?_ | refine congrArg V.str ?_ | refine congrArg (V.int _) ?_ | refine congrArg V.bool ?_ | refine congrArg (O.buf _ _) ?_ | refine congrArg O.cells ?_ | refine congrArg (V.list _ _) ?_ | refine congrArg V.agg ?_ | refine congrArg V.tuple ?_ | refine cons_eq ?_ ?_))
       all_goals (first
         | ((first | omega | (simp (discharger := omega) only [wu8, wu16, wu32, wu64, wi32, wi64, Int.tdiv_eq_ediv_of_nonneg, Int.tmod_eq_emod_of_nonneg]; omega) | (simp only [List.length_append, List.length_cons, List.length_nil, bl_length, List.length_take, List.length_drop]; omega) | (simp (discharger := omega) [-List.getD_eq_getElem?_getD, wu8, wu16, wu32, wu64, wi32, wi64, Int.tdiv_eq_ediv_of_nonneg, Int.tmod_eq_emod_of_nonneg]; done) | (simp (discharger := omega) [-List.getD_eq_getElem?_getD, wu8, wu16, wu32, wu64, wi32, wi64, Int.tdiv_eq_ediv_of_nonneg, Int.tmod_eq_emod_of_nonneg]; omega)); done)
         | (rw [hst]; done)
         | (rw [hst, List.map_append]; rfl))
       done)
def sm_r18Of : Sm := fun args σ => match args, σ with
  | [.buf 0, .int .i64 n, .int .i64 w], [.buf 4 0 l] => some ((∃ a : List Pf, l = a.map ePf) ∧ l.length ≤ 1000000, .buf 1, some [.buf 4 0 l, .buf 4 0 ((selF (isF n w) (l.map dePf)).map ePf), .dead])
  | _, _ => none
theorem k_r18Of : SOK 46 sm_r18Of := by
  intro args sg pre x r he hp
  unfold sm_r18Of at he
  split at he <;> cases he
  · exact f_r18Of_1 (hp := hp) ..
theorem f_r18Num_1 (l : List V) (n w : Int) (hp : (∃ a : List Pf, l = a.map ePf) ∧ l.length ≤ 1000000) : OK 14 ([.buf 0, .int .i64 n, .int .i64 w]) ([.buf 4 0 l]) (.tuple [.int .u64 (if w = 2 then 0 else (lastF (selF (isF n w) (l.map dePf))).num), .bool (decide (w ≠ 2) && anyF (selF (isF n w) (l.map dePf)))]) (none) := by
  refine funOK_of_vc (C := cx [(46, sm_r18Of)]) (good ⟨k_r18Of, trivial⟩) (fn := Tryd.f14) rfl rfl rfl rfl fun hw hs => ?_
  obtain ⟨⟨a, rfl⟩, hl⟩ := hp
  simp only [dePf_map]
  have hml : (a.map ePf).length = a.length := List.length_map ..
  have hs1 : (selF (isF n w) a).length ≤ a.length := List.length_filter_le ..
  have e0 := @anyF_len0 (selF (isF n w) a)
  have e1 := @anyF_len1 (selF (isF n w) a)
  have e2 := lastF_getD (selF (isF n w) a)
  have hwl : ¬ ((selF (isF n w) a).length : Int) = 0 → IntKind.i64.wrap ((selF (isF n w) a).length - 1) = ((selF (isF n w) a).length - 1 : Nat) := fun h => by rw [wi_i (by omega)]; omega
  repeat' (
      conv => whnf
      first
      | with_reducible refine optB_i (fun j q h => ?_) (fun h => ?_)
      | with_reducible refine nextM_i ⟨rfl, rfl⟩ (fun h => ?_) (fun j h => ?_)
      | with_reducible refine nextM_i ?_ (fun h => ?_) (fun j h => ?_)
      | refine req_i ?_ ?_
      | refine when_i ?_ ?_
      | refine brn_not ?_
      | refine brn_dec (fun h => ?_) (fun h => ?_)
      | refine brn_int (fun h => ?_) (fun h => ?_)
      | refine brn_intne (fun h => ?_) (fun h => ?_)
      | refine brn_str (fun h => ?_) (fun h => ?_)
      | refine brn_i (fun h => ?_) (fun h => ?_)
      | with_reducible refine IdxK.mk _ rfl ?_
      | with_reducible refine idx_blI ?_ (fun hc => ?_)
      | with_reducible refine idx_bl ?_ (fun hc => ?_)
      | with_reducible refine idx_strI ?_ (fun hc => ?_)
      | with_reducible refine idx_str ?_ (fun hc => ?_)
      | with_reducible refine idx_mapDI ?_ ?_
      | with_reducible refine idx_mapD ?_ ?_
      | with_reducible refine idx_at ?_ (fun b hb => ?_)
      | refine ex_bl ?_
      | refine ex_b1 ?_ ?_
      | refine ex_b2 ?_ ?_ ?_
      | refine ex_b3 ?_ ?_ ?_ ?_
      | refine ex_b4 ?_ ?_ ?_ ?_ ?_
      | refine optK_setL ?_ ?_
      | refine optK_takeL ?_ ?_
      | with_reducible refine forceDs_i ?_
      )
  all_goals try (conv => whnf)
  all_goals try (refine Side.mk ?_; try dsimp only)
  all_goals (try simp only [List.length_map, dePf_map] at *)
  all_goals first
    | exact ⟨⟨_, rfl⟩, by omega⟩
    | (have h0 := e0 (by assumption)
       (try rw [if_neg (by assumption)])
       rw [h0.1, h0.2.1]
       (try rw [Bool.and_false])
       refine EndP.mk [] ?_ <;> (repeat' (first | trivial | rfl | exact scopedL_bl _ _ | refine And.intro ?_ ?_ | refine congrArg V.str ?_ | refine congrArg (V.int _) ?_ | refine congrArg V.bool ?_ | refine congrArg (O.buf _ _) ?_ | refine congrArg O.cells ?_ | refine congrArg (V.list _ _) ?_ | refine congrArg V.agg ?_ | refine congrArg V.tuple ?_ | refine cons_eq ?_ ?_))
       done)
    | (have h1 := hwl (by assumption)
       rw [h1]
       omega)
    | (rw [if_pos (by assumption), decide_eq_false (fun q => q (by assumption))]
       refine EndP.mk [] ?_ <;> (repeat' (first | trivial | rfl | exact scopedL_bl _ _ | refine And.intro ?_ ?_ | refine congrArg V.str ?_ | refine congrArg (V.int _) ?_ | refine congrArg V.bool ?_ | refine congrArg (O.buf _ _) ?_ | refine congrArg O.cells ?_ | refine congrArg (V.list _ _) ?_ | refine congrArg V.agg ?_ | refine congrArg V.tuple ?_ | refine cons_eq ?_ ?_))
       done)
    | ((try rw [if_neg (by assumption)])
       (try rw [decide_eq_true (by assumption), Bool.true_and])
       rw [e1 (by assumption), ← e2]
       have h1 := hwl (by assumption)
       refine EndP.mk [] ?_ <;> (repeat' (first | trivial | rfl | exact scopedL_bl _ _ | refine And.intro ?_ ?_ | refine congrArg V.str ?_ | refine congrArg (V.int _) ?_ | refine congrArg V.bool ?_ | refine congrArg (O.buf _ _) ?_ | refine congrArg O.cells ?_ | refine congrArg (V.list _ _) ?_ | refine congrArg V.agg ?_ | refine congrArg V.tuple ?_ | refine cons_eq ?_ ?_))
       all_goals (rw [h1, Int.toNat_natCast])
       done)
def sm_r18Num : Sm := fun args σ => match args, σ with
  | [.buf 0, .int .i64 n, .int .i64 w], [.buf 4 0 l] => some ((∃ a : List Pf, l = a.map ePf) ∧ l.length ≤ 1000000, .tuple [.int .u64 (if w = 2 then 0 else (lastF (selF (isF n w) (l.map dePf))).num), .bool (decide (w ≠ 2) && anyF (selF (isF n w) (l.map dePf)))], none)
  | _, _ => none
theorem k_r18Num : SOK 14 sm_r18Num := by
  intro args sg pre x r he hp
  unfold sm_r18Num at he
  split at he <;> cases he
  · exact f_r18Num_1 (hp := hp) ..
theorem f_r18Text_1 (l : List V) (n : Int) (hp : (∃ a : List Pf, l = a.map ePf) ∧ l.length ≤ 1000000) : OK 16 ([.buf 0, .int .i64 n]) ([.buf 4 0 l]) (.tuple [.str (lastF (selF (isF n 2) (l.map dePf))).text, .bool (anyF (selF (isF n 2) (l.map dePf)))]) (none) := by
  refine funOK_of_vc (C := cx [(46, sm_r18Of)]) (good ⟨k_r18Of, trivial⟩) (fn := Tryd.f16) rfl rfl rfl rfl fun hw hs => ?_
  obtain ⟨⟨a, rfl⟩, hl⟩ := hp
  simp only [dePf_map]
  have hml : (a.map ePf).length = a.length := List.length_map ..
  have hs1 : (selF (isF n 2) a).length ≤ a.length := List.length_filter_le ..
  have e0 := @anyF_len0 (selF (isF n 2) a)
  have e1 := @anyF_len1 (selF (isF n 2) a)
  have e2 := lastF_getD (selF (isF n 2) a)
  have hwl : ¬ ((selF (isF n 2) a).length : Int) = 0 → IntKind.i64.wrap ((selF (isF n 2) a).length - 1) = ((selF (isF n 2) a).length - 1 : Nat) := fun h => by rw [wi_i (by omega)]; omega
  repeat' (
      conv => whnf
      first
      | with_reducible refine optB_i (fun j q h => ?_) (fun h => ?_)
      | with_reducible refine nextM_i ⟨rfl, rfl⟩ (fun h => ?_) (fun j h => ?_)
      | with_reducible refine nextM_i ?_ (fun h => ?_) (fun j h => ?_)
      | refine req_i ?_ ?_
      | refine when_i ?_ ?_
      | refine brn_not ?_
      | refine brn_dec (fun h => ?_) (fun h => ?_)
      | refine brn_int (fun h => ?_) (fun h => ?_)
      | refine brn_intne (fun h => ?_) (fun h => ?_)
      | refine brn_str (fun h => ?_) (fun h => ?_)
      | refine brn_i (fun h => ?_) (fun h => ?_)
      | with_reducible refine IdxK.mk _ rfl ?_
      | with_reducible refine idx_blI ?_ (fun hc => ?_)
      | with_reducible refine idx_bl ?_ (fun hc => ?_)
      | with_reducible refine idx_strI ?_ (fun hc => ?_)
      | with_reducible refine idx_str ?_ (fun hc => ?_)
      | with_reducible refine idx_mapDI ?_ ?_
      | with_reducible refine idx_mapD ?_ ?_
      | with_reducible refine idx_at ?_ (fun b hb => ?_)
      | refine ex_bl ?_
      | refine ex_b1 ?_ ?_
      | refine ex_b2 ?_ ?_ ?_
      | refine ex_b3 ?_ ?_ ?_ ?_
      | refine ex_b4 ?_ ?_ ?_ ?_ ?_
      | refine optK_setL ?_ ?_
      | refine optK_takeL ?_ ?_
      | with_reducible refine forceDs_i ?_
      )
  all_goals try (conv => whnf)
  all_goals try (refine Side.mk ?_; try dsimp only)
  all_goals (try simp only [List.length_map, dePf_map] at *)
  all_goals first
    | exact ⟨⟨_, rfl⟩, by omega⟩
    | (have h0 := e0 (by assumption)
       (try rw [if_neg (by assumption)])
       rw [h0.1, h0.2.1]
       (try rw [Bool.and_false])
       refine EndP.mk [] ?_ <;> (repeat' (first | trivial | rfl | exact scopedL_bl _ _ | refine And.intro ?_ ?_ | refine congrArg V.str ?_ | refine congrArg (V.int _) ?_ | refine congrArg V.bool ?_ | refine congrArg (O.buf _ _) ?_ | refine congrArg O.cells ?_ | refine congrArg (V.list _ _) ?_ | refine congrArg V.agg ?_ | refine congrArg V.tuple ?_ | refine cons_eq ?_ ?_))
       done)
    | (rw [hwl (by assumption)]; omega)
    | (rw [if_pos (by assumption), decide_eq_false (fun q => q (by assumption))]
       refine EndP.mk [] ?_ <;> (repeat' (first | trivial | rfl | exact scopedL_bl _ _ | refine And.intro ?_ ?_ | refine congrArg V.str ?_ | refine congrArg (V.int _) ?_ | refine congrArg V.bool ?_ | refine congrArg (O.buf _ _) ?_ | refine congrArg O.cells ?_ | refine congrArg (V.list _ _) ?_ | refine congrArg V.agg ?_ | refine congrArg V.tuple ?_ | refine cons_eq ?_ ?_))
       done)
    | ((try rw [if_neg (by assumption)])
       (try rw [decide_eq_true (by assumption), Bool.true_and])
       rw [e1 (by assumption), ← e2]
       have h1 := hwl (by assumption)
       refine EndP.mk [] ?_ <;> (repeat' (first | trivial | rfl | exact scopedL_bl _ _ | refine And.intro ?_ ?_ | refine congrArg V.str ?_ | refine congrArg (V.int _) ?_ | refine congrArg V.bool ?_ | refine congrArg (O.buf _ _) ?_ | refine congrArg O.cells ?_ | refine congrArg (V.list _ _) ?_ | refine congrArg V.agg ?_ | refine congrArg V.tuple ?_ | refine cons_eq ?_ ?_))
       all_goals (rw [h1, Int.toNat_natCast])
       done)
def sm_r18Text : Sm := fun args σ => match args, σ with
  | [.buf 0, .int .i64 n], [.buf 4 0 l] => some ((∃ a : List Pf, l = a.map ePf) ∧ l.length ≤ 1000000, .tuple [.str (lastF (selF (isF n 2) (l.map dePf))).text, .bool (anyF (selF (isF n 2) (l.map dePf)))], none)
  | _, _ => none
theorem k_r18Text : SOK 16 sm_r18Text := by
  intro args sg pre x r he hp
  unfold sm_r18Text at he
  split at he <;> cases he
  · exact f_r18Text_1 (hp := hp) ..
theorem f_r18Each_1 (l : List V) (n : Int) (hp : (∃ a : List Pf, l = a.map ePf) ∧ l.length ≤ 1000000) : OK 21 ([.buf 0, .int .i64 n]) ([.buf 4 0 l]) (.buf 1) (some [.buf 4 0 l, .buf 1 0 (textsF (selF (isF n 2) (l.map dePf))), .dead]) := by
  refine funOK_of_vc (C := cx [(46, sm_r18Of)]) (good ⟨k_r18Of, trivial⟩) (fn := Tryd.f21) rfl rfl rfl rfl fun hw hs => ?_
  obtain ⟨⟨a, rfl⟩, hl⟩ := hp
  simp only [dePf_map]
  have hml : (a.map ePf).length = a.length := List.length_map ..
  have hs1 : (selF (isF n 2) a).length ≤ a.length := List.length_filter_le ..
  have hti : ∀ i, (textsF ((selF (isF n 2) a).take i)).length ≤ a.length := fun i => by
    unfold textsF; rw [List.length_map, List.length_take]; exact Nat.le_trans (Nat.min_le_right _ _) hs1
  have hts : ∀ i, i < (selF (isF n 2) a).length → textsF ((selF (isF n 2) a).take (i + 1)) = textsF ((selF (isF n 2) a).take i) ++ [.str ((selF (isF n 2) a).getD i default).text] := fun i h => by
    rw [List.take_add_one, List.getD_eq_getElem?_getD, List.getElem?_eq_getElem h]
    unfold textsF
    rw [List.map_append]; rfl
  repeat' (
      conv => whnf
      first
      | with_reducible refine optB_i (fun j q h => ?_) (fun h => ?_)
      | with_reducible refine nextM_i ⟨rfl, rfl⟩ (fun h => ?_) (fun j h => ?_)
      | with_reducible refine nextM_i ?_ (fun h => ?_) (fun j h => ?_)
      | refine req_i ?_ ?_
      | refine when_i ?_ ?_
      | refine brn_not ?_
      | refine brn_dec (fun h => ?_) (fun h => ?_)
      | refine brn_int (fun h => ?_) (fun h => ?_)
      | refine brn_intne (fun h => ?_) (fun h => ?_)
      | refine brn_str (fun h => ?_) (fun h => ?_)
      | refine brn_i (fun h => ?_) (fun h => ?_)
      | with_reducible refine IdxK.mk _ rfl ?_
      | with_reducible refine idx_blI ?_ (fun hc => ?_)
      | with_reducible refine idx_bl ?_ (fun hc => ?_)
      | with_reducible refine idx_strI ?_ (fun hc => ?_)
      | with_reducible refine idx_str ?_ (fun hc => ?_)
      | with_reducible refine idx_mapDI ?_ ?_
      | with_reducible refine idx_mapD ?_ ?_
      | with_reducible refine idx_at ?_ (fun b hb => ?_)
      | refine ex_bl ?_
      | refine ex_b1 ?_ ?_
      | refine ex_b2 ?_ ?_ ?_
      | refine ex_b3 ?_ ?_ ?_ ?_
      | refine ex_b4 ?_ ?_ ?_ ?_ ?_
      | refine optK_setL ?_ ?_
      | refine optK_takeL ?_ ?_
      | with_reducible refine forceDs_i ?_
      )
  all_goals try (conv => whnf)
  all_goals try (refine Side.mk ?_; try dsimp only)
  · exact ⟨⟨_, rfl⟩, by omega⟩
  simp only [dePf_map]
  generalize selF (isF n 2) a = b at *
  have hmb : (b.map ePf).length = b.length := List.length_map ..
  refine LoopP.mk Nat (fun i => i ≤ b.length) (fun i => ⟨26, [(5, .buf 1), (6, .buf 2), (7, .int .i64 i)], [.buf 4 0 (a.map ePf), .buf 4 0 (b.map ePf), .buf 1 0 (textsF (b.take i))], [1, 2, 3]⟩) (fun i => b.length - i) [.tm 6 1, .swap 2 3] 0 (Nat.zero_le _) ?_ (fun i hi _ _ => ?_)
  · refine Go.VG.Sub.mk rfl ?_ ?_ ?_ ?_ <;> (repeat' (first | trivial | rfl | exact scopedL_bl _ _ | refine And.intro ?_ ?_ | refine congrArg V.str ?_ | refine congrArg (V.int _) ?_ | refine congrArg V.bool ?_ | refine congrArg (O.buf _ _) ?_ | refine congrArg O.cells ?_ | refine congrArg (V.list _ _) ?_ | refine congrArg V.agg ?_ | refine congrArg V.tuple ?_ | refine cons_eq ?_ ?_))
  have hti := hti i
  have hts := hts i
  repeat' (
      conv => whnf
      first
      | with_reducible refine optB_i (fun j q h => ?_) (fun h => ?_)
      | with_reducible refine nextM_i ⟨rfl, rfl⟩ (fun h => ?_) (fun j h => ?_)
      | with_reducible refine nextM_i ?_ (fun h => ?_) (fun j h => ?_)
      | refine req_i ?_ ?_
      | refine when_i ?_ ?_
      | refine brn_not ?_
      | refine brn_dec (fun h => ?_) (fun h => ?_)
      | refine brn_int (fun h => ?_) (fun h => ?_)
      | refine brn_intne (fun h => ?_) (fun h => ?_)
      | refine brn_str (fun h => ?_) (fun h => ?_)
      | refine brn_i (fun h => ?_) (fun h => ?_)
      | with_reducible refine IdxK.mk _ rfl ?_
      | with_reducible refine idx_blI ?_ (fun hc => ?_)
      | with_reducible refine idx_bl ?_ (fun hc => ?_)
      | with_reducible refine idx_strI ?_ (fun hc => ?_)
      | with_reducible refine idx_str ?_ (fun hc => ?_)
      | with_reducible refine idx_mapDI ?_ ?_
      | with_reducible refine idx_mapD ?_ ?_
      | with_reducible refine idx_at ?_ (fun b hb => ?_)
      | refine ex_bl ?_
      | refine ex_b1 ?_ ?_
      | refine ex_b2 ?_ ?_ ?_
      | refine ex_b3 ?_ ?_ ?_ ?_
      | refine ex_b4 ?_ ?_ ?_ ?_ ?_
      | refine optK_setL ?_ ?_
      | refine optK_takeL ?_ ?_
      | with_reducible refine forceDs_i ?_
      )
  all_goals try (conv => whnf)
  all_goals try (refine Side.mk ?_; try dsimp only)
  all_goals (try simp only [Cu_eta] at *)
  all_goals first
    | (show LoopP _ _ _ _; skip)
    | (show GotoP _ _ _ _ _; skip)
    | (show EndP _ _ _ _ _ _; skip)
    | (show ∃ _, _; skip)
    | (first
          | trivial
          | omega
          | (simp (discharger := omega) only [wu8, wu16, wu32, wu64, wi32, wi64, Int.tdiv_eq_ediv_of_nonneg, Int.tmod_eq_emod_of_nonneg]; omega)
          | (simp only [List.length_append, List.length_cons, List.length_nil, bl_length, List.length_take, List.length_drop]; omega)
          | (simp (discharger := omega) [-List.getD_eq_getElem?_getD, wu8, wu16, wu32, wu64, wi32, wi64, Int.tdiv_eq_ediv_of_nonneg, Int.tmod_eq_emod_of_nonneg]; done)
          | (simp (discharger := omega) [-List.getD_eq_getElem?_getD, wu8, wu16, wu32, wu64, wi32, wi64, Int.tdiv_eq_ediv_of_nonneg, Int.tmod_eq_emod_of_nonneg]; omega))
    | skip
  all_goals (try simp only [List.length_map] at *)
  · refine ⟨[], i + 1, by omega, ?_, by omega⟩
    refine Go.VG.Sub.mk rfl ?_ ?_ ?_ ?_ <;> (repeat' (first | trivial | rfl | exact scopedL_bl _ _ | refine And.intro ?_ ?_ | refine congrArg V.str ?_ | refine congrArg (V.int _) ?_ | refine congrArg V.bool ?_ | refine congrArg (O.buf _ _) ?_ | refine congrArg O.cells ?_ | refine congrArg (V.list _ _) ?_ | refine congrArg V.agg ?_ | refine congrArg V.tuple ?_ | refine cons_eq ?_ ?_))
    · (first | omega | (simp (discharger := omega) only [wu8, wu16, wu32, wu64, wi32, wi64, Int.tdiv_eq_ediv_of_nonneg, Int.tmod_eq_emod_of_nonneg]; omega) | (simp only [List.length_append, List.length_cons, List.length_nil, bl_length, List.length_take, List.length_drop]; omega) | (simp (discharger := omega) [-List.getD_eq_getElem?_getD, wu8, wu16, wu32, wu64, wi32, wi64, Int.tdiv_eq_ediv_of_nonneg, Int.tmod_eq_emod_of_nonneg]; done) | (simp (discharger := omega) [-List.getD_eq_getElem?_getD, wu8, wu16, wu32, wu64, wi32, wi64, Int.tdiv_eq_ediv_of_nonneg, Int.tmod_eq_emod_of_nonneg]; omega))
    · rw [hts (by omega)]
  · obtain rfl : i = b.length := by omega
    rw [List.take_length]
    refine EndP.mk [.swap 1 2] ?_ <;> (repeat' (first | trivial | rfl | exact scopedL_bl _ _ | refine And.intro ?_ ?_ | refine congrArg V.str ?_ | refine congrArg (V.int _) ?_ | refine congrArg V.bool ?_ | refine congrArg (O.buf _ _) ?_ | refine congrArg O.cells ?_ | refine congrArg (V.list _ _) ?_ | refine congrArg V.agg ?_ | refine congrArg V.tuple ?_ | refine cons_eq ?_ ?_))
def sm_r18Each : Sm := fun args σ => match args, σ with
  | [.buf 0, .int .i64 n], [.buf 4 0 l] => some ((∃ a : List Pf, l = a.map ePf) ∧ l.length ≤ 1000000, .buf 1, some [.buf 4 0 l, .buf 1 0 (textsF (selF (isF n 2) (l.map dePf))), .dead])
  | _, _ => none
theorem k_r18Each : SOK 21 sm_r18Each := by
  intro args sg pre x r he hp
  unfold sm_r18Each at he
  split at he <;> cases he
  · exact f_r18Each_1 (hp := hp) ..
theorem f_r18Join_1 (l : List V) (n : Int) (hp : (∃ a : List Pf, l = a.map ePf ∧ shortF a) ∧ l.length ≤ 10000) : OK 18 ([.buf 0, .int .i64 n]) ([.buf 4 0 l]) (.tuple [.str (joinT (selF (isF n 2) (l.map dePf))), .bool (anyF (selF (isF n 2) (l.map dePf)))]) (none) := by
  refine funOK_of_vc (C := cx [(21, sm_r18Each)]) (good ⟨k_r18Each, trivial⟩) (fn := Tryd.f18) rfl rfl rfl rfl fun hw hs => ?_
  obtain ⟨⟨a, rfl, ha⟩, hl⟩ := hp
  simp only [dePf_map]
  have hml : (a.map ePf).length = a.length := List.length_map ..
  have hs1 : (selF (isF n 2) a).length ≤ a.length := List.length_filter_le ..
  have hsh : shortF (selF (isF n 2) a) := fun f hf => ha f (List.mem_filter.1 hf).1
  have hjl : ∀ (b : List Pf) i, shortF b → b.length ≤ a.length → (joinT (b.take i)).length ≤ 1000000000 := fun b i hb hl2 => by
    have h1 := join_le (l := b.take i) fun f hf => hb f (List.mem_of_mem_take hf)
    rw [List.length_take] at h1
    omega
  have hjs : ∀ (b : List Pf) i, i < b.length → joinT (b.take (i + 1)) = joinT (b.take i) ++ (b.getD i default).text := fun b i h => by
    rw [List.take_add_one, List.getD_eq_getElem?_getD, List.getElem?_eq_getElem h]
    exact joinT_app ..
  have han := anyF_len (selF (isF n 2) a)
  repeat' (
      conv => whnf
      first
      | with_reducible refine optB_i (fun j q h => ?_) (fun h => ?_)
      | with_reducible refine nextM_i ⟨rfl, rfl⟩ (fun h => ?_) (fun j h => ?_)
      | with_reducible refine nextM_i ?_ (fun h => ?_) (fun j h => ?_)
      | refine req_i ?_ ?_
      | refine when_i ?_ ?_
      | refine brn_not ?_
      | refine brn_dec (fun h => ?_) (fun h => ?_)
      | refine brn_int (fun h => ?_) (fun h => ?_)
      | refine brn_intne (fun h => ?_) (fun h => ?_)
      | refine brn_str (fun h => ?_) (fun h => ?_)
      | refine brn_i (fun h => ?_) (fun h => ?_)
      | with_reducible refine IdxK.mk _ rfl ?_
      | with_reducible refine idx_blI ?_ (fun hc => ?_)
      | with_reducible refine idx_bl ?_ (fun hc => ?_)
      | with_reducible refine idx_strI ?_ (fun hc => ?_)
      | with_reducible refine idx_str ?_ (fun hc => ?_)
      | with_reducible refine idx_mapDI ?_ ?_
      | with_reducible refine idx_mapD ?_ ?_
      | with_reducible refine idx_at ?_ (fun b hb => ?_)
      | refine ex_bl ?_
      | refine ex_b1 ?_ ?_
      | refine ex_b2 ?_ ?_ ?_
      | refine ex_b3 ?_ ?_ ?_ ?_
      | refine ex_b4 ?_ ?_ ?_ ?_ ?_
      | refine optK_setL ?_ ?_
      | refine optK_takeL ?_ ?_
      | with_reducible refine forceDs_i ?_
      )
  all_goals try (conv => whnf)
  all_goals try (refine Side.mk ?_; try dsimp only)
  · exact ⟨⟨_, rfl⟩, by omega⟩
  simp only [dePf_map]
  generalize selF (isF n 2) a = b at *
  have hmb : (textsF b).length = b.length := List.length_map ..
  refine LoopP.mk Nat (fun i => i ≤ b.length) (fun i => ⟨28, [(6, .buf 1), (7, .str (joinT (b.take i))), (8, .int .i64 i)], [.buf 4 0 (a.map ePf), .buf 1 0 (textsF b)], []⟩) (fun i => b.length - i) [] 0 (Nat.zero_le _) ?_ (fun i hi _ _ => ?_)
  · refine Go.VG.Sub.mk rfl ?_ ?_ ?_ ?_ <;> (repeat' (first | trivial | rfl | exact scopedL_bl _ _ | refine And.intro ?_ ?_ | refine congrArg V.str ?_ | refine congrArg (V.int _) ?_ | refine congrArg V.bool ?_ | refine congrArg (O.buf _ _) ?_ | refine congrArg O.cells ?_ | refine congrArg (V.list _ _) ?_ | refine congrArg V.agg ?_ | refine congrArg V.tuple ?_ | refine cons_eq ?_ ?_))
  have hj1 := hjl b i hsh (by omega)
  have hjs := hjs b i
  have hs2 : i < b.length → (b.getD i default).text.length ≤ 100000 := fun h => short_get hsh h
  repeat' (
      conv => whnf
      first
      | with_reducible refine optB_i (fun j q h => ?_) (fun h => ?_)
      | with_reducible refine nextM_i ⟨rfl, rfl⟩ (fun h => ?_) (fun j h => ?_)
      | with_reducible refine nextM_i ?_ (fun h => ?_) (fun j h => ?_)
      | refine req_i ?_ ?_
      | refine when_i ?_ ?_
      | refine brn_not ?_
      | refine brn_dec (fun h => ?_) (fun h => ?_)
      | refine brn_int (fun h => ?_) (fun h => ?_)
      | refine brn_intne (fun h => ?_) (fun h => ?_)
      | refine brn_str (fun h => ?_) (fun h => ?_)
      | refine brn_i (fun h => ?_) (fun h => ?_)
      | with_reducible refine IdxK.mk _ rfl ?_
      | with_reducible refine idx_blI ?_ (fun hc => ?_)
      | with_reducible refine idx_bl ?_ (fun hc => ?_)
      | with_reducible refine idx_strI ?_ (fun hc => ?_)
      | with_reducible refine idx_str ?_ (fun hc => ?_)
      | with_reducible refine idx_mapDI ?_ ?_
      | with_reducible refine idx_mapD ?_ ?_
      | with_reducible refine idx_at ?_ (fun b hb => ?_)
      | refine ex_bl ?_
      | refine ex_b1 ?_ ?_
      | refine ex_b2 ?_ ?_ ?_
      | refine ex_b3 ?_ ?_ ?_ ?_
      | refine ex_b4 ?_ ?_ ?_ ?_ ?_
      | refine optK_setL ?_ ?_
      | refine optK_takeL ?_ ?_
      | with_reducible refine forceDs_i ?_
      )
  all_goals try (conv => whnf)
  all_goals try (refine Side.mk ?_; try dsimp only)
  all_goals (try simp only [Cu_eta] at *)
  all_goals first
    | (show LoopP _ _ _ _; skip)
    | (show GotoP _ _ _ _ _; skip)
    | (show EndP _ _ _ _ _ _; skip)
    | (show ∃ _, _; skip)
    | (first
          | trivial
          | omega
          | (simp (discharger := omega) only [wu8, wu16, wu32, wu64, wi32, wi64, Int.tdiv_eq_ediv_of_nonneg, Int.tmod_eq_emod_of_nonneg]; omega)
          | (simp only [List.length_append, List.length_cons, List.length_nil, bl_length, List.length_take, List.length_drop]; omega)
          | (simp (discharger := omega) [-List.getD_eq_getElem?_getD, wu8, wu16, wu32, wu64, wi32, wi64, Int.tdiv_eq_ediv_of_nonneg, Int.tmod_eq_emod_of_nonneg]; done)
          | (simp (discharger := omega) [-List.getD_eq_getElem?_getD, wu8, wu16, wu32, wu64, wi32, wi64, Int.tdiv_eq_ediv_of_nonneg, Int.tmod_eq_emod_of_nonneg]; omega))
    | skip
  all_goals (try simp only [List.length_map] at *)
  all_goals first
    | (have := hs2 (by omega)
       omega)
    | (refine ⟨[], i + 1, by omega, ?_, by omega⟩
       refine Go.VG.Sub.mk rfl ?_ ?_ ?_ ?_ <;> (repeat' (first | trivial | rfl | exact scopedL_bl _ _ | refine And.intro ?_ ?_ | refine congrArg V.str ?_ | refine congrArg (V.int _) ?_ | refine congrArg V.bool ?_ | refine congrArg (O.buf _ _) ?_ | refine congrArg O.cells ?_ | refine congrArg (V.list _ _) ?_ | refine congrArg V.agg ?_ | refine congrArg V.tuple ?_ | refine cons_eq ?_ ?_))
       all_goals first
         | (rw [hjs (by omega)]; done)
         | ((first | omega | (simp (discharger := omega) only [wu8, wu16, wu32, wu64, wi32, wi64, Int.tdiv_eq_ediv_of_nonneg, Int.tmod_eq_emod_of_nonneg]; omega) | (simp only [List.length_append, List.length_cons, List.length_nil, bl_length, List.length_take, List.length_drop]; omega) | (simp (discharger := omega) [-List.getD_eq_getElem?_getD, wu8, wu16, wu32, wu64, wi32, wi64, Int.tdiv_eq_ediv_of_nonneg, Int.tmod_eq_emod_of_nonneg]; done) | (simp (discharger := omega) [-List.getD_eq_getElem?_getD, wu8, wu16, wu32, wu64, wi32, wi64, Int.tdiv_eq_ediv_of_nonneg, Int.tmod_eq_emod_of_nonneg]; omega)); done)
       done)
    | (show EndP _ _ _ _ _ _
       obtain rfl : i = b.length := by omega
       rw [han, List.take_length]
       refine EndP.mk [] ?_ <;> (repeat' (first | trivial | rfl | exact scopedL_bl _ _ | refine And.intro ?_ ?_ | refine congrArg V.str ?_ | refine congrArg (V.int _) ?_ | refine congrArg V.bool ?_ | refine congrArg (O.buf _ _) ?_ | refine congrArg O.cells ?_ | refine congrArg (V.list _ _) ?_ | refine congrArg V.agg ?_ | refine congrArg V.tuple ?_ | refine cons_eq ?_ ?_))
       exact decide_eq_decide.2 (by omega)
       done)
def sm_r18Join : Sm := fun args σ => match args, σ with
  | [.buf 0, .int .i64 n], [.buf 4 0 l] => some ((∃ a : List Pf, l = a.map ePf ∧ shortF a) ∧ l.length ≤ 10000, .tuple [.str (joinT (selF (isF n 2) (l.map dePf))), .bool (anyF (selF (isF n 2) (l.map dePf)))], none)
  | _, _ => none
theorem k_r18Join : SOK 18 sm_r18Join := by
  intro args sg pre x r he hp
  unfold sm_r18Join at he
  split at he <;> cases he
  · exact f_r18Join_1 (hp := hp) ..
theorem f_sameTx_1 (l m : List V) (hp : (∃ a : List Pf, l = textsF a) ∧ m = l ∧ l.length ≤ 1000000000) : OK 19 ([.buf 0, .buf 1]) ([.buf 1 0 l, .buf 1 0 m]) (.bool true) (none) := by
  refine funOK_of_vc (C := cx []) (good trivial) (fn := Tryd.f19) rfl rfl rfl rfl fun hw hs => ?_
  obtain ⟨⟨a, rfl⟩, rfl, hl⟩ := hp
  have hml : (textsF a).length = a.length := List.length_map ..
  repeat' (
      conv => whnf
      first
      | with_reducible refine optB_i (fun j q h => ?_) (fun h => ?_)
      | with_reducible refine nextM_i ⟨rfl, rfl⟩ (fun h => ?_) (fun j h => ?_)
      | with_reducible refine nextM_i ?_ (fun h => ?_) (fun j h => ?_)
      | refine req_i ?_ ?_
      | refine when_i ?_ ?_
      | refine brn_not ?_
      | refine brn_dec (fun h => ?_) (fun h => ?_)
      | refine brn_int (fun h => ?_) (fun h => ?_)
      | refine brn_intne (fun h => ?_) (fun h => ?_)
      | refine brn_str (fun h => ?_) (fun h => ?_)
      | refine brn_i (fun h => ?_) (fun h => ?_)
      | with_reducible refine IdxK.mk _ rfl ?_
      | with_reducible refine idx_blI ?_ (fun hc => ?_)
      | with_reducible refine idx_bl ?_ (fun hc => ?_)
      | with_reducible refine idx_strI ?_ (fun hc => ?_)
      | with_reducible refine idx_str ?_ (fun hc => ?_)
      | with_reducible refine idx_mapDI ?_ ?_
      | with_reducible refine idx_mapD ?_ ?_
      | with_reducible refine idx_at ?_ (fun b hb => ?_)
      | refine ex_bl ?_
      | refine ex_b1 ?_ ?_
      | refine ex_b2 ?_ ?_ ?_
      | refine ex_b3 ?_ ?_ ?_ ?_
      | refine ex_b4 ?_ ?_ ?_ ?_ ?_
      | refine optK_setL ?_ ?_
      | refine optK_takeL ?_ ?_
      | with_reducible refine forceDs_i ?_
      )
  all_goals try (conv => whnf)
  all_goals try (refine Side.mk ?_; try dsimp only)
  all_goals (try simp only [Cu_eta] at *)
  all_goals first
    | (show LoopP _ _ _ _; skip)
    | (show GotoP _ _ _ _ _; skip)
    | (show EndP _ _ _ _ _ _; skip)
    | (show ∃ _, _; skip)
    | (first
          | trivial
          | omega
          | (simp (discharger := omega) only [wu8, wu16, wu32, wu64, wi32, wi64, Int.tdiv_eq_ediv_of_nonneg, Int.tmod_eq_emod_of_nonneg]; omega)
          | (simp only [List.length_append, List.length_cons, List.length_nil, bl_length, List.length_take, List.length_drop]; omega)
          | (simp (discharger := omega) [-List.getD_eq_getElem?_getD, wu8, wu16, wu32, wu64, wi32, wi64, Int.tdiv_eq_ediv_of_nonneg, Int.tmod_eq_emod_of_nonneg]; done)
          | (simp (discharger := omega) [-List.getD_eq_getElem?_getD, wu8, wu16, wu32, wu64, wi32, wi64, Int.tdiv_eq_ediv_of_nonneg, Int.tmod_eq_emod_of_nonneg]; omega))
    | skip
  · refine LoopP.mk Nat (fun i => i ≤ a.length) (fun i => ⟨26, [(0, .buf 0), (1, .buf 1), (5, .int .i64 i)], [.buf 1 0 (textsF a), .buf 1 0 (textsF a)], []⟩) (fun i => a.length - i) [] 0 (Nat.zero_le _) ?_ (fun i hi _ _ => ?_)
    · refine Go.VG.Sub.mk rfl ?_ ?_ ?_ ?_ <;> (repeat' (first | trivial | rfl | exact scopedL_bl _ _ | refine And.intro ?_ ?_ | refine congrArg V.str ?_ | refine congrArg (V.int _) ?_ | refine congrArg V.bool ?_ | refine congrArg (O.buf _ _) ?_ | refine congrArg O.cells ?_ | refine congrArg (V.list _ _) ?_ | refine congrArg V.agg ?_ | refine congrArg V.tuple ?_ | refine cons_eq ?_ ?_))
    repeat' (
        conv => whnf
        first
        | with_reducible refine optB_i (fun j q h => ?_) (fun h => ?_)
        | with_reducible refine nextM_i ⟨rfl, rfl⟩ (fun h => ?_) (fun j h => ?_)
        | with_reducible refine nextM_i ?_ (fun h => ?_) (fun j h => ?_)
        | refine req_i ?_ ?_
        | refine when_i ?_ ?_
        | refine brn_not ?_
        | refine brn_dec (fun h => ?_) (fun h => ?_)
        | refine brn_int (fun h => ?_) (fun h => ?_)
        | refine brn_intne (fun h => ?_) (fun h => ?_)
        | refine brn_str (fun h => ?_) (fun h => ?_)
        | refine brn_i (fun h => ?_) (fun h => ?_)
        | with_reducible refine IdxK.mk _ rfl ?_
        | with_reducible refine idx_blI ?_ (fun hc => ?_)
        | with_reducible refine idx_bl ?_ (fun hc => ?_)
        | with_reducible refine idx_strI ?_ (fun hc => ?_)
        | with_reducible refine idx_str ?_ (fun hc => ?_)
        | with_reducible refine idx_mapDI ?_ ?_
        | with_reducible refine idx_mapD ?_ ?_
        | with_reducible refine idx_at ?_ (fun b hb => ?_)
        | refine ex_bl ?_
        | refine ex_b1 ?_ ?_
        | refine ex_b2 ?_ ?_ ?_
        | refine ex_b3 ?_ ?_ ?_ ?_
        | refine ex_b4 ?_ ?_ ?_ ?_ ?_
        | refine optK_setL ?_ ?_
        | refine optK_takeL ?_ ?_
        | with_reducible refine forceDs_i ?_
        )
    all_goals try (conv => whnf)
    all_goals try (refine Side.mk ?_; try dsimp only)
    all_goals (try simp only [Cu_eta] at *)
    all_goals first
      | (show LoopP _ _ _ _; skip)
      | (show GotoP _ _ _ _ _; skip)
      | (show EndP _ _ _ _ _ _; skip)
      | (show ∃ _, _; skip)
      | (first
            | trivial
            | omega
            | (simp (discharger := omega) only [wu8, wu16, wu32, wu64, wi32, wi64, Int.tdiv_eq_ediv_of_nonneg, Int.tmod_eq_emod_of_nonneg]; omega)
            | (simp only [List.length_append, List.length_cons, List.length_nil, bl_length, List.length_take, List.length_drop]; omega)
            | (simp (discharger := omega) [-List.getD_eq_getElem?_getD, wu8, wu16, wu32, wu64, wi32, wi64, Int.tdiv_eq_ediv_of_nonneg, Int.tmod_eq_emod_of_nonneg]; done)
            | (simp (discharger := omega) [-List.getD_eq_getElem?_getD, wu8, wu16, wu32, wu64, wi32, wi64, Int.tdiv_eq_ediv_of_nonneg, Int.tmod_eq_emod_of_nonneg]; omega))
      | skip
    all_goals (try simp only [List.length_map] at *)
    all_goals first
      | (refine ⟨[], i + 1, by omega, ?_, by omega⟩
         refine Go.VG.Sub.mk rfl ?_ ?_ ?_ ?_ <;> (repeat' (first | trivial | rfl | exact scopedL_bl _ _ | refine And.intro ?_ ?_ | refine congrArg V.str ?_ | refine congrArg (V.int _) ?_ | refine congrArg V.bool ?_ | refine congrArg (O.buf _ _) ?_ | refine congrArg O.cells ?_ | refine congrArg (V.list _ _) ?_ | refine congrArg V.agg ?_ | refine congrArg V.tuple ?_ | refine cons_eq ?_ ?_))
         (first | omega | (simp (discharger := omega) only [wu8, wu16, wu32, wu64, wi32, wi64, Int.tdiv_eq_ediv_of_nonneg, Int.tmod_eq_emod_of_nonneg]; omega) | (simp only [List.length_append, List.length_cons, List.length_nil, bl_length, List.length_take, List.length_drop]; omega) | (simp (discharger := omega) [-List.getD_eq_getElem?_getD, wu8, wu16, wu32, wu64, wi32, wi64, Int.tdiv_eq_ediv_of_nonneg, Int.tmod_eq_emod_of_nonneg]; done) | (simp (discharger := omega) [-List.getD_eq_getElem?_getD, wu8, wu16, wu32, wu64, wi32, wi64, Int.tdiv_eq_ediv_of_nonneg, Int.tmod_eq_emod_of_nonneg]; omega))
         done)
      | (exfalso; simp_all; done)
      | (show EndP _ _ _ _ _ _
         refine EndP.mk [] ?_ <;> (repeat' (first | trivial | rfl | exact scopedL_bl _ _ | refine And.intro ?_ ?_ | refine congrArg V.str ?_ | refine congrArg (V.int _) ?_ | refine congrArg V.bool ?_ | refine congrArg (O.buf _ _) ?_ | refine congrArg O.cells ?_ | refine congrArg (V.list _ _) ?_ | refine congrArg V.agg ?_ | refine congrArg V.tuple ?_ | refine cons_eq ?_ ?_))
         done)
  all_goals first
    | (exfalso; simp_all; done)
    | (show EndP _ _ _ _ _ _
       refine EndP.mk [] ?_ <;> (repeat' (first | trivial | rfl | exact scopedL_bl _ _ | refine And.intro ?_ ?_ | refine congrArg V.str ?_ | refine congrArg (V.int _) ?_ | refine congrArg V.bool ?_ | refine congrArg (O.buf _ _) ?_ | refine congrArg O.cells ?_ | refine congrArg (V.list _ _) ?_ | refine congrArg V.agg ?_ | refine congrArg V.tuple ?_ | refine cons_eq ?_ ?_))
       done)
theorem f_sameTx_2 (l : List V) (hp : l = []) : OK 19 ([.list true 0 [], .buf 0]) ([.buf 1 0 l]) (.bool true) (none) := by
  refine funOK_of_vc (C := cx []) (good trivial) (fn := Tryd.f19) rfl rfl rfl rfl fun hw hs => ?_
  subst hp
  repeat' (
      conv => whnf
      first
      | with_reducible refine optB_i (fun j q h => ?_) (fun h => ?_)
      | with_reducible refine nextM_i ⟨rfl, rfl⟩ (fun h => ?_) (fun j h => ?_)
      | with_reducible refine nextM_i ?_ (fun h => ?_) (fun j h => ?_)
      | refine req_i ?_ ?_
      | refine when_i ?_ ?_
      | refine brn_not ?_
      | refine brn_dec (fun h => ?_) (fun h => ?_)
      | refine brn_int (fun h => ?_) (fun h => ?_)
      | refine brn_intne (fun h => ?_) (fun h => ?_)
      | refine brn_str (fun h => ?_) (fun h => ?_)
      | refine brn_i (fun h => ?_) (fun h => ?_)
      | with_reducible refine IdxK.mk _ rfl ?_
      | with_reducible refine idx_blI ?_ (fun hc => ?_)
      | with_reducible refine idx_bl ?_ (fun hc => ?_)
      | with_reducible refine idx_strI ?_ (fun hc => ?_)
      | with_reducible refine idx_str ?_ (fun hc => ?_)
      | with_reducible refine idx_mapDI ?_ ?_
      | with_reducible refine idx_mapD ?_ ?_
      | with_reducible refine idx_at ?_ (fun b hb => ?_)
      | refine ex_bl ?_
      | refine ex_b1 ?_ ?_
      | refine ex_b2 ?_ ?_ ?_
      | refine ex_b3 ?_ ?_ ?_ ?_
      | refine ex_b4 ?_ ?_ ?_ ?_ ?_
      | refine optK_setL ?_ ?_
      | refine optK_takeL ?_ ?_
      | with_reducible refine forceDs_i ?_
      )
  all_goals try (conv => whnf)
  all_goals try (refine Side.mk ?_; try dsimp only)
  refine LoopP.mk Unit (fun _ => True) (fun _ => ⟨26, [(0, .list true 0 []), (1, .buf 0), (5, .int .i64 0)], [.buf 1 0 []], []⟩) (fun i => 0) [] () trivial ?_ (fun i hi _ _ => ?_)
  · refine Go.VG.Sub.mk rfl ?_ ?_ ?_ ?_ <;> (repeat' (first | trivial | rfl | exact scopedL_bl _ _ | refine And.intro ?_ ?_ | refine congrArg V.str ?_ | refine congrArg (V.int _) ?_ | refine congrArg V.bool ?_ | refine congrArg (O.buf _ _) ?_ | refine congrArg O.cells ?_ | refine congrArg (V.list _ _) ?_ | refine congrArg V.agg ?_ | refine congrArg V.tuple ?_ | refine cons_eq ?_ ?_))
  repeat' (
      conv => whnf
      first
      | with_reducible refine optB_i (fun j q h => ?_) (fun h => ?_)
      | with_reducible refine nextM_i ⟨rfl, rfl⟩ (fun h => ?_) (fun j h => ?_)
      | with_reducible refine nextM_i ?_ (fun h => ?_) (fun j h => ?_)
      | refine req_i ?_ ?_
      | refine when_i ?_ ?_
      | refine brn_not ?_
      | refine brn_dec (fun h => ?_) (fun h => ?_)
      | refine brn_int (fun h => ?_) (fun h => ?_)
      | refine brn_intne (fun h => ?_) (fun h => ?_)
      | refine brn_str (fun h => ?_) (fun h => ?_)
      | refine brn_i (fun h => ?_) (fun h => ?_)
      | with_reducible refine IdxK.mk _ rfl ?_
      | with_reducible refine idx_blI ?_ (fun hc => ?_)
      | with_reducible refine idx_bl ?_ (fun hc => ?_)
      | with_reducible refine idx_strI ?_ (fun hc => ?_)
      | with_reducible refine idx_str ?_ (fun hc => ?_)
      | with_reducible refine idx_mapDI ?_ ?_
      | with_reducible refine idx_mapD ?_ ?_
      | with_reducible refine idx_at ?_ (fun b hb => ?_)
      | refine ex_bl ?_
      | refine ex_b1 ?_ ?_
      | refine ex_b2 ?_ ?_ ?_
      | refine ex_b3 ?_ ?_ ?_ ?_
      | refine ex_b4 ?_ ?_ ?_ ?_ ?_
      | refine optK_setL ?_ ?_
      | refine optK_takeL ?_ ?_
      | with_reducible refine forceDs_i ?_
      )
  all_goals try (conv => whnf)
  all_goals try (refine Side.mk ?_; try dsimp only)
  refine EndP.mk [] ?_ <;> (repeat' (first | trivial | rfl | exact scopedL_bl _ _ | refine And.intro ?_ ?_ | refine congrArg V.str ?_ | refine congrArg (V.int _) ?_ | refine congrArg V.bool ?_ | refine congrArg (O.buf _ _) ?_ | refine congrArg O.cells ?_ | refine congrArg (V.list _ _) ?_ | refine congrArg V.agg ?_ | refine congrArg V.tuple ?_ | refine cons_eq ?_ ?_))
def sm_sameTx : Sm := fun args σ => match args, σ with
  | [.buf 0, .buf 1], [.buf 1 0 l, .buf 1 0 m] => some ((∃ a : List Pf, l = textsF a) ∧ m = l ∧ l.length ≤ 1000000000, .bool true, none)
  | [.list true 0 [], .buf 0], [.buf 1 0 l] => some (l = [], .bool true, none)
  | _, _ => none
theorem k_sameTx : SOK 19 sm_sameTx := by
  intro args sg pre x r he hp
  unfold sm_sameTx at he
  split at he <;> cases he
  · exact f_sameTx_1 (hp := hp) ..
  · exact f_sameTx_2 (hp := hp) ..
end Go.Proofs.YtbeejnmeakcpjaaDoor
