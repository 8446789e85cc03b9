/-
  A text of JSON as the document reads it: parts, the whole text.
-/
import Derived.Test.YtllncocibkgjkaaJD
set_option linter.unusedSimpArgs false
set_option linter.unusedVariables false
set_option maxHeartbeats 4000000
namespace Go.Proofs.Ytllncocibkgjkaa
open Go Go.VG
set_option maxRecDepth 100000
theorem f_r10escapeI_1 (t : List UInt8) (q : Int) (hp : t.length ≤ 90000000 ∧ 0 ≤ q ∧ q ≤ 90000000) : OK 99 ([.str t, .int .i64 q]) ([]) (.tuple [.str (escD t q.toNat).1, .int .i64 (escD t q.toNat).2.1, .int .i64 (escD t q.toNat).2.2]) (none) := by
  obtain ⟨i, rfl⟩ := Int.eq_ofNat_of_zero_le hp.2.1
  exact f_r10escape_1 t i ⟨hp.1, by omega⟩
def sm_r10escapeI : Sm := fun args σ => match args, σ with
  | [.str t, .int .i64 q], [] => some (t.length ≤ 90000000 ∧ 0 ≤ q ∧ q ≤ 90000000, .tuple [.str (escD t q.toNat).1, .int .i64 (escD t q.toNat).2.1, .int .i64 (escD t q.toNat).2.2], none)
  | _, _ => none
theorem k_r10escapeI : SOK 99 sm_r10escapeI := by
  intro args sg pre x r he hp
  unfold sm_r10escapeI at he
  split at he <;> cases he
  · exact f_r10escapeI_1 (hp := hp) ..
def partD (t : List UInt8) (i : Nat) : List UInt8 × Int × Int :=
  if (t.getD i 0).toNat = 92 then escD t (i + 1)
  else if (t.getD i 0).toNat < 32 then ([], 0, 3)
  else if (uRune t i).2 = 0 then ([], 0, 5)
  else ((t.take (i + (uRune t i).2)).drop i, ((i + (uRune t i).2 : Nat) : Int), 0)
theorem f_r10part_1 (t : List UInt8) (i : Nat) (hp : t.length ≤ 10000000 ∧ i < t.length) : OK 80 ([.str t, .int .i64 i]) ([]) (.tuple [.str (partD t i).1, .int .i64 (partD t i).2.1, .int .i64 (partD t i).2.2]) (none) := by
  refine funOK_of_vc (C := cx [(99, sm_r10escapeI), (100, sm_uRune)]) (good ⟨k_r10escapeI, k_uRune, trivial⟩) (fn := Try.f80) rfl rfl rfl rfl fun hw hs => ?_
  obtain ⟨hl, hi⟩ := hp
  have hr := uRune_le t i
  have hi1 : (IntKind.i64.wrap ((i : Int) + 1)).toNat = i + 1 := by (first | omega | (simp (discharger := omega) only [wu8, wu16, wu32, wu64, wi32, wi64, Int.tdiv_eq_ediv_of_nonneg, Int.tmod_eq_emod_of_nonneg]; omega) | (simp only [List.length_append, List.length_cons, List.length_nil, bl_length, List.length_take, List.length_drop]; omega) | (simp (discharger := omega) [-List.getD_eq_getElem?_getD, wu8, wu16, wu32, wu64, wi32, wi64, Int.tdiv_eq_ediv_of_nonneg, Int.tmod_eq_emod_of_nonneg]; done) | (simp (discharger := omega) [-List.getD_eq_getElem?_getD, wu8, wu16, wu32, wu64, wi32, wi64, Int.tdiv_eq_ediv_of_nonneg, Int.tmod_eq_emod_of_nonneg]; omega))
  have hi2 : IntKind.i64.wrap ((i : Int) + (uRune t i).2) = ((i + (uRune t i).2 : Nat) : Int) := by (first | omega | (simp (discharger := omega) only [wu8, wu16, wu32, wu64, wi32, wi64, Int.tdiv_eq_ediv_of_nonneg, Int.tmod_eq_emod_of_nonneg]; omega) | (simp only [List.length_append, List.length_cons, List.length_nil, bl_length, List.length_take, List.length_drop]; omega) | (simp (discharger := omega) [-List.getD_eq_getElem?_getD, wu8, wu16, wu32, wu64, wi32, wi64, Int.tdiv_eq_ediv_of_nonneg, Int.tmod_eq_emod_of_nonneg]; done) | (simp (discharger := omega) [-List.getD_eq_getElem?_getD, wu8, wu16, wu32, wu64, wi32, wi64, Int.tdiv_eq_ediv_of_nonneg, Int.tmod_eq_emod_of_nonneg]; omega))
  repeat' (
      conv => whnf
      first
      | refine req_i ?_ ?_
      | refine when_i ?_ ?_
      | refine brn_not ?_
      | refine brn_dec (fun h => ?_) (fun h => ?_)
      | refine brn_int (fun h => ?_) (fun h => ?_)
      | refine brn_intne (fun h => ?_) (fun h => ?_)
      | refine brn_str (fun h => ?_) (fun h => ?_)
      | refine brn_i (fun h => ?_) (fun h => ?_)
      | with_reducible refine IdxK.mk _ rfl ?_
      | with_reducible refine idx_blI ?_ (fun hc => ?_)
      | with_reducible refine idx_bl ?_ (fun hc => ?_)
      | with_reducible refine idx_strI ?_ (fun hc => ?_)
      | with_reducible refine idx_str ?_ (fun hc => ?_)
      | with_reducible refine idx_mapDI ?_ ?_
      | with_reducible refine idx_mapD ?_ ?_
      | with_reducible refine idx_at ?_ (fun b hb => ?_)
      | refine ex_bl ?_
      | refine ex_b1 ?_ ?_
      | refine ex_b2 ?_ ?_ ?_
      | refine ex_b3 ?_ ?_ ?_ ?_
      | refine ex_b4 ?_ ?_ ?_ ?_ ?_
      | refine optK_setL ?_ ?_
      | refine optK_takeL ?_ ?_
      | with_reducible refine forceDs_i ?_
      )
  all_goals try (conv => whnf)
  all_goals try (refine Side.mk ?_; try dsimp only)
  all_goals (try simp only [hi1, hi2] at *)
  all_goals (try simp only [Cu_eta] at *)
  all_goals first
    | (show LoopP _ _ _ _; skip)
    | (show GotoP _ _ _ _ _; skip)
    | (show EndP _ _ _ _ _ _; skip)
    | (show ∃ _, _; skip)
    | (first
          | trivial
          | omega
          | (simp (discharger := omega) only [wu8, wu16, wu32, wu64, wi32, wi64, Int.tdiv_eq_ediv_of_nonneg, Int.tmod_eq_emod_of_nonneg]; omega)
          | (simp only [List.length_append, List.length_cons, List.length_nil, bl_length, List.length_take, List.length_drop]; omega)
          | (simp (discharger := omega) [-List.getD_eq_getElem?_getD, wu8, wu16, wu32, wu64, wi32, wi64, Int.tdiv_eq_ediv_of_nonneg, Int.tmod_eq_emod_of_nonneg]; done)
          | (simp (discharger := omega) [-List.getD_eq_getElem?_getD, wu8, wu16, wu32, wu64, wi32, wi64, Int.tdiv_eq_ediv_of_nonneg, Int.tmod_eq_emod_of_nonneg]; omega))
    | skip
  all_goals
    unfold partD
    repeat (first | rw [if_pos (by omega)] | rw [if_neg (by omega)])
    refine EndP.mk [] ?_ <;> (repeat' (first | trivial | rfl | exact scopedL_bl _ _ | refine And.intro ?_ ?_ | refine congrArg V.str ?_ | refine congrArg (V.int _) ?_ | refine congrArg V.bool ?_ | refine congrArg (O.buf _ _) ?_ | refine congrArg O.cells ?_ | refine congrArg (V.list _ _) ?_ | refine congrArg V.agg ?_ | refine congrArg V.tuple ?_ | refine cons_eq ?_ ?_))
def sm_r10part : Sm := fun args σ => match args, σ with
  | [.str t, .int .i64 (.ofNat i)], [] => some (t.length ≤ 10000000 ∧ i < t.length, .tuple [.str (partD t i).1, .int .i64 (partD t i).2.1, .int .i64 (partD t i).2.2], none)
  | _, _ => none
theorem k_r10part : SOK 80 sm_r10part := by
  intro args sg pre x r he hp
  unfold sm_r10part at he
  split at he <;> cases he
  · exact f_r10part_1 (hp := hp) ..
def readDGo (t : List UInt8) : Nat → Nat → List UInt8 → Int × Nat × List UInt8
  | 0, _, _ => (1, 0, [])
  | n + 1, i, o =>
    if t.length ≤ i then (1, 0, [])
    else if (t.getD i 0).toNat = 34 then (0, i + 1, o)
    else if (partD t i).2.2 ≠ 0 then ((partD t i).2.2, 0, [])
    else readDGo t n (partD t i).2.1.toNat (o ++ (partD t i).1)
termination_by n => n
theorem simple_len (b : UInt8) : (simpleD b).length ≤ 1 := by unfold simpleD; split <;> simp
theorem pair_next (t : List UInt8) (i : Nat) (n : Int) : (pairD t i n).2.2 = 0 → (i : Int) < (pairD t i n).2.1 ∧ (pairD t i n).2.1 ≤ i + 6 ∧ (pairD t i n).1.length ≤ 4 := by
  have hb := fun n => (uBytes_len n).2
  unfold pairD
  repeat' split
  all_goals intro h
  all_goals first
    | (exfalso; simp at h; done)
    | (exfalso; exact absurd h (by assumption))
    | exact ⟨by show (i : Int) < (i : Int) + 6; omega, by show (i : Int) + 6 ≤ i + 6; omega, hb _⟩
theorem esc_next (t : List UInt8) (i : Nat) : (escD t i).2.2 = 0 → (i : Int) < (escD t i).2.1 ∧ (escD t i).2.1 ≤ i + 11 ∧ (escD t i).1.length ≤ 4 := by
  have hb := fun n => (uBytes_len n).2
  have hs := simple_len (t.getD i 0)
  unfold escD
  repeat' split
  all_goals intro h
  all_goals first
    | (exfalso; simp at h; done)
    | (exfalso; exact absurd h (by assumption))
    | (have := pair_next t (i + 5) _ h; omega)
    | exact ⟨by show (i : Int) < (i : Int) + 5; omega, by show (i : Int) + 5 ≤ i + 11; omega, hb _⟩
    | exact ⟨by show (i : Int) < (i : Int) + 1; omega, by show (i : Int) + 1 ≤ i + 11; omega, by show (simpleD (t.getD i 0)).length ≤ 4; omega⟩
theorem part_next (t : List UInt8) (i : Nat) : (partD t i).2.2 = 0 → (i : Int) < (partD t i).2.1 ∧ (partD t i).2.1 ≤ i + 12 ∧ (partD t i).1.length ≤ 12 := by
  have hr := uRune_le t i
  unfold partD
  repeat' split
  all_goals intro h
  · have := esc_next t (i + 1) h; omega
  · exfalso; simp at h
  · exfalso; simp at h
  · refine ⟨by show (i : Int) < ((i + (uRune t i).2 : Nat) : Int); omega, by show ((i + (uRune t i).2 : Nat) : Int) ≤ i + 12; omega, ?_⟩
    show ((t.take (i + (uRune t i).2)).drop i).length ≤ 12
    rw [List.length_drop, List.length_take]; omega
/-- the document's cursor behind a text, and that text -/
def Cu.readD (c : Cu) : Cu × List UInt8 :=
  if c.c ≠ 0 then (c, [])
  else if c.p = c.e then (c.fail 1, [])
  else if c.get.toNat ≠ 34 then (c.fail 3, [])
  else if (readDGo (c.s.take c.e) (c.e - c.p) (c.p + 1) []).1 = 0 then ({ c with p := (readDGo (c.s.take c.e) (c.e - c.p) (c.p + 1) []).2.1 }, (readDGo (c.s.take c.e) (c.e - c.p) (c.p + 1) []).2.2)
  else (c.fail (readDGo (c.s.take c.e) (c.e - c.p) (c.p + 1) []).1, [])
theorem f_r01New_1 (s : List UInt8) (hp : True) : OK 20 ([.str s]) ([]) (.agg (eC (.new s))) (none) := by
  refine funOK_of_vc (C := cx []) (good trivial) (fn := Try.f20) rfl rfl rfl rfl fun hw hs => ?_
  repeat' (
      conv => whnf
      first
      | refine req_i ?_ ?_
      | refine when_i ?_ ?_
      | refine brn_not ?_
      | refine brn_dec (fun h => ?_) (fun h => ?_)
      | refine brn_int (fun h => ?_) (fun h => ?_)
      | refine brn_intne (fun h => ?_) (fun h => ?_)
      | refine brn_str (fun h => ?_) (fun h => ?_)
      | refine brn_i (fun h => ?_) (fun h => ?_)
      | with_reducible refine IdxK.mk _ rfl ?_
      | with_reducible refine idx_blI ?_ (fun hc => ?_)
      | with_reducible refine idx_bl ?_ (fun hc => ?_)
      | with_reducible refine idx_strI ?_ (fun hc => ?_)
      | with_reducible refine idx_str ?_ (fun hc => ?_)
      | with_reducible refine idx_mapDI ?_ ?_
      | with_reducible refine idx_mapD ?_ ?_
      | with_reducible refine idx_at ?_ (fun b hb => ?_)
      | refine ex_bl ?_
      | refine ex_b1 ?_ ?_
      | refine ex_b2 ?_ ?_ ?_
      | refine ex_b3 ?_ ?_ ?_ ?_
      | refine ex_b4 ?_ ?_ ?_ ?_ ?_
      | refine optK_setL ?_ ?_
      | refine optK_takeL ?_ ?_
      | with_reducible refine forceDs_i ?_
      )
  all_goals try (conv => whnf)
  all_goals try (refine Side.mk ?_; try dsimp only)
  all_goals (try simp only [Cu_eta] at *)
  all_goals first
    | (show LoopP _ _ _ _; skip)
    | (show GotoP _ _ _ _ _; skip)
    | (show EndP _ _ _ _ _ _; skip)
    | (show ∃ _, _; skip)
    | (first
          | trivial
          | omega
          | (simp (discharger := omega) only [wu8, wu16, wu32, wu64, wi32, wi64, Int.tdiv_eq_ediv_of_nonneg, Int.tmod_eq_emod_of_nonneg]; omega)
          | (simp only [List.length_append, List.length_cons, List.length_nil, bl_length, List.length_take, List.length_drop]; omega)
          | (simp (discharger := omega) [-List.getD_eq_getElem?_getD, wu8, wu16, wu32, wu64, wi32, wi64, Int.tdiv_eq_ediv_of_nonneg, Int.tmod_eq_emod_of_nonneg]; done)
          | (simp (discharger := omega) [-List.getD_eq_getElem?_getD, wu8, wu16, wu32, wu64, wi32, wi64, Int.tdiv_eq_ediv_of_nonneg, Int.tmod_eq_emod_of_nonneg]; omega))
    | skip
  refine EndP.mk [] ?_ <;> (repeat' (first | trivial | rfl | exact scopedL_bl _ _ | refine And.intro ?_ ?_ | refine congrArg V.str ?_ | refine congrArg (V.int _) ?_ | refine congrArg V.bool ?_ | refine congrArg (O.buf _ _) ?_ | refine congrArg O.cells ?_ | refine congrArg (V.list _ _) ?_ | refine congrArg V.agg ?_ | refine congrArg V.tuple ?_ | refine cons_eq ?_ ?_))
def sm_r01New : Sm := fun args σ => match args, σ with
  | [.str s], [] => some (True, .agg (eC (.new s)), none)
  | _, _ => none
theorem k_r01New : SOK 20 sm_r01New := by
  intro args sg pre x r he hp
  unfold sm_r01New at he
  split at he <;> cases he
  · exact f_r01New_1 (hp := hp) ..
theorem f_r01Fail_1 (c : Cu) (k : Int) (hp : True) : OK 54 ([.agg (eC c), .int .i64 k]) ([]) (.agg (eC (c.fail k))) (none) := by
  refine funOK_of_vc (C := cx []) (good trivial) (fn := Try.f54) rfl rfl rfl rfl fun hw hs => ?_
  repeat' (
      conv => whnf
      first
      | refine req_i ?_ ?_
      | refine when_i ?_ ?_
      | refine brn_not ?_
      | refine brn_dec (fun h => ?_) (fun h => ?_)
      | refine brn_int (fun h => ?_) (fun h => ?_)
      | refine brn_intne (fun h => ?_) (fun h => ?_)
      | refine brn_str (fun h => ?_) (fun h => ?_)
      | refine brn_i (fun h => ?_) (fun h => ?_)
      | with_reducible refine IdxK.mk _ rfl ?_
      | with_reducible refine idx_blI ?_ (fun hc => ?_)
      | with_reducible refine idx_bl ?_ (fun hc => ?_)
      | with_reducible refine idx_strI ?_ (fun hc => ?_)
      | with_reducible refine idx_str ?_ (fun hc => ?_)
      | with_reducible refine idx_mapDI ?_ ?_
      | with_reducible refine idx_mapD ?_ ?_
      | with_reducible refine idx_at ?_ (fun b hb => ?_)
      | refine ex_bl ?_
      | refine ex_b1 ?_ ?_
      | refine ex_b2 ?_ ?_ ?_
      | refine ex_b3 ?_ ?_ ?_ ?_
      | refine ex_b4 ?_ ?_ ?_ ?_ ?_
      | refine optK_setL ?_ ?_
      | refine optK_takeL ?_ ?_
      | with_reducible refine forceDs_i ?_
      )
  all_goals try (conv => whnf)
  all_goals try (refine Side.mk ?_; try dsimp only)
  all_goals (try simp only [Cu_eta] at *)
  all_goals first
    | (show LoopP _ _ _ _; skip)
    | (show GotoP _ _ _ _ _; skip)
    | (show EndP _ _ _ _ _ _; skip)
    | (show ∃ _, _; skip)
    | (first
          | trivial
          | omega
          | (simp (discharger := omega) only [wu8, wu16, wu32, wu64, wi32, wi64, Int.tdiv_eq_ediv_of_nonneg, Int.tmod_eq_emod_of_nonneg]; omega)
          | (simp only [List.length_append, List.length_cons, List.length_nil, bl_length, List.length_take, List.length_drop]; omega)
          | (simp (discharger := omega) [-List.getD_eq_getElem?_getD, wu8, wu16, wu32, wu64, wi32, wi64, Int.tdiv_eq_ediv_of_nonneg, Int.tmod_eq_emod_of_nonneg]; done)
          | (simp (discharger := omega) [-List.getD_eq_getElem?_getD, wu8, wu16, wu32, wu64, wi32, wi64, Int.tdiv_eq_ediv_of_nonneg, Int.tmod_eq_emod_of_nonneg]; omega))
    | skip
  all_goals
    unfold Cu.fail
    first | rw [if_pos (by assumption)] | rw [if_neg (by assumption)]
    refine EndP.mk [] ?_ <;> (repeat' (first | trivial | rfl | exact scopedL_bl _ _ | refine And.intro ?_ ?_ | refine congrArg V.str ?_ | refine congrArg (V.int _) ?_ | refine congrArg V.bool ?_ | refine congrArg (O.buf _ _) ?_ | refine congrArg O.cells ?_ | refine congrArg (V.list _ _) ?_ | refine congrArg V.agg ?_ | refine congrArg V.tuple ?_ | refine cons_eq ?_ ?_))
def sm_r01Fail : Sm := fun args σ => match args, σ with
  | [.agg ([.str s_c, .int .i64 (.ofNat a_c), .int .i64 (.ofNat e_c), .int .i64 c_c]), .int .i64 k], [] => some (True ∧ (True), .agg (eC ((Cu.mk s_c a_c e_c c_c).fail k)), none)
  | _, _ => none
theorem k_r01Fail : SOK 54 sm_r01Fail := by
  intro args sg pre x r he hp
  unfold sm_r01Fail at he
  split at he <;> cases he
  · rw [viewC (hp).1]; exact f_r01Fail_1 (hp := hp.2) ..
theorem f_r10Read_1 (c : Cu) (hp : c.ok ∧ c.s.length ≤ 10000000) : OK 50 ([.agg (eC c)]) ([]) (.tuple [.agg (eC c.readD.1), .str c.readD.2]) (none) := by
  refine funOK_of_vc (C := cx [(80, sm_r10part), (54, sm_r01Fail)]) (good ⟨k_r10part, k_r01Fail, trivial⟩) (fn := Try.f50) rfl rfl rfl rfl fun hw hs => ?_
  obtain ⟨hp, hl⟩ := hp
  have h1 := hp.1
  have h2 := hp.2
  have hget : c.p < c.e → (c.s.take c.e).getD c.p 0 = c.get := fun h => getD_take h
  have hte : (c.s.take c.e).length = c.e := by rw [List.length_take]; omega
  repeat' (
      conv => whnf
      first
      | refine req_i ?_ ?_
      | refine when_i ?_ ?_
      | refine brn_not ?_
      | refine brn_dec (fun h => ?_) (fun h => ?_)
      | refine brn_int (fun h => ?_) (fun h => ?_)
      | refine brn_intne (fun h => ?_) (fun h => ?_)
      | refine brn_str (fun h => ?_) (fun h => ?_)
      | refine brn_i (fun h => ?_) (fun h => ?_)
      | with_reducible refine IdxK.mk _ rfl ?_
      | with_reducible refine idx_blI ?_ (fun hc => ?_)
      | with_reducible refine idx_bl ?_ (fun hc => ?_)
      | with_reducible refine idx_strI ?_ (fun hc => ?_)
      | with_reducible refine idx_str ?_ (fun hc => ?_)
      | with_reducible refine idx_mapDI ?_ ?_
      | with_reducible refine idx_mapD ?_ ?_
      | with_reducible refine idx_at ?_ (fun b hb => ?_)
      | refine ex_bl ?_
      | refine ex_b1 ?_ ?_
      | refine ex_b2 ?_ ?_ ?_
      | refine ex_b3 ?_ ?_ ?_ ?_
      | refine ex_b4 ?_ ?_ ?_ ?_ ?_
      | refine optK_setL ?_ ?_
      | refine optK_takeL ?_ ?_
      | with_reducible refine forceDs_i ?_
      )
  all_goals try (conv => whnf)
  all_goals try (refine Side.mk ?_; try dsimp only)
  all_goals (try simp only [show ((c.e : Int)).toNat = c.e from rfl] at *)
  all_goals (try simp only [Cu_eta] at *)
  all_goals first
    | (show LoopP _ _ _ _; skip)
    | (show GotoP _ _ _ _ _; skip)
    | (show EndP _ _ _ _ _ _; skip)
    | (show ∃ _, _; skip)
    | (first
          | trivial
          | omega
          | (simp (discharger := omega) only [wu8, wu16, wu32, wu64, wi32, wi64, Int.tdiv_eq_ediv_of_nonneg, Int.tmod_eq_emod_of_nonneg]; omega)
          | (simp only [List.length_append, List.length_cons, List.length_nil, bl_length, List.length_take, List.length_drop]; omega)
          | (simp (discharger := omega) [-List.getD_eq_getElem?_getD, wu8, wu16, wu32, wu64, wi32, wi64, Int.tdiv_eq_ediv_of_nonneg, Int.tmod_eq_emod_of_nonneg]; done)
          | (simp (discharger := omega) [-List.getD_eq_getElem?_getD, wu8, wu16, wu32, wu64, wi32, wi64, Int.tdiv_eq_ediv_of_nonneg, Int.tmod_eq_emod_of_nonneg]; omega))
    | skip
  all_goals (try rw [hget (by omega)] at *)
  all_goals first
    | (show EndP _ _ _ _ _ _
       unfold Cu.readD
       repeat (first | rw [if_pos (by omega)] | rw [if_neg (by omega)])
       refine EndP.mk [] ?_ <;> (repeat' (first | trivial | rfl | exact scopedL_bl _ _ | refine And.intro ?_ ?_ | refine congrArg V.str ?_ | refine congrArg (V.int _) ?_ | refine congrArg V.bool ?_ | refine congrArg (O.buf _ _) ?_ | refine congrArg O.cells ?_ | refine congrArg (V.list _ _) ?_ | refine congrArg V.agg ?_ | refine congrArg V.tuple ?_ | refine cons_eq ?_ ?_))
       done)
    | skip
  have hrd : c.readD = if (readDGo (c.s.take c.e) (c.e - c.p) (c.p + 1) []).1 = 0 then ({ c with p := (readDGo (c.s.take c.e) (c.e - c.p) (c.p + 1) []).2.1 }, (readDGo (c.s.take c.e) (c.e - c.p) (c.p + 1) []).2.2)
      else (c.fail (readDGo (c.s.take c.e) (c.e - c.p) (c.p + 1) []).1, []) := by
    unfold Cu.readD
    rw [if_neg (by omega), if_neg (by omega), if_neg (by omega)]
  rw [hrd]
  generalize hR : readDGo (c.s.take c.e) (c.e - c.p) (c.p + 1) [] = R
  generalize ht : c.s.take c.e = t at *
  refine LoopP.mk (Nat × Nat × List UInt8) (fun | (n, i, o) => t.length - i + 1 ≤ n ∧ i ≤ t.length + 12 ∧ o.length ≤ 12 * i ∧ readDGo t n i o = R)
    (fun | (n, i, o) => ⟨67, [(1, .ptr 0 0), (2, .ptr 1 0), (4, .str t), (5, .str o), (6, .int .i64 i)], [.cells (eC c), .cells [.str [], .int .i64 0, .int .i64 0, .int .i64 0]], []⟩) (fun x => x.1) [] (c.e - c.p, c.p + 1, []) ⟨by omega, by omega, by simp, hR⟩ ?_ (fun ⟨n, i, o⟩ ⟨hn, hi, ho, he⟩ _ _ => ?_)
  · refine Go.VG.Sub.mk rfl ?_ ?_ ?_ ?_ <;> (repeat' (first | trivial | rfl | exact scopedL_bl _ _ | refine And.intro ?_ ?_ | refine congrArg V.str ?_ | refine congrArg (V.int _) ?_ | refine congrArg V.bool ?_ | refine congrArg (O.buf _ _) ?_ | refine congrArg O.cells ?_ | refine congrArg (V.list _ _) ?_ | refine congrArg V.agg ?_ | refine congrArg V.tuple ?_ | refine cons_eq ?_ ?_))
    (first | omega | (simp (discharger := omega) only [wu8, wu16, wu32, wu64, wi32, wi64, Int.tdiv_eq_ediv_of_nonneg, Int.tmod_eq_emod_of_nonneg]; omega) | (simp only [List.length_append, List.length_cons, List.length_nil, bl_length, List.length_take, List.length_drop]; omega) | (simp (discharger := omega) [-List.getD_eq_getElem?_getD, wu8, wu16, wu32, wu64, wi32, wi64, Int.tdiv_eq_ediv_of_nonneg, Int.tmod_eq_emod_of_nonneg]; done) | (simp (discharger := omega) [-List.getD_eq_getElem?_getD, wu8, wu16, wu32, wu64, wi32, wi64, Int.tdiv_eq_ediv_of_nonneg, Int.tmod_eq_emod_of_nonneg]; omega))
  have hpn := part_next t i
  obtain ⟨n, rfl⟩ : ∃ m, n = m + 1 := ⟨n - 1, by omega⟩
  rw [readDGo] at he
  repeat' (
      conv => whnf
      first
      | refine req_i ?_ ?_
      | refine when_i ?_ ?_
      | refine brn_not ?_
      | refine brn_dec (fun h => ?_) (fun h => ?_)
      | refine brn_int (fun h => ?_) (fun h => ?_)
      | refine brn_intne (fun h => ?_) (fun h => ?_)
      | refine brn_str (fun h => ?_) (fun h => ?_)
      | refine brn_i (fun h => ?_) (fun h => ?_)
      | with_reducible refine IdxK.mk _ rfl ?_
      | with_reducible refine idx_blI ?_ (fun hc => ?_)
      | with_reducible refine idx_bl ?_ (fun hc => ?_)
      | with_reducible refine idx_strI ?_ (fun hc => ?_)
      | with_reducible refine idx_str ?_ (fun hc => ?_)
      | with_reducible refine idx_mapDI ?_ ?_
      | with_reducible refine idx_mapD ?_ ?_
      | with_reducible refine idx_at ?_ (fun b hb => ?_)
      | refine ex_bl ?_
      | refine ex_b1 ?_ ?_
      | refine ex_b2 ?_ ?_ ?_
      | refine ex_b3 ?_ ?_ ?_ ?_
      | refine ex_b4 ?_ ?_ ?_ ?_ ?_
      | refine optK_setL ?_ ?_
      | refine optK_takeL ?_ ?_
      | with_reducible refine forceDs_i ?_
      )
  all_goals try (conv => whnf)
  all_goals try (refine Side.mk ?_; try dsimp only)
  all_goals (try simp only [Cu_eta] at *)
  all_goals first
    | (show LoopP _ _ _ _; skip)
    | (show GotoP _ _ _ _ _; skip)
    | (show EndP _ _ _ _ _ _; skip)
    | (show ∃ _, _; skip)
    | (first
          | trivial
          | omega
          | (simp (discharger := omega) only [wu8, wu16, wu32, wu64, wi32, wi64, Int.tdiv_eq_ediv_of_nonneg, Int.tmod_eq_emod_of_nonneg]; omega)
          | (simp only [List.length_append, List.length_cons, List.length_nil, bl_length, List.length_take, List.length_drop]; omega)
          | (simp (discharger := omega) [-List.getD_eq_getElem?_getD, wu8, wu16, wu32, wu64, wi32, wi64, Int.tdiv_eq_ediv_of_nonneg, Int.tmod_eq_emod_of_nonneg]; done)
          | (simp (discharger := omega) [-List.getD_eq_getElem?_getD, wu8, wu16, wu32, wu64, wi32, wi64, Int.tdiv_eq_ediv_of_nonneg, Int.tmod_eq_emod_of_nonneg]; omega))
    | skip
  all_goals (repeat (first | rw [if_pos (by omega)] at he | rw [if_neg (by omega)] at he))
  · rw [← he]
    rw [if_pos rfl]
    refine EndP.mk [] ?_ <;> (repeat' (first | trivial | rfl | exact scopedL_bl _ _ | refine And.intro ?_ ?_ | refine congrArg V.str ?_ | refine congrArg (V.int _) ?_ | refine congrArg V.bool ?_ | refine congrArg (O.buf _ _) ?_ | refine congrArg O.cells ?_ | refine congrArg (V.list _ _) ?_ | refine congrArg V.agg ?_ | refine congrArg V.tuple ?_ | refine cons_eq ?_ ?_))
    (first | omega | (simp (discharger := omega) only [wu8, wu16, wu32, wu64, wi32, wi64, Int.tdiv_eq_ediv_of_nonneg, Int.tmod_eq_emod_of_nonneg]; omega) | (simp only [List.length_append, List.length_cons, List.length_nil, bl_length, List.length_take, List.length_drop]; omega) | (simp (discharger := omega) [-List.getD_eq_getElem?_getD, wu8, wu16, wu32, wu64, wi32, wi64, Int.tdiv_eq_ediv_of_nonneg, Int.tmod_eq_emod_of_nonneg]; done) | (simp (discharger := omega) [-List.getD_eq_getElem?_getD, wu8, wu16, wu32, wu64, wi32, wi64, Int.tdiv_eq_ediv_of_nonneg, Int.tmod_eq_emod_of_nonneg]; omega))
  · have hq := hpn (by omega)
    refine ⟨[], (n, (partD t i).2.1.toNat, o ++ (partD t i).1), ⟨?_, ?_, ?_, he⟩, ?_, by show n < n + 1; omega⟩
    · show t.length - (partD t i).2.1.toNat + 1 ≤ n; omega
    · show (partD t i).2.1.toNat ≤ t.length + 12; omega
    · show (o ++ (partD t i).1).length ≤ 12 * (partD t i).2.1.toNat
      rw [List.length_append]; omega
    · refine Go.VG.Sub.mk rfl ?_ ?_ ?_ ?_ <;> (repeat' (first | trivial | rfl | exact scopedL_bl _ _ | refine And.intro ?_ ?_ | refine congrArg V.str ?_ | refine congrArg (V.int _) ?_ | refine congrArg V.bool ?_ | refine congrArg (O.buf _ _) ?_ | refine congrArg O.cells ?_ | refine congrArg (V.list _ _) ?_ | refine congrArg V.agg ?_ | refine congrArg V.tuple ?_ | refine cons_eq ?_ ?_))
      show (partD t i).2.1 = (((partD t i).2.1.toNat : Nat) : Int)
      omega
  · rw [← he, if_neg (by assumption)]
    refine EndP.mk [] ?_ <;> (repeat' (first | trivial | rfl | exact scopedL_bl _ _ | refine And.intro ?_ ?_ | refine congrArg V.str ?_ | refine congrArg (V.int _) ?_ | refine congrArg V.bool ?_ | refine congrArg (O.buf _ _) ?_ | refine congrArg O.cells ?_ | refine congrArg (V.list _ _) ?_ | refine congrArg V.agg ?_ | refine congrArg V.tuple ?_ | refine cons_eq ?_ ?_))
  · rw [← he, if_neg (by decide)]
    refine EndP.mk [] ?_ <;> (repeat' (first | trivial | rfl | exact scopedL_bl _ _ | refine And.intro ?_ ?_ | refine congrArg V.str ?_ | refine congrArg (V.int _) ?_ | refine congrArg V.bool ?_ | refine congrArg (O.buf _ _) ?_ | refine congrArg O.cells ?_ | refine congrArg (V.list _ _) ?_ | refine congrArg V.agg ?_ | refine congrArg V.tuple ?_ | refine cons_eq ?_ ?_))
def sm_r10Read : Sm := fun args σ => match args, σ with
  | [.agg ([.str s_c, .int .i64 (.ofNat a_c), .int .i64 (.ofNat e_c), .int .i64 c_c])], [] => some (True ∧ ((Cu.mk s_c a_c e_c c_c).ok ∧ (Cu.mk s_c a_c e_c c_c).s.length ≤ 10000000), .tuple [.agg (eC (Cu.mk s_c a_c e_c c_c).readD.1), .str (Cu.mk s_c a_c e_c c_c).readD.2], none)
  | _, _ => none
theorem k_r10Read : SOK 50 sm_r10Read := by
  intro args sg pre x r he hp
  unfold sm_r10Read at he
  split at he <;> cases he
  · rw [viewC (hp).1]; exact f_r10Read_1 (hp := hp.2) ..
end Go.Proofs.Ytllncocibkgjkaa
