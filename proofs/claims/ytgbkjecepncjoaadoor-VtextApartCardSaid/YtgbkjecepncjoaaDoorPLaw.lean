/-
  Sameness of values, and the law on texts.
-/
import Derived.Test.YtgbkjecepncjoaaDoorPRef
set_option linter.unusedSimpArgs false
set_option linter.unusedVariables false
namespace Go.Proofs.YtgbkjecepncjoaaDoor
open Go Go.VG
set_option maxRecDepth 100000
mutual
def same : Val → Val → Bool
  | .mk k t n b l m, w => decide (k = w.kind) && decide (t = w.text) && decide (n = w.num) && decide (b = w.bits) && sameL l w.list && sameM m w.map
def sameL : List Val → List Val → Bool
  | [], [] => true
  | v :: r, w :: s => same v w && sameL r s
  | _, _ => false
def sameA : Att → Att → Bool
  | .mk k v, b => decide (k = b.key) && same v b.value
def sameM : List Att → List Att → Bool
  | [], [] => true
  | v :: r, w :: s => sameA v w && sameM r s
  | _, _ => false
end
mutual
theorem same_iff : ∀ v w : Val, same v w = true ↔ v = w
  | .mk k t n b l m, .mk k' t' n' b' l' m' => by
    simp only [same]
    simp only [Val.kind, Val.text, Val.num, Val.bits, Val.list, Val.map]
    simp only [Bool.and_eq_true, decide_eq_true_eq, sameL_iff l l', sameM_iff m m', Val.mk.injEq]
    constructor
    · rintro ⟨⟨⟨⟨⟨a, b⟩, c⟩, d⟩, e⟩, f⟩; exact ⟨of_decide_eq_true a, of_decide_eq_true b, of_decide_eq_true c, of_decide_eq_true d, e, f⟩
    · rintro ⟨a, b, c, d, e, f⟩; exact ⟨⟨⟨⟨⟨decide_eq_true a, decide_eq_true b⟩, decide_eq_true c⟩, decide_eq_true d⟩, e⟩, f⟩
theorem sameL_iff : ∀ v w : List Val, sameL v w = true ↔ v = w
  | [], [] => by simp [sameL]
  | v :: r, w :: s => by simp only [sameL, Bool.and_eq_true, same_iff v w, sameL_iff r s, List.cons.injEq]
  | [], _ :: _ => by simp [sameL]
  | _ :: _, [] => by simp [sameL]
theorem sameA_iff : ∀ v w : Att, sameA v w = true ↔ v = w
  | .mk k v, .mk k' v' => by
    simp only [sameA]
    simp only [Att.key, Att.value]
    simp only [Bool.and_eq_true, same_iff v v', Att.mk.injEq]
    exact ⟨fun ⟨a, b⟩ => ⟨of_decide_eq_true a, b⟩, fun ⟨a, b⟩ => ⟨decide_eq_true a, b⟩⟩
theorem sameM_iff : ∀ v w : List Att, sameM v w = true ↔ v = w
  | [], [] => by simp [sameM]
  | v :: r, w :: s => by simp only [sameM, Bool.and_eq_true, sameA_iff v w, sameM_iff r s, List.cons.injEq]
  | [], _ :: _ => by simp [sameM]
  | _ :: _, [] => by simp [sameM]
end
theorem sameL_drop {l m : List Val} {i : Nat} (hi : i < l.length) (hm : l.length = m.length) : sameL (l.drop i) (m.drop i) = (same (l.getD i default) (m.getD i default) && sameL (l.drop (i + 1)) (m.drop (i + 1))) := by
  rw [List.drop_eq_getElem_cons hi, List.drop_eq_getElem_cons (by omega : i < m.length), sameL, List.getD_eq_getElem?_getD, List.getD_eq_getElem?_getD, List.getElem?_eq_getElem hi, List.getElem?_eq_getElem (by omega : i < m.length)]; rfl
theorem sameM_drop {l m : List Att} {i : Nat} (hi : i < l.length) (hm : l.length = m.length) : sameM (l.drop i) (m.drop i) = (sameA (l.getD i default) (m.getD i default) && sameM (l.drop (i + 1)) (m.drop (i + 1))) := by
  rw [List.drop_eq_getElem_cons hi, List.drop_eq_getElem_cons (by omega : i < m.length), sameM, List.getD_eq_getElem?_getD, List.getD_eq_getElem?_getD, List.getElem?_eq_getElem hi, List.getElem?_eq_getElem (by omega : i < m.length)]; rfl
theorem sameA_eq (a b : Att) : sameA a b = (decide (a.key = b.key) && same a.value b.value) := by cases a; simp only [sameA]; rfl
theorem sameL_len {l m : List Val} (h : l.length ≠ m.length) : sameL l m = false := by
  cases hs : sameL l m with
  | false => rfl
  | true => rw [sameL_iff] at hs; subst hs; exact absurd rfl h
theorem sameM_len {l m : List Att} (h : l.length ≠ m.length) : sameM l m = false := by
  cases hs : sameM l m with
  | false => rfl
  | true => rw [sameM_iff] at hs; subst hs; exact absurd rfl h
theorem same_eq (v w : Val) : same v w = (decide (v.kind = w.kind) && decide (v.text = w.text) && decide (v.num = w.num) && decide (v.bits = w.bits) && sameL v.list w.list && sameM v.map w.map) := by
  cases v; simp only [same]; rfl
def smSame (k : Nat) : Sm := fun args σ => match args, σ with
  | [x, y], [] => some (isV x ∧ isV y ∧ (decV x).nodes < k, .bool (same (decV x) (decV y)), none)
  | _, _ => none
def smSameM (k : Nat) : Sm := fun args σ => match args, σ with
  | [x, y], [] => some (isM x ∧ isM y ∧ nodesM (decMv x) < k, .bool (sameM (decMv x) (decMv y)), none)
  | _, _ => none
theorem smSame_ok {k : Nat} (h : ∀ v w, v.nodes < k → OK 12 [ev v, ev w] [] (.bool (same v w)) none) : SOK 12 (smSame k) := by
  intro args sg pre x r he hp
  unfold smSame at he
  split at he <;> cases he
  exact (h _ _ hp.2.2).args (WkL.cons hp.1 (WkL.cons hp.2.1 WkL.nil))
theorem smSameM_ok {k : Nat} (h : ∀ v w, nodesM v < k → OK 21 [.list false 7 (encM v), .list false 7 (encM w)] [] (.bool (sameM v w)) none) : SOK 21 (smSameM k) := by
  intro args sg pre x r he hp
  unfold smSameM at he
  split at he <;> cases he
  exact (h _ _ hp.2.2).args (WkL.cons hp.1 (WkL.cons hp.2.1 WkL.nil))
theorem f_Same {k : Nat} (h1 : SOK 12 (smSame k)) (h2 : SOK 21 (smSameM k)) (v w : Val) (hk : v.nodes < k + 1) : OK 12 [ev v, ev w] [] (.bool (same v w)) none := by
  refine funOK_of_vc (C := cx [(12, smSame k), (21, smSameM k)]) (good ⟨h1, h2, trivial⟩) (fn := Tryd.f12) rfl rfl rfl rfl fun hw _ => ?_
  have hb := wf_ev hw.1
  have hb2 := wf_ev hw.2.1
  have e1 := encL_length v.list
  have e2 := encL_length w.list
  have hs := same_eq v w
  repeat' (
      conv => whnf
      first
      | refine req_i ?_ ?_
      | refine when_i ?_ ?_
      | refine brn_not ?_
      | refine brn_dec (fun h => ?_) (fun h => ?_)
      | refine brn_int (fun h => ?_) (fun h => ?_)
      | refine brn_intne (fun h => ?_) (fun h => ?_)
      | refine brn_str (fun h => ?_) (fun h => ?_)
      | refine brn_i (fun h => ?_) (fun h => ?_)
      | with_reducible refine IdxK.mk _ rfl ?_
      | with_reducible refine idx_blI ?_ (fun hc => ?_)
      | with_reducible refine idx_bl ?_ (fun hc => ?_)
      | with_reducible refine idx_strI ?_ (fun hc => ?_)
      | with_reducible refine idx_str ?_ (fun hc => ?_)
      | with_reducible refine idx_mapDI ?_ ?_
      | with_reducible refine idx_mapD ?_ ?_
      | with_reducible refine idx_encL ?_ ?_
      | with_reducible refine idx_encM ?_ ?_
      | with_reducible refine idx_at ?_ (fun b hb => ?_)
      | refine ex_bl ?_
      | refine ex_b1 ?_ ?_
      | refine ex_b2 ?_ ?_ ?_
      | refine ex_b3 ?_ ?_ ?_ ?_
      | refine ex_b4 ?_ ?_ ?_ ?_ ?_
      | refine optK_setL ?_ ?_
      | refine optK_takeL ?_ ?_
      | with_reducible refine forceDs_i ?_
      )
  all_goals try (conv => whnf)
  all_goals try (refine Side.mk ?_; try dsimp only)
  all_goals first
    | ((refine And.intro (isV_ev _) ?_; simp only [decV_ev]; repeat' (refine And.intro ?_ ?_)); all_goals (first | assumption | omega); done)
    | ((refine And.intro (isM_enc _) ?_; simp only [decMv_enc]; repeat' (refine And.intro ?_ ?_)); all_goals (first | assumption | omega); done)
    | (exact isV_ev _)
    | (exact isM_enc _)
    | (exact isL_enc _)
    | (show LoopP _ _ _ _; skip)
    | (show EndP _ _ _ _ _ _; skip)
    | (show ∃ _, _; skip)
    | (first
          | trivial
          | omega
          | (simp (discharger := omega) only [wu8, wu16, wu32, wu64, wi32, wi64, Int.tdiv_eq_ediv_of_nonneg, Int.tmod_eq_emod_of_nonneg]; omega)
          | (simp only [List.length_append, List.length_cons, List.length_nil, bl_length, List.length_take, List.length_drop]; omega)
          | (simp (discharger := omega) [-List.getD_eq_getElem?_getD, wu8, wu16, wu32, wu64, wi32, wi64, Int.tdiv_eq_ediv_of_nonneg, Int.tmod_eq_emod_of_nonneg]; done)
          | (simp (discharger := omega) [-List.getD_eq_getElem?_getD, wu8, wu16, wu32, wu64, wi32, wi64, Int.tdiv_eq_ediv_of_nonneg, Int.tmod_eq_emod_of_nonneg]; omega))
    | skip
  · have hl : v.list.length = w.list.length := by omega
    have hs' : same v w = (sameL v.list w.list && sameM v.map w.map) := by rw [hs]; simp_all
    refine LoopP.mk Nat (fun i => i ≤ v.list.length ∧ same v w = (sameL (v.list.drop i) (w.list.drop i) && sameM v.map w.map)) (fun i => ⟨65, [(2, .ptr 0 0), (3, .ptr 1 0), (5, .int .i64 i)], [.cells (cv v), .cells (cv w)], []⟩) (fun i => v.list.length - i) [] 0 ⟨Nat.zero_le _, hs'⟩ ?_ (fun i ⟨hi, he⟩ _ _ => ?_)
    · refine Go.VG.Sub.mk rfl ?_ ?_ ?_ ?_ <;> (repeat' (first | trivial | rfl | exact scopedL_bl _ _ | refine And.intro ?_ ?_ | refine congrArg V.str ?_ | refine congrArg (V.int _) ?_ | refine congrArg V.bool ?_ | refine congrArg (O.buf _ _) ?_ | refine congrArg O.cells ?_ | refine congrArg (V.list _ _) ?_ | refine congrArg V.agg ?_ | refine congrArg V.tuple ?_ | refine cons_eq ?_ ?_))
    clear hs hs'
    repeat' (
        conv => whnf
        first
        | refine req_i ?_ ?_
        | refine when_i ?_ ?_
        | refine brn_not ?_
        | refine brn_dec (fun h => ?_) (fun h => ?_)
        | refine brn_int (fun h => ?_) (fun h => ?_)
        | refine brn_intne (fun h => ?_) (fun h => ?_)
        | refine brn_str (fun h => ?_) (fun h => ?_)
        | refine brn_i (fun h => ?_) (fun h => ?_)
        | with_reducible refine IdxK.mk _ rfl ?_
        | with_reducible refine idx_blI ?_ (fun hc => ?_)
        | with_reducible refine idx_bl ?_ (fun hc => ?_)
        | with_reducible refine idx_strI ?_ (fun hc => ?_)
        | with_reducible refine idx_str ?_ (fun hc => ?_)
        | with_reducible refine idx_mapDI ?_ ?_
        | with_reducible refine idx_mapD ?_ ?_
        | with_reducible refine idx_encL ?_ ?_
        | with_reducible refine idx_encM ?_ ?_
        | with_reducible refine idx_at ?_ (fun b hb => ?_)
        | refine ex_bl ?_
        | refine ex_b1 ?_ ?_
        | refine ex_b2 ?_ ?_ ?_
        | refine ex_b3 ?_ ?_ ?_ ?_
        | refine ex_b4 ?_ ?_ ?_ ?_ ?_
        | refine optK_setL ?_ ?_
        | refine optK_takeL ?_ ?_
        | with_reducible refine forceDs_i ?_
        )
    all_goals try (conv => whnf)
    all_goals try (refine Side.mk ?_; try dsimp only)
    all_goals first
      | ((refine And.intro (isV_ev _) ?_; simp only [decV_ev]; repeat' (refine And.intro ?_ ?_)); all_goals (first | assumption | omega); done)
      | ((refine And.intro (isM_enc _) ?_; simp only [decMv_enc]; repeat' (refine And.intro ?_ ?_)); all_goals (first | assumption | omega); done)
      | (exact isV_ev _)
      | (exact isM_enc _)
      | (exact isL_enc _)
      | (show LoopP _ _ _ _; skip)
      | (show EndP _ _ _ _ _ _; skip)
      | (show ∃ _, _; skip)
      | (first
            | trivial
            | omega
            | (simp (discharger := omega) only [wu8, wu16, wu32, wu64, wi32, wi64, Int.tdiv_eq_ediv_of_nonneg, Int.tmod_eq_emod_of_nonneg]; omega)
            | (simp only [List.length_append, List.length_cons, List.length_nil, bl_length, List.length_take, List.length_drop]; omega)
            | (simp (discharger := omega) [-List.getD_eq_getElem?_getD, wu8, wu16, wu32, wu64, wi32, wi64, Int.tdiv_eq_ediv_of_nonneg, Int.tmod_eq_emod_of_nonneg]; done)
            | (simp (discharger := omega) [-List.getD_eq_getElem?_getD, wu8, wu16, wu32, wu64, wi32, wi64, Int.tdiv_eq_ediv_of_nonneg, Int.tmod_eq_emod_of_nonneg]; omega))
      | skip
    · refine ⟨isV_ev _, isV_ev _, ?_⟩
      have q3 := nodes_eq v
      have q4 := nodesL_get (l := v.list) (i := i) (by omega)
      rw [decV_ev]; omega
    · rw [decV_ev, decV_ev] at h
      rw [sameL_drop (by omega) hl, h, Bool.true_and] at he
      refine ⟨[], i + 1, ⟨by omega, he⟩, ?_, by omega⟩
      refine Go.VG.Sub.mk rfl ?_ ?_ ?_ ?_ <;> (repeat' (first | trivial | rfl | exact scopedL_bl _ _ | refine And.intro ?_ ?_ | refine congrArg V.str ?_ | refine congrArg (V.int _) ?_ | refine congrArg V.bool ?_ | refine congrArg (O.buf _ _) ?_ | refine congrArg O.cells ?_ | refine congrArg (V.list _ _) ?_ | refine congrArg V.agg ?_ | refine congrArg V.tuple ?_ | refine cons_eq ?_ ?_))
      (first | omega | (simp (discharger := omega) only [wu8, wu16, wu32, wu64, wi32, wi64, Int.tdiv_eq_ediv_of_nonneg, Int.tmod_eq_emod_of_nonneg]; omega) | (simp only [List.length_append, List.length_cons, List.length_nil, bl_length, List.length_take, List.length_drop]; omega) | (simp (discharger := omega) [-List.getD_eq_getElem?_getD, wu8, wu16, wu32, wu64, wi32, wi64, Int.tdiv_eq_ediv_of_nonneg, Int.tmod_eq_emod_of_nonneg]; done) | (simp (discharger := omega) [-List.getD_eq_getElem?_getD, wu8, wu16, wu32, wu64, wi32, wi64, Int.tdiv_eq_ediv_of_nonneg, Int.tmod_eq_emod_of_nonneg]; omega))
    · rw [decV_ev, decV_ev] at h
      rw [sameL_drop (by omega) hl, h] at he
      refine EndP.mk [] ?_ <;> (repeat' (first | trivial | rfl | exact scopedL_bl _ _ | refine And.intro ?_ ?_ | refine congrArg V.str ?_ | refine congrArg (V.int _) ?_ | refine congrArg V.bool ?_ | refine congrArg (O.buf _ _) ?_ | refine congrArg O.cells ?_ | refine congrArg (V.list _ _) ?_ | refine congrArg V.agg ?_ | refine congrArg V.tuple ?_ | refine cons_eq ?_ ?_))
      rw [he]; rfl
    · refine ⟨isM_enc _, isM_enc _, ?_⟩
      have q3 := nodes_eq v
      rw [decMv_enc]; omega
    · refine EndP.mk [] ?_ <;> (repeat' (first | trivial | rfl | exact scopedL_bl _ _ | refine And.intro ?_ ?_ | refine congrArg V.str ?_ | refine congrArg (V.int _) ?_ | refine congrArg V.bool ?_ | refine congrArg (O.buf _ _) ?_ | refine congrArg O.cells ?_ | refine congrArg (V.list _ _) ?_ | refine congrArg V.agg ?_ | refine congrArg V.tuple ?_ | refine cons_eq ?_ ?_))
      rw [decMv_enc, decMv_enc, he, List.drop_of_length_le (by omega), List.drop_of_length_le (by omega)]
      simp [sameL]
  · rw [hs, sameL_len (by omega)]
    refine EndP.mk [] ?_ <;> (repeat' (first | trivial | rfl | exact scopedL_bl _ _ | refine And.intro ?_ ?_ | refine congrArg V.str ?_ | refine congrArg (V.int _) ?_ | refine congrArg V.bool ?_ | refine congrArg (O.buf _ _) ?_ | refine congrArg O.cells ?_ | refine congrArg (V.list _ _) ?_ | refine congrArg V.agg ?_ | refine congrArg V.tuple ?_ | refine cons_eq ?_ ?_))
    simp
  all_goals
    rw [hs]
    refine EndP.mk [] ?_ <;> (repeat' (first | trivial | rfl | exact scopedL_bl _ _ | refine And.intro ?_ ?_ | refine congrArg V.str ?_ | refine congrArg (V.int _) ?_ | refine congrArg V.bool ?_ | refine congrArg (O.buf _ _) ?_ | refine congrArg O.cells ?_ | refine congrArg (V.list _ _) ?_ | refine congrArg V.agg ?_ | refine congrArg V.tuple ?_ | refine cons_eq ?_ ?_))
    simp_all
    done
theorem f_SameM {k : Nat} (h1 : SOK 12 (smSame (k + 1))) (v w : List Att) (hk : nodesM v < k + 1) : OK 21 [.list false 7 (encM v), .list false 7 (encM w)] [] (.bool (sameM v w)) none := by
  refine funOK_of_vc (C := cx [(12, smSame (k + 1))]) (good ⟨h1, trivial⟩) (fn := Tryd.f21) rfl rfl rfl rfl fun hw _ => ?_
  have e1 := encM_length v
  have e2 := encM_length w
  have hb : v.length ≤ 9223372036854775807 := by have := hw.1.1; rw [encM_length] at this; exact this
  repeat' (
      conv => whnf
      first
      | refine req_i ?_ ?_
      | refine when_i ?_ ?_
      | refine brn_not ?_
      | refine brn_dec (fun h => ?_) (fun h => ?_)
      | refine brn_int (fun h => ?_) (fun h => ?_)
      | refine brn_intne (fun h => ?_) (fun h => ?_)
      | refine brn_str (fun h => ?_) (fun h => ?_)
      | refine brn_i (fun h => ?_) (fun h => ?_)
      | with_reducible refine IdxK.mk _ rfl ?_
      | with_reducible refine idx_blI ?_ (fun hc => ?_)
      | with_reducible refine idx_bl ?_ (fun hc => ?_)
      | with_reducible refine idx_strI ?_ (fun hc => ?_)
      | with_reducible refine idx_str ?_ (fun hc => ?_)
      | with_reducible refine idx_mapDI ?_ ?_
      | with_reducible refine idx_mapD ?_ ?_
      | with_reducible refine idx_encL ?_ ?_
      | with_reducible refine idx_encM ?_ ?_
      | with_reducible refine idx_at ?_ (fun b hb => ?_)
      | refine ex_bl ?_
      | refine ex_b1 ?_ ?_
      | refine ex_b2 ?_ ?_ ?_
      | refine ex_b3 ?_ ?_ ?_ ?_
      | refine ex_b4 ?_ ?_ ?_ ?_ ?_
      | refine optK_setL ?_ ?_
      | refine optK_takeL ?_ ?_
      | with_reducible refine forceDs_i ?_
      )
  all_goals try (conv => whnf)
  all_goals try (refine Side.mk ?_; try dsimp only)
  all_goals first
    | ((refine And.intro (isV_ev _) ?_; simp only [decV_ev]; repeat' (refine And.intro ?_ ?_)); all_goals (first | assumption | omega); done)
    | ((refine And.intro (isM_enc _) ?_; simp only [decMv_enc]; repeat' (refine And.intro ?_ ?_)); all_goals (first | assumption | omega); done)
    | (exact isV_ev _)
    | (exact isM_enc _)
    | (exact isL_enc _)
    | (show LoopP _ _ _ _; skip)
    | (show EndP _ _ _ _ _ _; skip)
    | (show ∃ _, _; skip)
    | (first
          | trivial
          | omega
          | (simp (discharger := omega) only [wu8, wu16, wu32, wu64, wi32, wi64, Int.tdiv_eq_ediv_of_nonneg, Int.tmod_eq_emod_of_nonneg]; omega)
          | (simp only [List.length_append, List.length_cons, List.length_nil, bl_length, List.length_take, List.length_drop]; omega)
          | (simp (discharger := omega) [-List.getD_eq_getElem?_getD, wu8, wu16, wu32, wu64, wi32, wi64, Int.tdiv_eq_ediv_of_nonneg, Int.tmod_eq_emod_of_nonneg]; done)
          | (simp (discharger := omega) [-List.getD_eq_getElem?_getD, wu8, wu16, wu32, wu64, wi32, wi64, Int.tdiv_eq_ediv_of_nonneg, Int.tmod_eq_emod_of_nonneg]; omega))
    | skip
  · have hl : v.length = w.length := by omega
    refine LoopP.mk Nat (fun i => i ≤ v.length ∧ sameM v w = sameM (v.drop i) (w.drop i)) (fun i => ⟨42, [(0, .list false 7 (encM v)), (1, .list false 7 (encM w)), (5, .int .i64 i)], [], []⟩) (fun i => v.length - i) [] 0 ⟨Nat.zero_le _, rfl⟩ ?_ (fun i ⟨hi, he⟩ _ _ => ?_)
    · refine Go.VG.Sub.mk rfl ?_ ?_ ?_ ?_ <;> (repeat' (first | trivial | rfl | exact scopedL_bl _ _ | refine And.intro ?_ ?_ | refine congrArg V.str ?_ | refine congrArg (V.int _) ?_ | refine congrArg V.bool ?_ | refine congrArg (O.buf _ _) ?_ | refine congrArg O.cells ?_ | refine congrArg (V.list _ _) ?_ | refine congrArg V.agg ?_ | refine congrArg V.tuple ?_ | refine cons_eq ?_ ?_))
    have q4 : i < v.length → (v.getD i default).value.nodes ≤ nodesM v := fun h => nodesM_get h
    repeat' (
        conv => whnf
        first
        | refine req_i ?_ ?_
        | refine when_i ?_ ?_
        | refine brn_not ?_
        | refine brn_dec (fun h => ?_) (fun h => ?_)
        | refine brn_int (fun h => ?_) (fun h => ?_)
        | refine brn_intne (fun h => ?_) (fun h => ?_)
        | refine brn_str (fun h => ?_) (fun h => ?_)
        | refine brn_i (fun h => ?_) (fun h => ?_)
        | with_reducible refine IdxK.mk _ rfl ?_
        | with_reducible refine idx_blI ?_ (fun hc => ?_)
        | with_reducible refine idx_bl ?_ (fun hc => ?_)
        | with_reducible refine idx_strI ?_ (fun hc => ?_)
        | with_reducible refine idx_str ?_ (fun hc => ?_)
        | with_reducible refine idx_mapDI ?_ ?_
        | with_reducible refine idx_mapD ?_ ?_
        | with_reducible refine idx_encL ?_ ?_
        | with_reducible refine idx_encM ?_ ?_
        | with_reducible refine idx_at ?_ (fun b hb => ?_)
        | refine ex_bl ?_
        | refine ex_b1 ?_ ?_
        | refine ex_b2 ?_ ?_ ?_
        | refine ex_b3 ?_ ?_ ?_ ?_
        | refine ex_b4 ?_ ?_ ?_ ?_ ?_
        | refine optK_setL ?_ ?_
        | refine optK_takeL ?_ ?_
        | with_reducible refine forceDs_i ?_
        )
    all_goals try (conv => whnf)
    all_goals try (refine Side.mk ?_; try dsimp only)
    all_goals first
      | ((refine And.intro (isV_ev _) ?_; simp only [decV_ev]; repeat' (refine And.intro ?_ ?_)); all_goals (first | assumption | omega); done)
      | ((refine And.intro (isM_enc _) ?_; simp only [decMv_enc]; repeat' (refine And.intro ?_ ?_)); all_goals (first | assumption | omega); done)
      | (exact isV_ev _)
      | (exact isM_enc _)
      | (exact isL_enc _)
      | (show LoopP _ _ _ _; skip)
      | (show EndP _ _ _ _ _ _; skip)
      | (show ∃ _, _; skip)
      | (first
            | trivial
            | omega
            | (simp (discharger := omega) only [wu8, wu16, wu32, wu64, wi32, wi64, Int.tdiv_eq_ediv_of_nonneg, Int.tmod_eq_emod_of_nonneg]; omega)
            | (simp only [List.length_append, List.length_cons, List.length_nil, bl_length, List.length_take, List.length_drop]; omega)
            | (simp (discharger := omega) [-List.getD_eq_getElem?_getD, wu8, wu16, wu32, wu64, wi32, wi64, Int.tdiv_eq_ediv_of_nonneg, Int.tmod_eq_emod_of_nonneg]; done)
            | (simp (discharger := omega) [-List.getD_eq_getElem?_getD, wu8, wu16, wu32, wu64, wi32, wi64, Int.tdiv_eq_ediv_of_nonneg, Int.tmod_eq_emod_of_nonneg]; omega))
      | skip
    · refine ⟨isV_ev _, isV_ev _, ?_⟩
      have := q4 (by omega)
      rw [decV_ev]; omega
    · rw [decV_ev, decV_ev] at h
      rw [sameM_drop (by omega) hl, sameA_eq, h, decide_eq_true (by assumption), Bool.true_and, Bool.true_and] at he
      refine ⟨[], i + 1, ⟨by omega, he⟩, ?_, by omega⟩
      refine Go.VG.Sub.mk rfl ?_ ?_ ?_ ?_ <;> (repeat' (first | trivial | rfl | exact scopedL_bl _ _ | refine And.intro ?_ ?_ | refine congrArg V.str ?_ | refine congrArg (V.int _) ?_ | refine congrArg V.bool ?_ | refine congrArg (O.buf _ _) ?_ | refine congrArg O.cells ?_ | refine congrArg (V.list _ _) ?_ | refine congrArg V.agg ?_ | refine congrArg V.tuple ?_ | refine cons_eq ?_ ?_))
      (first | omega | (simp (discharger := omega) only [wu8, wu16, wu32, wu64, wi32, wi64, Int.tdiv_eq_ediv_of_nonneg, Int.tmod_eq_emod_of_nonneg]; omega) | (simp only [List.length_append, List.length_cons, List.length_nil, bl_length, List.length_take, List.length_drop]; omega) | (simp (discharger := omega) [-List.getD_eq_getElem?_getD, wu8, wu16, wu32, wu64, wi32, wi64, Int.tdiv_eq_ediv_of_nonneg, Int.tmod_eq_emod_of_nonneg]; done) | (simp (discharger := omega) [-List.getD_eq_getElem?_getD, wu8, wu16, wu32, wu64, wi32, wi64, Int.tdiv_eq_ediv_of_nonneg, Int.tmod_eq_emod_of_nonneg]; omega))
    · rw [decV_ev, decV_ev] at h
      rw [sameM_drop (by omega) hl, sameA_eq, h, Bool.and_false, Bool.false_and] at he
      rw [he]
      refine EndP.mk [] ?_ <;> (repeat' (first | trivial | rfl | exact scopedL_bl _ _ | refine And.intro ?_ ?_ | refine congrArg V.str ?_ | refine congrArg (V.int _) ?_ | refine congrArg V.bool ?_ | refine congrArg (O.buf _ _) ?_ | refine congrArg O.cells ?_ | refine congrArg (V.list _ _) ?_ | refine congrArg V.agg ?_ | refine congrArg V.tuple ?_ | refine cons_eq ?_ ?_))
    · rw [sameM_drop (by omega) hl, sameA_eq, decide_eq_false (by assumption), Bool.false_and, Bool.false_and] at he
      rw [he]
      refine EndP.mk [] ?_ <;> (repeat' (first | trivial | rfl | exact scopedL_bl _ _ | refine And.intro ?_ ?_ | refine congrArg V.str ?_ | refine congrArg (V.int _) ?_ | refine congrArg V.bool ?_ | refine congrArg (O.buf _ _) ?_ | refine congrArg O.cells ?_ | refine congrArg (V.list _ _) ?_ | refine congrArg V.agg ?_ | refine congrArg V.tuple ?_ | refine cons_eq ?_ ?_))
    · rw [List.drop_of_length_le (by omega), List.drop_of_length_le (by omega)] at he
      rw [he]
      simp only [sameM]
      refine EndP.mk [] ?_ <;> (repeat' (first | trivial | rfl | exact scopedL_bl _ _ | refine And.intro ?_ ?_ | refine congrArg V.str ?_ | refine congrArg (V.int _) ?_ | refine congrArg V.bool ?_ | refine congrArg (O.buf _ _) ?_ | refine congrArg O.cells ?_ | refine congrArg (V.list _ _) ?_ | refine congrArg V.agg ?_ | refine congrArg V.tuple ?_ | refine cons_eq ?_ ?_))
  · rw [sameM_len (by omega)]
    refine EndP.mk [] ?_ <;> (repeat' (first | trivial | rfl | exact scopedL_bl _ _ | refine And.intro ?_ ?_ | refine congrArg V.str ?_ | refine congrArg (V.int _) ?_ | refine congrArg V.bool ?_ | refine congrArg (O.buf _ _) ?_ | refine congrArg O.cells ?_ | refine congrArg (V.list _ _) ?_ | refine congrArg V.agg ?_ | refine congrArg V.tuple ?_ | refine cons_eq ?_ ?_))
theorem same_all : ∀ k : Nat, SOK 12 (smSame k) ∧ SOK 21 (smSameM k)
  | 0 => ⟨smSame_ok fun _ _ h => by omega, smSameM_ok fun _ _ h => by omega⟩
  | k + 1 => by
    have ih := same_all k
    have h1 := smSame_ok (k := k + 1) fun v w hk => f_Same ih.1 ih.2 v w hk
    exact ⟨h1, smSameM_ok fun v w hk => f_SameM h1 v w hk⟩
def sm_Same : Sm := fun args σ => match args, σ with
  | [x, y], [] => some (isV x ∧ isV y, .bool (same (decV x) (decV y)), none)
  | _, _ => none
theorem k_Same : SOK 12 sm_Same := by
  intro args sg pre x r he hp
  unfold sm_Same at he
  split at he <;> cases he
  rename_i y z
  exact (same_all ((decV y).nodes + 1)).1 [y, z] [] _ _ _ rfl ⟨hp.1, hp.2, Nat.lt_succ_self _⟩
/-- a value that holds no others, as it is made -/
abbrev lv (k : Int) (t : List UInt8) (n b : Int) : V := .agg [.int .u8 k, .str t, .int .i64 n, .int .u64 b, .list true 0 [], .list true 0 []]
theorem wk_lv (k : Int) (t : List UInt8) (n b : Int) : Wk (lv k t n b) (ev (.mk k t n b [] [])) :=
  Wk.agg (WkL.cons (Wk.refl _) (WkL.cons (Wk.refl _) (WkL.cons (Wk.refl _) (WkL.cons (Wk.refl _) (WkL.cons (Wk.nil (.inl rfl)) (WkL.cons (Wk.nil (.inl rfl)) WkL.nil))))))
theorem dec_lv (k : Int) (t : List UInt8) (n b : Int) : decV (lv k t n b) = .mk k t n b [] [] := by simp [decV, decL, decM]
theorem isV_lv (k : Int) (t : List UInt8) (n b : Int) : isV (lv k t n b) := by unfold isV; rw [dec_lv]; exact wk_lv k t n b
def wA : Val := .mk 6 [] 0 0 [.mk 3 [] 1 0 [] [], .mk 0 [] 0 0 [] [], .mk 1 [97] 0 0 [] []] []
abbrev lA : V := .agg [.int .u8 6, .str [], .int .i64 0, .int .u64 0, .list true 6 [lv 3 [] 1 0, lv 0 [] 0 0, lv 1 [97] 0 0], .list true 0 []]
theorem dec_lA : decV lA = wA := by simp [decV, decL, decM, wA]
theorem isV_lA : isV lA := by
  unfold isV
  rw [dec_lA]
  refine Wk.agg (WkL.cons (Wk.refl _) (WkL.cons (Wk.refl _) (WkL.cons (Wk.refl _) (WkL.cons (Wk.refl _) (WkL.cons (Wk.list (.inl rfl) rfl ?_) (WkL.cons (Wk.nil (.inl rfl)) WkL.nil))))))
  intro i x y hx hy
  match i, hx, hy with
  | 0, hx, hy =>
    cases hx
    have : encV (.mk 3 [] 1 0 [] []) = y := Option.some.inj hy
    subst this; rw [encV_ev]; exact wk_lv 3 [] 1 0
  | 1, hx, hy =>
    cases hx
    have : encV (.mk 0 [] 0 0 [] []) = y := Option.some.inj hy
    subst this; rw [encV_ev]; exact wk_lv 0 [] 0 0
  | 2, hx, hy =>
    cases hx
    have : encV (.mk 1 [97] 0 0 [] []) = y := Option.some.inj hy
    subst this; rw [encV_ev]; exact wk_lv 1 [97] 0 0
  | n + 3, hx, _ => simp at hx
theorem dec1 : decI 1 = [49] := by
  unfold decI
  rw [if_neg (by omega), dec_lt (by decide)]; rfl
theorem text_A : text wA = [91, 49, 44, 110, 117, 108, 108, 44, 34, 97, 34, 93] := by
  simp [text, wA, Val.kind, json, jsonL, jsonL', dec1, quote, quoteB, quoteC]
theorem text_D : text (.mk 4 [] 0 4607182418800017408 [] []) = [48, 120, 51, 102, 102, 48, 48, 48, 48, 48, 48, 48, 48, 48, 48, 48, 48, 48] := by
  simp [text, Val.kind, simple, Val.bits, dbl, be, hexText, hexd, hexDigits]
theorem json_D : json (.mk 4 [] 0 4607182418800017408 [] []) = [34, 48, 120, 51, 102, 102, 48, 48, 48, 48, 48, 48, 48, 48, 48, 48, 48, 48, 48, 34] := by
  simp [json, dbl, be, hexText, hexd, hexDigits, quote, quoteB, quoteC]
theorem text_B : text (.mk 2 [] 1 0 [] []) = [116, 114, 117, 101] := by
  simp [text, Val.kind, simple, Val.num, truth]
theorem text_N : text (.mk 0 [] 0 0 [] []) = [] := by
  simp [text, Val.kind, simple]
theorem f_works : OK 6 [] [] (.bool true) none := by
  refine funOK_of_vc (C := cx [(10, sm_Text), (8, sm_JSON), (7, sm_Plain)]) (good ⟨k_Text, k_JSON, k_Plain, trivial⟩) (fn := Tryd.f6) rfl rfl rfl rfl fun hw _ => ?_
  repeat' (
      conv => whnf
      first
      | refine req_i ?_ ?_
      | refine when_i ?_ ?_
      | refine brn_not ?_
      | refine brn_dec (fun h => ?_) (fun h => ?_)
      | refine brn_int (fun h => ?_) (fun h => ?_)
      | refine brn_intne (fun h => ?_) (fun h => ?_)
      | refine brn_str (fun h => ?_) (fun h => ?_)
      | refine brn_i (fun h => ?_) (fun h => ?_)
      | with_reducible refine IdxK.mk _ rfl ?_
      | with_reducible refine idx_blI ?_ (fun hc => ?_)
      | with_reducible refine idx_bl ?_ (fun hc => ?_)
      | with_reducible refine idx_strI ?_ (fun hc => ?_)
      | with_reducible refine idx_str ?_ (fun hc => ?_)
      | with_reducible refine idx_mapDI ?_ ?_
      | with_reducible refine idx_mapD ?_ ?_
      | with_reducible refine idx_encL ?_ ?_
      | with_reducible refine idx_encM ?_ ?_
      | with_reducible refine idx_at ?_ (fun b hb => ?_)
      | refine ex_bl ?_
      | refine ex_b1 ?_ ?_
      | refine ex_b2 ?_ ?_ ?_
      | refine ex_b3 ?_ ?_ ?_ ?_
      | refine ex_b4 ?_ ?_ ?_ ?_ ?_
      | refine optK_setL ?_ ?_
      | refine optK_takeL ?_ ?_
      | with_reducible refine forceDs_i ?_
      )
  all_goals try (conv => whnf)
  all_goals try (refine Side.mk ?_; try dsimp only)
  all_goals first
    | ((refine And.intro (isV_ev _) ?_; simp only [decV_ev]; repeat' (refine And.intro ?_ ?_)); all_goals (first | assumption | omega); done)
    | ((refine And.intro (isM_enc _) ?_; simp only [decMv_enc]; repeat' (refine And.intro ?_ ?_)); all_goals (first | assumption | omega); done)
    | (exact isV_ev _)
    | (exact isM_enc _)
    | (exact isL_enc _)
    | (show LoopP _ _ _ _; skip)
    | (show EndP _ _ _ _ _ _; skip)
    | (show ∃ _, _; skip)
    | (first
          | trivial
          | omega
          | (simp (discharger := omega) only [wu8, wu16, wu32, wu64, wi32, wi64, Int.tdiv_eq_ediv_of_nonneg, Int.tmod_eq_emod_of_nonneg]; omega)
          | (simp only [List.length_append, List.length_cons, List.length_nil, bl_length, List.length_take, List.length_drop]; omega)
          | (simp (discharger := omega) [-List.getD_eq_getElem?_getD, wu8, wu16, wu32, wu64, wi32, wi64, Int.tdiv_eq_ediv_of_nonneg, Int.tmod_eq_emod_of_nonneg]; done)
          | (simp (discharger := omega) [-List.getD_eq_getElem?_getD, wu8, wu16, wu32, wu64, wi32, wi64, Int.tdiv_eq_ediv_of_nonneg, Int.tmod_eq_emod_of_nonneg]; omega))
    | skip
  · refine ⟨isV_lA, ?_⟩
    rw [dec_lA]
    exact ⟨by simp [wA, Val.ok, okL, okM], by simp [wA, Val.size, sizeL, sizeM]⟩
  · refine ⟨isV_lv _ _ _ _, ?_⟩
    rw [dec_lv]
    exact ⟨by simp [Val.ok, okL, okM], by simp [Val.size, sizeL, sizeM]⟩
  · refine ⟨isV_lv _ _ _ _, ?_⟩
    rw [dec_lv]
    exact ⟨by simp [Val.ok, okL, okM], by simp [Val.size, sizeL, sizeM]⟩
  · refine ⟨isV_lv _ _ _ _, ?_⟩
    rw [dec_lv]
    exact ⟨by simp [Val.ok, okL, okM], by simp [Val.size, sizeL, sizeM]⟩
  · refine ⟨isV_lv _ _ _ _, ?_⟩
    rw [dec_lv]
    exact ⟨by simp [Val.ok, okL, okM], by simp [Val.size, sizeL, sizeM]⟩
  · refine EndP.mk [] ?_ <;> (repeat' (first | trivial | rfl | exact scopedL_bl _ _ | refine And.intro ?_ ?_ | refine congrArg V.str ?_ | refine congrArg (V.int _) ?_ | refine congrArg V.bool ?_ | refine congrArg (O.buf _ _) ?_ | refine congrArg O.cells ?_ | refine congrArg (V.list _ _) ?_ | refine congrArg V.agg ?_ | refine congrArg V.tuple ?_ | refine cons_eq ?_ ?_))
  · exact absurd (by rw [dec_lA]; exact text_A) h
def sm_works : Sm := fun args σ => match args, σ with
  | [], [] => some (True, .bool true, none)
  | _, _ => none
theorem k_works : SOK 6 sm_works := by
  intro args sg pre x r he hp
  unfold sm_works at he
  split at he <;> cases he
  exact f_works
theorem text_ok (v : Val) (h : v.ok) : (text v).length + 8 ≤ 120 * v.size := by
  have hz := size_eq v
  unfold text
  split
  · exact json_len v h
  · have hb := ok_eq h
    have a1 := truth_len v.num
    have a2 := decI_len hb.2.1.1 hb.2.1.2
    have a3 := dbl_len v.bits
    have a4 := hexText_length v.text
    unfold simple
    repeat' split
    all_goals (try simp only [List.length_nil]); all_goals omega
theorem text_mk1 (t : List UInt8) : text (.mk 1 t 0 0 [] []) = t := by simp [text, Val.kind, simple, Val.text]
theorem f_VtextTells (v : Val) (hok : v.ok) : OK 3 [ev v] [] (.bool true) none := by
  refine funOK_of_vc (C := cx [(5, smLeft0), (6, sm_works), (7, sm_Plain), (8, sm_JSON), (9, sm_RJSON), (10, sm_Text), (11, sm_RText), (13, sm_RPlain), (12, sm_Same)])
    (good ⟨left_ok, k_works, k_Plain, k_JSON, k_RJSON, k_Text, k_RText, k_RPlain, k_Same, trivial⟩) (fn := Tryd.f3) rfl rfl rfl rfl fun hw _ => ?_
  have hl := left_size v 2000
  have hp : (Val.mk 1 (text v) 0 0 [] []).ok := by simp [Val.ok, okL, okM]
  have ht := text_ok v hok
  have hps : (Val.mk 1 (text v) 0 0 [] []).size = 1 + (text v).length := by simp [Val.size, sizeL, sizeM]
  have htt : text (.mk 1 (text v) 0 0 [] []) = text v := text_mk1 _
  have hsm : same (.mk 1 (text v) 0 0 [] []) (.mk 1 (text v) 0 0 [] []) = true := (same_iff _ _).2 rfl
  repeat' (
      conv => whnf
      first
      | refine req_i ?_ ?_
      | refine when_i ?_ ?_
      | refine brn_not ?_
      | refine brn_dec (fun h => ?_) (fun h => ?_)
      | refine brn_int (fun h => ?_) (fun h => ?_)
      | refine brn_intne (fun h => ?_) (fun h => ?_)
      | refine brn_str (fun h => ?_) (fun h => ?_)
      | refine brn_i (fun h => ?_) (fun h => ?_)
      | with_reducible refine IdxK.mk _ rfl ?_
      | with_reducible refine idx_blI ?_ (fun hc => ?_)
      | with_reducible refine idx_bl ?_ (fun hc => ?_)
      | with_reducible refine idx_strI ?_ (fun hc => ?_)
      | with_reducible refine idx_str ?_ (fun hc => ?_)
      | with_reducible refine idx_mapDI ?_ ?_
      | with_reducible refine idx_mapD ?_ ?_
      | with_reducible refine idx_encL ?_ ?_
      | with_reducible refine idx_encM ?_ ?_
      | with_reducible refine idx_at ?_ (fun b hb => ?_)
      | refine ex_bl ?_
      | refine ex_b1 ?_ ?_
      | refine ex_b2 ?_ ?_ ?_
      | refine ex_b3 ?_ ?_ ?_ ?_
      | refine ex_b4 ?_ ?_ ?_ ?_ ?_
      | refine optK_setL ?_ ?_
      | refine optK_takeL ?_ ?_
      | with_reducible refine forceDs_i ?_
      )
  all_goals try (conv => whnf)
  all_goals try (refine Side.mk ?_; try dsimp only)
  all_goals (try simp only [decV_ev] at *)
  all_goals first
    | exact ⟨isV_ev _, by omega⟩
    | exact ⟨isV_ev _, hok, by omega⟩
    | exact ⟨isV_ev _, hp, by omega⟩
    | exact ⟨isV_ev _, isV_ev _⟩
    | skip
  all_goals first
    | (exfalso; simp_all; done)
    | (show EndP _ _ _ _ _ _
       refine EndP.mk [] ?_ <;> (repeat' (first | trivial | rfl | exact scopedL_bl _ _ | refine And.intro ?_ ?_ | refine congrArg V.str ?_ | refine congrArg (V.int _) ?_ | refine congrArg V.bool ?_ | refine congrArg (O.buf _ _) ?_ | refine congrArg O.cells ?_ | refine congrArg (V.list _ _) ?_ | refine congrArg V.agg ?_ | refine congrArg V.tuple ?_ | refine cons_eq ?_ ?_))
       all_goals simp_all
      )
end Go.Proofs.YtgbkjecepncjoaaDoor
