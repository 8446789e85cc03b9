/-
  Sameness of values.
-/
import Derived.Test.YtkkfdkfopdjomaaDoorVal
set_option linter.unusedSimpArgs false
set_option linter.unusedVariables false
set_option maxHeartbeats 4000000
namespace Go.Proofs.YtkkfdkfopdjomaaDoor
open Go Go.VG
set_option maxRecDepth 100000
mutual
def same : Val → Val → Bool
  | .mk k t n b l m, w => decide (k = w.kind) && decide (t = w.text) && decide (n = w.num) && decide (b = w.bits) && sameL l w.list && sameM m w.map
def sameL : List Val → List Val → Bool
  | [], [] => true
  | v :: r, w :: s => same v w && sameL r s
  | _, _ => false
def sameA : Att → Att → Bool
  | .mk k v, b => decide (k = b.key) && same v b.value
def sameM : List Att → List Att → Bool
  | [], [] => true
  | v :: r, w :: s => sameA v w && sameM r s
  | _, _ => false
end
mutual
theorem same_iff : ∀ v w : Val, same v w = true ↔ v = w
  | .mk k t n b l m, .mk k' t' n' b' l' m' => by
    simp only [same]
    simp only [Val.kind, Val.text, Val.num, Val.bits, Val.list, Val.map]
    simp only [Bool.and_eq_true, decide_eq_true_eq, sameL_iff l l', sameM_iff m m', Val.mk.injEq]
    constructor
    · rintro ⟨⟨⟨⟨⟨a, b⟩, c⟩, d⟩, e⟩, f⟩; exact ⟨of_decide_eq_true a, of_decide_eq_true b, of_decide_eq_true c, of_decide_eq_true d, e, f⟩
    · rintro ⟨a, b, c, d, e, f⟩; exact ⟨⟨⟨⟨⟨decide_eq_true a, decide_eq_true b⟩, decide_eq_true c⟩, decide_eq_true d⟩, e⟩, f⟩
theorem sameL_iff : ∀ v w : List Val, sameL v w = true ↔ v = w
  | [], [] => by simp [sameL]
  | v :: r, w :: s => by simp only [sameL, Bool.and_eq_true, same_iff v w, sameL_iff r s, List.cons.injEq]
  | [], _ :: _ => by simp [sameL]
  | _ :: _, [] => by simp [sameL]
theorem sameA_iff : ∀ v w : Att, sameA v w = true ↔ v = w
  | .mk k v, .mk k' v' => by
    simp only [sameA]
    simp only [Att.key, Att.value]
    simp only [Bool.and_eq_true, same_iff v v', Att.mk.injEq]
    exact ⟨fun ⟨a, b⟩ => ⟨of_decide_eq_true a, b⟩, fun ⟨a, b⟩ => ⟨decide_eq_true a, b⟩⟩
theorem sameM_iff : ∀ v w : List Att, sameM v w = true ↔ v = w
  | [], [] => by simp [sameM]
  | v :: r, w :: s => by simp only [sameM, Bool.and_eq_true, sameA_iff v w, sameM_iff r s, List.cons.injEq]
  | [], _ :: _ => by simp [sameM]
  | _ :: _, [] => by simp [sameM]
end
theorem sameL_drop {l m : List Val} {i : Nat} (hi : i < l.length) (hm : l.length = m.length) : sameL (l.drop i) (m.drop i) = (same (l.getD i default) (m.getD i default) && sameL (l.drop (i + 1)) (m.drop (i + 1))) := by
  rw [List.drop_eq_getElem_cons hi, List.drop_eq_getElem_cons (by omega : i < m.length), sameL, List.getD_eq_getElem?_getD, List.getD_eq_getElem?_getD, List.getElem?_eq_getElem hi, List.getElem?_eq_getElem (by omega : i < m.length)]; rfl
theorem sameM_drop {l m : List Att} {i : Nat} (hi : i < l.length) (hm : l.length = m.length) : sameM (l.drop i) (m.drop i) = (sameA (l.getD i default) (m.getD i default) && sameM (l.drop (i + 1)) (m.drop (i + 1))) := by
  rw [List.drop_eq_getElem_cons hi, List.drop_eq_getElem_cons (by omega : i < m.length), sameM, List.getD_eq_getElem?_getD, List.getD_eq_getElem?_getD, List.getElem?_eq_getElem hi, List.getElem?_eq_getElem (by omega : i < m.length)]; rfl
theorem sameA_eq (a b : Att) : sameA a b = (decide (a.key = b.key) && same a.value b.value) := by cases a; simp only [sameA]; rfl
theorem sameL_len {l m : List Val} (h : l.length ≠ m.length) : sameL l m = false := by
  cases hs : sameL l m with
  | false => rfl
  | true => rw [sameL_iff] at hs; subst hs; exact absurd rfl h
theorem sameM_len {l m : List Att} (h : l.length ≠ m.length) : sameM l m = false := by
  cases hs : sameM l m with
  | false => rfl
  | true => rw [sameM_iff] at hs; subst hs; exact absurd rfl h
theorem same_eq (v w : Val) : same v w = (decide (v.kind = w.kind) && decide (v.text = w.text) && decide (v.num = w.num) && decide (v.bits = w.bits) && sameL v.list w.list && sameM v.map w.map) := by
  cases v; simp only [same]; rfl
def smSame (k : Nat) : Sm := fun args σ => match args, σ with
  | [x, y], [] => some (isV x ∧ isV y ∧ (decV x).nodes < k, .bool (same (decV x) (decV y)), none)
  | _, _ => none
def smSameM (k : Nat) : Sm := fun args σ => match args, σ with
  | [x, y], [] => some (isM x ∧ isM y ∧ nodesM (decMv x) < k, .bool (sameM (decMv x) (decMv y)), none)
  | _, _ => none
theorem smSame_ok {k : Nat} (h : ∀ v w, v.nodes < k → OK 9 [ev v, ev w] [] (.bool (same v w)) none) : SOK 9 (smSame k) := by
  intro args sg pre x r he hp
  unfold smSame at he
  split at he <;> cases he
  exact (h _ _ hp.2.2).args (WkL.cons hp.1 (WkL.cons hp.2.1 WkL.nil))
theorem smSameM_ok {k : Nat} (h : ∀ v w, nodesM v < k → OK 10 [.list false 7 (encM v), .list false 7 (encM w)] [] (.bool (sameM v w)) none) : SOK 10 (smSameM k) := by
  intro args sg pre x r he hp
  unfold smSameM at he
  split at he <;> cases he
  exact (h _ _ hp.2.2).args (WkL.cons hp.1 (WkL.cons hp.2.1 WkL.nil))
theorem f_Same {k : Nat} (h1 : SOK 9 (smSame k)) (h2 : SOK 10 (smSameM k)) (v w : Val) (hk : v.nodes < k + 1) : OK 9 [ev v, ev w] [] (.bool (same v w)) none := by
  refine funOK_of_vc (C := cx [(9, smSame k), (10, smSameM k)]) (good ⟨h1, h2, trivial⟩) (fn := Tryd.f9) rfl rfl rfl rfl fun hw _ => ?_
  have hb := wf_ev hw.1
  have hb2 := wf_ev hw.2.1
  have e1 := encL_length v.list
  have e2 := encL_length w.list
  have hs := same_eq v w
  repeat' ((conv => whnf); first | apply go5 | ((first | apply go6 | apply go9) <;> intro h))
  all_goals try conv => whnf
  all_goals try (refine Side.mk ?_; try dsimp only)
  all_goals try refine stay ?_
  · have hl : v.list.length = w.list.length := by omega
    have hs' : same v w = (sameL v.list w.list && sameM v.map w.map) := by rw [hs]; simp_all
    refine LoopP.mk Nat (fun i => i ≤ v.list.length ∧ same v w = (sameL (v.list.drop i) (w.list.drop i) && sameM v.map w.map)) (fun i => ⟨65, [(2, .ptr 0 0), (3, .ptr 1 0), (5, .int .i64 i)], [.cells (cv v), .cells (cv w)], []⟩) (fun i => v.list.length - i) [] 0 ⟨Nat.zero_le _, hs'⟩ ?_ (fun i ⟨hi, he⟩ _ _ => ?_)
    · refine Go.VG.Sub.mk rfl ?_ ?_ ?_ ?_ <;> (repeat' first | trivial)
    clear hs hs'
    repeat' ((conv => whnf); first | apply go3 | apply go5 | ((first | apply go6 | apply goA) <;> intro h) | with_reducible refine idx_encL ?_ ?_)
    all_goals try conv => whnf
    all_goals try (refine Side.mk ?_; try dsimp only)
    all_goals first | refine stay ?_ | omega | skip
    · refine ⟨isV_ev _, isV_ev _, ?_⟩
      have q3 := nodes_eq v
      have q4 := nodesL_get (l := v.list) (i := i) (by omega)
      rw [decV_ev]; omega
    · rw [decV_ev, decV_ev] at h
      rw [sameL_drop (by omega) hl, h, Bool.true_and] at he
      refine ⟨[], i + 1, ⟨by omega, he⟩, ?_, by omega⟩
      refine Go.VG.Sub.mk rfl ?_ ?_ ?_ ?_ <;> (repeat' first | trivial | apply andI | apply eqB)
      (simp (discharger := omega) only [wR]; omega)
    · rw [decV_ev, decV_ev] at h
      rw [sameL_drop (by omega) hl, h] at he
      refine EndP.mk [] ?_ <;> (repeat' first | trivial | apply andI | apply eqC)
      rw [he]; rfl
    · refine ⟨isM_enc _, isM_enc _, ?_⟩
      have q3 := nodes_eq v
      rw [decMv_enc]; omega
    · refine EndP.mk [] ?_ <;> (repeat' first | trivial | apply andI | apply eqC)
      rw [decMv_enc, decMv_enc, he, List.drop_of_length_le (by omega), List.drop_of_length_le (by omega)]
      simp [sameL]
  · rw [hs, sameL_len (by omega)]
    refine EndP.mk [] ?_ <;> (repeat' first | trivial | apply andI | apply eqC)
    simp
  all_goals
    rw [hs]
    refine EndP.mk [] ?_ <;> (repeat' first | trivial | apply andI | apply eqC)
    simp_all
    done
theorem f_SameM {k : Nat} (h1 : SOK 9 (smSame (k + 1))) (v w : List Att) (hk : nodesM v < k + 1) : OK 10 [.list false 7 (encM v), .list false 7 (encM w)] [] (.bool (sameM v w)) none := by
  refine funOK_of_vc (C := cx [(9, smSame (k + 1))]) (good ⟨h1, trivial⟩) (fn := Tryd.f10) rfl rfl rfl rfl fun hw _ => ?_
  have e1 := encM_length v
  have e2 := encM_length w
  have hb : v.length ≤ 9223372036854775807 := by have := hw.1.1; rw [encM_length] at this; exact this
  repeat' ((conv => whnf); first | apply go5 | (apply go6 <;> intro h))
  all_goals try conv => whnf
  all_goals try (refine Side.mk ?_; try dsimp only)
  all_goals try refine stay ?_
  · have hl : v.length = w.length := by omega
    refine LoopP.mk Nat (fun i => i ≤ v.length ∧ sameM v w = sameM (v.drop i) (w.drop i)) (fun i => ⟨42, [(0, .list false 7 (encM v)), (1, .list false 7 (encM w)), (5, .int .i64 i)], [], []⟩) (fun i => v.length - i) [] 0 ⟨Nat.zero_le _, rfl⟩ ?_ (fun i ⟨hi, he⟩ _ _ => ?_)
    · refine Go.VG.Sub.mk rfl ?_ ?_ ?_ ?_ <;> (repeat' first | trivial)
    have q4 : i < v.length → (v.getD i default).value.nodes ≤ nodesM v := fun h => nodesM_get h
    repeat' ((conv => whnf); first | apply go3 | apply go5 | ((first | apply go6 | apply go9 | apply goA) <;> intro h) | with_reducible refine idx_encM ?_ ?_)
    all_goals try conv => whnf
    all_goals try (refine Side.mk ?_; try dsimp only)
    all_goals first | refine stay ?_ | omega | skip
    · refine ⟨isV_ev _, isV_ev _, ?_⟩
      have := q4 (by omega)
      rw [decV_ev]; omega
    · rw [decV_ev, decV_ev] at h
      rw [sameM_drop (by omega) hl, sameA_eq, h, decide_eq_true (by assumption), Bool.true_and, Bool.true_and] at he
      refine ⟨[], i + 1, ⟨by omega, he⟩, ?_, by omega⟩
      refine Go.VG.Sub.mk rfl ?_ ?_ ?_ ?_ <;> (repeat' first | trivial | apply andI | apply eqB)
      (simp (discharger := omega) only [wR]; omega)
    · rw [decV_ev, decV_ev] at h
      rw [sameM_drop (by omega) hl, sameA_eq, h, Bool.and_false, Bool.false_and] at he
      rw [he]
      refine EndP.mk [] ?_ <;> (repeat' first | trivial)
    · rw [sameM_drop (by omega) hl, sameA_eq, decide_eq_false (by assumption), Bool.false_and, Bool.false_and] at he
      rw [he]
      refine EndP.mk [] ?_ <;> (repeat' first | trivial)
    · rw [List.drop_of_length_le (by omega), List.drop_of_length_le (by omega)] at he
      rw [he]
      simp only [sameM]
      refine EndP.mk [] ?_ <;> (repeat' first | trivial)
  · rw [sameM_len (by omega)]
    refine EndP.mk [] ?_ <;> (repeat' first | trivial)
theorem same_all : ∀ k : Nat, SOK 9 (smSame k) ∧ SOK 10 (smSameM k)
  | 0 => ⟨smSame_ok fun _ _ h => by omega, smSameM_ok fun _ _ h => by omega⟩
  | k + 1 => by
    have ih := same_all k
    have h1 := smSame_ok (k := k + 1) fun v w hk => f_Same ih.1 ih.2 v w hk
    exact ⟨h1, smSameM_ok fun v w hk => f_SameM h1 v w hk⟩
def sm_Same : Sm := fun args σ => match args, σ with
  | [x, y], [] => some (isV x ∧ isV y, .bool (same (decV x) (decV y)), none)
  | _, _ => none
theorem k_Same : SOK 9 sm_Same := by
  intro args sg pre x r he hp
  unfold sm_Same at he
  split at he <;> cases he
  rename_i y z
  exact (same_all ((decV y).nodes + 1)).1 [y, z] [] _ _ _ rfl ⟨hp.1, hp.2, Nat.lt_succ_self _⟩
def sm_SameM : Sm := fun args σ => match args, σ with
  | [x, y], [] => some (isM x ∧ isM y, .bool (sameM (decMv x) (decMv y)), none)
  | _, _ => none
theorem k_SameM : SOK 10 sm_SameM := by
  intro args sg pre x r he hp
  unfold sm_SameM at he
  split at he <;> cases he
  rename_i y z
  exact (same_all (nodesM (decMv y) + 1)).2 [y, z] [] _ _ _ rfl ⟨hp.1, hp.2, Nat.lt_succ_self _⟩
end Go.Proofs.YtkkfdkfopdjomaaDoor
