/-
  What is left of a room.
-/
import Derived.Test.YtafgmmfbhpbogaaGreatDoorVal
set_option linter.unusedSimpArgs false
set_option linter.unusedVariables false
set_option maxHeartbeats 4000000
namespace Go.Proofs.YtafgmmfbhpbogaaGreatDoor
open Go Go.VG
set_option maxRecDepth 100000
mutual
def left : Val → Int → Int
  | .mk _ t _ _ l m, n => if n < 0 ∨ (t.length : Int) > n then -1 else leftM m (leftL l (n - 1 - t.length))
def leftL : List Val → Int → Int
  | [], n => n
  | v :: r, n => if n < 0 then n else leftL r (left v n)
def leftA : Att → Int → Int
  | .mk k v, n => if (k.length : Int) > n then -1 else left v (n - k.length)
def leftM : List Att → Int → Int
  | [], n => n
  | a :: r, n => if n < 0 then n else leftM r (leftA a n)
end
theorem left_eq (v : Val) (n : Int) : left v n = if n < 0 ∨ (v.text.length : Int) > n then -1 else leftM v.map (leftL v.list (n - 1 - v.text.length)) := by cases v; simp [left, Val.text, Val.list, Val.map]
theorem leftA_eq (a : Att) (n : Int) : leftA a n = if (a.key.length : Int) > n then -1 else left a.value (n - a.key.length) := by cases a; simp [leftA, Att.key, Att.value]
theorem leftL_neg : ∀ (l : List Val) (n : Int), n < 0 → leftL l n = n
  | [], n, _ => by simp [leftL]
  | v :: r, n, h => by simp [leftL, h]
theorem leftM_neg : ∀ (l : List Att) (n : Int), n < 0 → leftM l n = n
  | [], n, _ => by simp [leftM]
  | v :: r, n, h => by simp [leftM, h]
mutual
theorem left_le : ∀ (v : Val) (n : Int), -1 ≤ left v n ∧ (left v n ≤ n ∨ left v n = -1)
  | .mk k t m b l a, n => by
    simp only [left]
    split
    · omega
    · have h1 := leftL_le l (n - 1 - t.length)
      have h2 := leftM_le a (leftL l (n - 1 - t.length))
      omega
theorem leftL_le : ∀ (l : List Val) (n : Int), (-1 ≤ n → -1 ≤ leftL l n) ∧ (leftL l n ≤ n ∨ leftL l n = -1)
  | [], n => by simp [leftL]
  | v :: r, n => by
    simp only [leftL]
    split
    · omega
    · have h1 := left_le v n
      have h2 := leftL_le r (left v n)
      omega
theorem leftA_le : ∀ (a : Att) (n : Int), -1 ≤ leftA a n ∧ (leftA a n ≤ n ∨ leftA a n = -1)
  | .mk k v, n => by
    simp only [leftA]
    split
    · omega
    · have := left_le v (n - k.length)
      omega
theorem leftM_le : ∀ (l : List Att) (n : Int), (-1 ≤ n → -1 ≤ leftM l n) ∧ (leftM l n ≤ n ∨ leftM l n = -1)
  | [], n => by simp [leftM]
  | v :: r, n => by
    simp only [leftM]
    split
    · omega
    · have h1 := leftA_le v n
      have h2 := leftM_le r (leftA v n)
      omega
end
theorem leftL_drop {l : List Val} {i : Nat} (h : i < l.length) (n : Int) : leftL (l.drop i) n = if n < 0 then n else leftL (l.drop (i + 1)) (left (l.getD i default) n) := by
  rw [List.drop_eq_getElem_cons h, leftL, List.getD_eq_getElem?_getD, List.getElem?_eq_getElem h]; rfl
theorem leftM_drop {l : List Att} {i : Nat} (h : i < l.length) (n : Int) : leftM (l.drop i) n = if n < 0 then n else leftM (l.drop (i + 1)) (leftA (l.getD i default) n) := by
  rw [List.drop_eq_getElem_cons h, leftM, List.getD_eq_getElem?_getD, List.getElem?_eq_getElem h]; rfl

def smLeft (k : Nat) : Sm := fun args σ => match args, σ with
  | [x, .int .i64 q], [] => some (isV x ∧ (decV x).nodes < k ∧ q ≤ 6000, .int .i64 (left (decV x) q), none)
  | _, _ => none
def smLeftM (k : Nat) : Sm := fun args σ => match args, σ with
  | [x, .int .i64 q], [] => some (isM x ∧ nodesM (decMv x) < k ∧ q ≤ 6000, .int .i64 (leftM (decMv x) q), none)
  | _, _ => none
theorem smLeft_ok {k : Nat} (h : ∀ v n, v.nodes < k → n ≤ 6000 → OK 23 [ev v, .int .i64 n] [] (.int .i64 (left v n)) none) : SOK 23 (smLeft k) := by
  intro args sg pre x r he hp
  unfold smLeft at he
  split at he <;> cases he
  exact (h _ _ hp.2.1 hp.2.2).args (WkL.cons hp.1 (WkL.refl _))
theorem smLeftM_ok {k : Nat} (h : ∀ m n, nodesM m < k → n ≤ 6000 → OK 12 [.list false 7 (encM m), .int .i64 n] [] (.int .i64 (leftM m n)) none) : SOK 12 (smLeftM k) := by
  intro args sg pre x r he hp
  unfold smLeftM at he
  split at he <;> cases he
  exact (h _ _ hp.2.1 hp.2.2).args (WkL.cons hp.1 (WkL.refl _))

theorem left_step {k : Nat} (h1 : SOK 23 (smLeft k)) (h2 : SOK 12 (smLeftM k)) (v : Val) (n : Int) (hk : v.nodes < k + 1) (hn : n ≤ 6000) : OK 23 [ev v, .int .i64 n] [] (.int .i64 (left v n)) none := by
  refine funOK_of_vc (C := cx [(23, smLeft k), (12, smLeftM k)]) (good ⟨h1, h2, trivial⟩) (fn := Tryz.f23) rfl rfl rfl rfl fun hw _ => ?_
  repeat' ((conv => whnf); first | with_reducible (first | refine go1 (fun j q h => ?_) fun h => ?_ | refine go2 ⟨rfl, rfl⟩ (fun h => ?_) fun j h => ?_ | refine go2 ?_ (fun h => ?_) fun j h => ?_ | refine goQ ?_ (fun h => ?_) fun h => ?_) | apply go3 | apply go4 | apply go5 | ((first | apply go6 | apply go7 | apply go8 | apply go9 | apply goA) <;> intro h) | with_reducible (first | refine IdxK.mk _ rfl ?_ | refine idx_encL ?_ ?_ | refine idx_encM ?_ ?_ | refine goB ?_ fun hc => ?_ | refine goC ?_ fun hc => ?_ | refine goD ?_ fun hc => ?_ | refine goE ?_ fun hc => ?_ | apply goF | apply goG | refine goH ?_ fun b hb => ?_) | apply goI | apply goJ | apply goK | apply goL | apply goM | apply goN | apply goO | with_reducible refine goP ?_)
  all_goals try conv => whnf
  all_goals try (refine Side.mk ?_; try dsimp only)
  all_goals first | refine stay ?_ | trivial | omega | (simp (discharger := omega) only [wR]; omega) | (simp only [lnS]; omega) | (simp (discharger := omega) [-List.getD_eq_getElem?_getD, wR] <;> omega) | skip
  · refine EndP.mk [] ?_ <;> (repeat' first | trivial | rfl | exact eqS _ _ | apply andI | apply eqA | apply eqB | apply eqC | apply eqD | apply eqE | apply eqF | apply eqG | apply eqH | apply eqI)
    rw [left_eq, if_pos (.inl (by assumption))]
  · refine EndP.mk [] ?_ <;> (repeat' first | trivial | rfl | exact eqS _ _ | apply andI | apply eqA | apply eqB | apply eqC | apply eqD | apply eqE | apply eqF | apply eqG | apply eqH | apply eqI)
    rw [left_eq, if_pos (.inr (by assumption))]
  have hv := left_eq v n
  have hb := wf_ev hw.1
  rw [if_neg (by omega)] at hv
  refine LoopP.mk (Nat × Int) (fun | (i, q) => i ≤ v.list.length ∧ q ≤ 6000 ∧ -1 ≤ q ∧ leftL (v.list.drop i) q = leftL v.list (n - 1 - v.text.length))
    (fun | (i, q) => ⟨43, [(5, .int .i64 i), (1, .int .i64 q), (2, .ptr 0 0)], [.cells (cv v)], []⟩) (fun x => v.list.length - x.1) [] (0, n - 1 - v.text.length) (by simp; omega) ?_ (fun ⟨i, q⟩ ⟨hi, hq, hq1, he⟩ _ _ => ?_)
  · refine Go.VG.Sub.mk rfl ?_ ?_ ?_ ?_ <;> (repeat' first | trivial | rfl | exact eqS _ _ | apply andI | apply eqA | apply eqB | apply eqC | apply eqD | apply eqE | apply eqF | apply eqG | apply eqH | apply eqI)
    all_goals (first | omega | (simp (discharger := omega) only [wR]; omega) | (simp only [lnS]; omega) | (simp (discharger := omega) [-List.getD_eq_getElem?_getD, wR] <;> omega))
  have e1 := encL_length v.list
  repeat' ((conv => whnf); first | with_reducible (first | refine go1 (fun j q h => ?_) fun h => ?_ | refine go2 ⟨rfl, rfl⟩ (fun h => ?_) fun j h => ?_ | refine go2 ?_ (fun h => ?_) fun j h => ?_ | refine goQ ?_ (fun h => ?_) fun h => ?_) | apply go3 | apply go4 | apply go5 | ((first | apply go6 | apply go7 | apply go8 | apply go9 | apply goA) <;> intro h) | with_reducible (first | refine IdxK.mk _ rfl ?_ | refine idx_encL ?_ ?_ | refine idx_encM ?_ ?_ | refine goB ?_ fun hc => ?_ | refine goC ?_ fun hc => ?_ | refine goD ?_ fun hc => ?_ | refine goE ?_ fun hc => ?_ | apply goF | apply goG | refine goH ?_ fun b hb => ?_) | apply goI | apply goJ | apply goK | apply goL | apply goM | apply goN | apply goO | with_reducible refine goP ?_)
  all_goals try conv => whnf
  all_goals try (refine Side.mk ?_; try dsimp only)
  all_goals first | refine stay ?_ | trivial | omega | (simp (discharger := omega) only [wR]; omega) | (simp only [lnS]; omega) | (simp (discharger := omega) [-List.getD_eq_getElem?_getD, wR] <;> omega) | skip
  · refine ⟨isV_ev _, ?_, by omega⟩
    have := nodes_eq v
    have := nodesL_get (l := v.list) (i := i) (by omega)
    have := nodesM_pos v.map
    rw [decV_ev]; omega
  · have hl := left_le (v.list.getD i default) q
    rw [leftL_drop (by omega), if_neg (by omega)] at he
    refine ⟨[], (i + 1, left (v.list.getD i default) q), ⟨by omega, by omega, by omega, he⟩, ?_, by omega⟩
    rw [decV_ev]
    refine Go.VG.Sub.mk rfl ?_ ?_ ?_ ?_ <;> (repeat' first | trivial | rfl | exact eqS _ _ | apply andI | apply eqA | apply eqB | apply eqC | apply eqD | apply eqE | apply eqF | apply eqG | apply eqH | apply eqI)
    (first | omega | (simp (discharger := omega) only [wR]; omega) | (simp only [lnS]; omega) | (simp (discharger := omega) [-List.getD_eq_getElem?_getD, wR] <;> omega))
  · refine ⟨isM_enc _, ?_, by omega⟩
    have := nodes_eq v
    rw [decMv_enc]; omega
  · refine EndP.mk [] ?_ <;> (repeat' first | trivial | rfl | exact eqS _ _ | apply andI | apply eqA | apply eqB | apply eqC | apply eqD | apply eqE | apply eqF | apply eqG | apply eqH | apply eqI)
    rw [decMv_enc, hv, ← he, leftL_neg _ _ (by omega)]
  · refine ⟨isM_enc _, ?_, by omega⟩
    have := nodes_eq v
    rw [decMv_enc]; omega
  · refine EndP.mk [] ?_ <;> (repeat' first | trivial | rfl | exact eqS _ _ | apply andI | apply eqA | apply eqB | apply eqC | apply eqD | apply eqE | apply eqF | apply eqG | apply eqH | apply eqI)
    rw [decMv_enc, hv, ← he, List.drop_of_length_le (by omega)]
    rfl

theorem leftM_step {k : Nat} (h1 : SOK 23 (smLeft (k + 1))) (m : List Att) (n : Int) (hk : nodesM m < k + 1) (hn : n ≤ 6000) : OK 12 [.list false 7 (encM m), .int .i64 n] [] (.int .i64 (leftM m n)) none := by
  refine funOK_of_vc (C := cx [(23, smLeft (k + 1))]) (good ⟨h1, trivial⟩) (fn := Tryz.f12) rfl rfl rfl rfl fun hw _ => ?_
  refine LoopP.mk (Nat × Int) (fun | (i, q) => i ≤ m.length ∧ q ≤ 6000 ∧ leftM (m.drop i) q = leftM m n)
    (fun | (i, q) => ⟨39, [(5, .int .i64 i), (1, .int .i64 q), (0, .list false 7 (encM m))], [], []⟩) (fun x => m.length - x.1) [] (0, n) (by simp; omega) ?_ (fun ⟨i, q⟩ ⟨hi, hq, he⟩ _ _ => ?_)
  · refine Go.VG.Sub.mk rfl ?_ ?_ ?_ ?_ <;> (repeat' first | trivial | rfl | exact eqS _ _ | apply andI | apply eqA | apply eqB | apply eqC | apply eqD | apply eqE | apply eqF | apply eqG | apply eqH | apply eqI)
  have e1 := encM_length m
  have hb : m.length ≤ 9223372036854775807 := by have := hw.1.1; rw [encM_length] at this; exact this
  repeat' ((conv => whnf); first | with_reducible (first | refine go1 (fun j q h => ?_) fun h => ?_ | refine go2 ⟨rfl, rfl⟩ (fun h => ?_) fun j h => ?_ | refine go2 ?_ (fun h => ?_) fun j h => ?_ | refine goQ ?_ (fun h => ?_) fun h => ?_) | apply go3 | apply go4 | apply go5 | ((first | apply go6 | apply go7 | apply go8 | apply go9 | apply goA) <;> intro h) | with_reducible (first | refine IdxK.mk _ rfl ?_ | refine idx_encL ?_ ?_ | refine idx_encM ?_ ?_ | refine goB ?_ fun hc => ?_ | refine goC ?_ fun hc => ?_ | refine goD ?_ fun hc => ?_ | refine goE ?_ fun hc => ?_ | apply goF | apply goG | refine goH ?_ fun b hb => ?_) | apply goI | apply goJ | apply goK | apply goL | apply goM | apply goN | apply goO | with_reducible refine goP ?_)
  all_goals try conv => whnf
  all_goals try (refine Side.mk ?_; try dsimp only)
  all_goals first | refine stay ?_ | trivial | omega | (simp (discharger := omega) only [wR]; omega) | (simp only [lnS]; omega) | (simp (discharger := omega) [-List.getD_eq_getElem?_getD, wR] <;> omega) | skip
  · have hA := leftM_drop (l := m) (i := i) (by omega) q
    refine EndP.mk [] ?_ <;> (repeat' first | trivial | rfl | exact eqS _ _ | apply andI | apply eqA | apply eqB | apply eqC | apply eqD | apply eqE | apply eqF | apply eqG | apply eqH | apply eqI)
    rw [← he, hA, if_neg (by omega), leftA_eq, if_pos (by omega), leftM_neg _ _ (by omega)]
  · refine ⟨isV_ev _, ?_, by (first | omega | (simp (discharger := omega) only [wR]; omega) | (simp only [lnS]; omega) | (simp (discharger := omega) [-List.getD_eq_getElem?_getD, wR] <;> omega))⟩
    have := nodesM_get (l := m) (i := i) (by omega)
    rw [decV_ev]; omega
  · have hl := left_le (m.getD i default).value (q - (m.getD i default).key.length)
    rw [leftM_drop (by omega), if_neg (by omega), leftA_eq, if_neg (by omega)] at he
    refine ⟨[], (i + 1, _), ⟨by omega, ?_, he⟩, ?_, by omega⟩
    · omega
    · rw [decV_ev]
      refine Go.VG.Sub.mk rfl ?_ ?_ ?_ ?_ <;> (repeat' first | trivial | rfl | exact eqS _ _ | apply andI | apply eqA | apply eqB | apply eqC | apply eqD | apply eqE | apply eqF | apply eqG | apply eqH | apply eqI)
      · (first | omega | (simp (discharger := omega) only [wR]; omega) | (simp only [lnS]; omega) | (simp (discharger := omega) [-List.getD_eq_getElem?_getD, wR] <;> omega))
      · congr 1; (first | omega | (simp (discharger := omega) only [wR]; omega) | (simp only [lnS]; omega) | (simp (discharger := omega) [-List.getD_eq_getElem?_getD, wR] <;> omega))
  · refine EndP.mk [] ?_ <;> (repeat' first | trivial | rfl | exact eqS _ _ | apply andI | apply eqA | apply eqB | apply eqC | apply eqD | apply eqE | apply eqF | apply eqG | apply eqH | apply eqI)
    rw [← he, leftM_neg _ _ (by omega)]
  · refine EndP.mk [] ?_ <;> (repeat' first | trivial | rfl | exact eqS _ _ | apply andI | apply eqA | apply eqB | apply eqC | apply eqD | apply eqE | apply eqF | apply eqG | apply eqH | apply eqI)
    rw [← he, List.drop_of_length_le (by omega)]; rfl

theorem left_all : ∀ k : Nat, SOK 23 (smLeft k) ∧ SOK 12 (smLeftM k)
  | 0 => ⟨smLeft_ok fun _ _ h => by omega, smLeftM_ok fun _ _ h => by omega⟩
  | k + 1 => by
    have ih := left_all k
    have h1 := smLeft_ok (k := k + 1) fun v n hk hn => left_step ih.1 ih.2 v n hk hn
    exact ⟨h1, smLeftM_ok fun m n hk hn => leftM_step h1 m n hk hn⟩
def smLeft0 : Sm := fun args σ => match args, σ with
  | [x, .int .i64 q], [] => some (isV x ∧ q ≤ 6000, .int .i64 (left (decV x) q), none)
  | _, _ => none
theorem left_ok : SOK 23 smLeft0 := by
  intro args sg pre x r he hp
  unfold smLeft0 at he
  split at he <;> cases he
  rename_i y q
  exact (left_all ((decV y).nodes + 1)).1 [y, .int .i64 q] [] _ _ _ rfl ⟨hp.1, Nat.lt_succ_self _, hp.2⟩
end Go.Proofs.YtafgmmfbhpbogaaGreatDoor
