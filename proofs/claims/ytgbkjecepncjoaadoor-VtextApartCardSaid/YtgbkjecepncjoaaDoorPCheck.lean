/-
  Which values may be: the document's.
-/
import Derived.Test.YtgbkjecepncjoaaDoorPText
import Derived.Test.YtgbkjecepncjoaaDoorPUtf
set_option linter.unusedSimpArgs false
set_option linter.unusedVariables false
namespace Go.Proofs.YtgbkjecepncjoaaDoor
open Go Go.VG
set_option maxRecDepth 100000
theorem idx_encMz {l : List Att} {n : Nat} {K : V → Prop} (h1 : Side (n < l.length)) (h2 : K (ea (l.getD n default))) : IdxK (encM l) n K := by
  rw [encM_map]
  exact idx_map h1 fun a ha => by rw [List.getD_eq_getElem?_getD, ha] at h2; exact h2
def emp (v : Val) : Bool :=
  decide ((v.kind = 1 ∨ v.kind = 5 ∨ v.text = []) ∧ (v.kind = 2 ∨ v.kind = 3 ∨ v.num = 0) ∧ (v.kind = 4 ∨ v.bits = 0) ∧ (v.kind = 6 ∨ v.list.length = 0) ∧ (v.kind = 7 ∨ v.map.length = 0))
set_option maxHeartbeats 4000000 in
theorem f_emp (v : Val) (h0 : 0 ≤ v.kind) (h7 : v.kind ≤ 7) : OK 22 [ev v] [] (.bool (emp v)) none := by
  obtain ⟨k, t, n, b, l, m⟩ := v
  simp only [Val.kind] at h0 h7
  rcases (show k = 0 ∨ k = 1 ∨ k = 2 ∨ k = 3 ∨ k = 4 ∨ k = 5 ∨ k = 6 ∨ k = 7 by omega) with rfl | rfl | rfl | rfl | rfl | rfl | rfl | rfl
  all_goals refine funOK_of_vc (C := cx []) (good trivial) (fn := Tryd.f22) rfl rfl rfl rfl fun hw _ => ?_
  all_goals
    repeat' (
        conv => whnf
        first
        | refine req_i ?_ ?_
        | refine when_i ?_ ?_
        | refine brn_not ?_
        | refine brn_dec (fun h => ?_) (fun h => ?_)
        | refine brn_int (fun h => ?_) (fun h => ?_)
        | refine brn_intne (fun h => ?_) (fun h => ?_)
        | refine brn_str (fun h => ?_) (fun h => ?_)
        | refine brn_i (fun h => ?_) (fun h => ?_)
        | with_reducible refine IdxK.mk _ rfl ?_
        | with_reducible refine idx_blI ?_ (fun hc => ?_)
        | with_reducible refine idx_bl ?_ (fun hc => ?_)
        | with_reducible refine idx_strI ?_ (fun hc => ?_)
        | with_reducible refine idx_str ?_ (fun hc => ?_)
        | with_reducible refine idx_mapDI ?_ ?_
        | with_reducible refine idx_mapD ?_ ?_
        | with_reducible refine idx_encL ?_ ?_
        | with_reducible refine idx_encM ?_ ?_
        | with_reducible refine idx_encMz ?_ ?_
        | with_reducible refine idx_at ?_ (fun b hb => ?_)
        | refine ex_bl ?_
        | refine ex_b1 ?_ ?_
        | refine ex_b2 ?_ ?_ ?_
        | refine ex_b3 ?_ ?_ ?_ ?_
        | refine ex_b4 ?_ ?_ ?_ ?_ ?_
        | refine optK_setL ?_ ?_
        | refine optK_takeL ?_ ?_
        | with_reducible refine forceDs_i ?_
        )
    all_goals try (conv => whnf)
    all_goals try (refine Side.mk ?_; try dsimp only)
    all_goals first
      | (show LoopP _ _ _ _; skip)
      | (show EndP _ _ _ _ _ _; skip)
      | (show ∃ _, _; skip)
      | (first
            | trivial
            | omega
            | (simp (discharger := omega) only [wu8, wu16, wu32, wu64, wi32, wi64, Int.tdiv_eq_ediv_of_nonneg, Int.tmod_eq_emod_of_nonneg]; omega)
            | (simp only [List.length_append, List.length_cons, List.length_nil, bl_length, List.length_take, List.length_drop]; omega)
            | (simp (discharger := omega) [-List.getD_eq_getElem?_getD, wu8, wu16, wu32, wu64, wi32, wi64, Int.tdiv_eq_ediv_of_nonneg, Int.tmod_eq_emod_of_nonneg]; done)
            | (simp (discharger := omega) [-List.getD_eq_getElem?_getD, wu8, wu16, wu32, wu64, wi32, wi64, Int.tdiv_eq_ediv_of_nonneg, Int.tmod_eq_emod_of_nonneg]; omega))
      | skip
    all_goals
      refine EndP.mk [] ?_ <;> (repeat' (first | trivial | rfl | exact scopedL_bl _ _ | refine And.intro ?_ ?_ | refine congrArg V.str ?_ | refine congrArg (V.int _) ?_ | refine congrArg V.bool ?_ | refine congrArg (O.buf _ _) ?_ | refine congrArg O.cells ?_ | refine congrArg (V.list _ _) ?_ | refine congrArg V.agg ?_ | refine congrArg V.tuple ?_ | refine cons_eq ?_ ?_))
      unfold emp
      simp_all [Val.kind, Val.text, Val.num, Val.bits, Val.list, Val.map]
      try (cases m with
        | nil => rfl
        | cons _ _ => simp; omega)
theorem emp_list {v : Val} (h : emp v = true) : v.kind = 6 ∨ v.list.length = 0 := by
  unfold emp at h
  exact (of_decide_eq_true h).2.2.2.1
theorem emp_map {v : Val} (h : emp v = true) : v.kind = 7 ∨ v.map.length = 0 := by
  unfold emp at h
  exact (of_decide_eq_true h).2.2.2.2
theorem emp_all {v : Val} (h : emp v = true) : (v.kind = 1 ∨ v.kind = 5 ∨ v.text = []) ∧ (v.kind = 2 ∨ v.kind = 3 ∨ v.num = 0) ∧ (v.kind = 4 ∨ v.bits = 0) ∧ (v.kind = 6 ∨ v.list.length = 0) ∧ (v.kind = 7 ∨ v.map.length = 0) := by
  unfold emp at h
  exact of_decide_eq_true h
attribute [irreducible] emp
def sm_emp : Sm := fun args σ => match args, σ with
  | [x], [] => some (isV x ∧ 0 ≤ (decV x).kind ∧ (decV x).kind ≤ 7, .bool (emp (decV x)), none)
  | _, _ => none
theorem k_emp : SOK 22 sm_emp := by
  intro args sg pre x r he hp
  unfold sm_emp at he
  split at he <;> cases he
  exact (f_emp _ hp.2.1 hp.2.2).args (WkL.cons hp.1 WkL.nil)
def keyc (k : List UInt8) : Int := if k = [] then 9 else if uCheck k ≠ -1 then 5 else if 64 < k.length then 35 else 0
theorem f_keyc (k : List UInt8) (h : k.length ≤ 10000000) : OK 34 [.str k] [] (.int .i64 (keyc k)) none := by
  refine funOK_of_vc (C := cx [(23, sm_uCheck)]) (good ⟨k_uCheck, trivial⟩) (fn := Tryd.f34) rfl rfl rfl rfl fun hw _ => ?_
  repeat' (
      conv => whnf
      first
      | refine req_i ?_ ?_
      | refine when_i ?_ ?_
      | refine brn_not ?_
      | refine brn_dec (fun h => ?_) (fun h => ?_)
      | refine brn_int (fun h => ?_) (fun h => ?_)
      | refine brn_intne (fun h => ?_) (fun h => ?_)
      | refine brn_str (fun h => ?_) (fun h => ?_)
      | refine brn_i (fun h => ?_) (fun h => ?_)
      | with_reducible refine IdxK.mk _ rfl ?_
      | with_reducible refine idx_blI ?_ (fun hc => ?_)
      | with_reducible refine idx_bl ?_ (fun hc => ?_)
      | with_reducible refine idx_strI ?_ (fun hc => ?_)
      | with_reducible refine idx_str ?_ (fun hc => ?_)
      | with_reducible refine idx_mapDI ?_ ?_
      | with_reducible refine idx_mapD ?_ ?_
      | with_reducible refine idx_encL ?_ ?_
      | with_reducible refine idx_encM ?_ ?_
      | with_reducible refine idx_encMz ?_ ?_
      | with_reducible refine idx_at ?_ (fun b hb => ?_)
      | refine ex_bl ?_
      | refine ex_b1 ?_ ?_
      | refine ex_b2 ?_ ?_ ?_
      | refine ex_b3 ?_ ?_ ?_ ?_
      | refine ex_b4 ?_ ?_ ?_ ?_ ?_
      | refine optK_setL ?_ ?_
      | refine optK_takeL ?_ ?_
      | with_reducible refine forceDs_i ?_
      )
  all_goals try (conv => whnf)
  all_goals try (refine Side.mk ?_; try dsimp only)
  all_goals first
    | (show LoopP _ _ _ _; skip)
    | (show EndP _ _ _ _ _ _; skip)
    | (show ∃ _, _; skip)
    | (first
          | trivial
          | omega
          | (simp (discharger := omega) only [wu8, wu16, wu32, wu64, wi32, wi64, Int.tdiv_eq_ediv_of_nonneg, Int.tmod_eq_emod_of_nonneg]; omega)
          | (simp only [List.length_append, List.length_cons, List.length_nil, bl_length, List.length_take, List.length_drop]; omega)
          | (simp (discharger := omega) [-List.getD_eq_getElem?_getD, wu8, wu16, wu32, wu64, wi32, wi64, Int.tdiv_eq_ediv_of_nonneg, Int.tmod_eq_emod_of_nonneg]; done)
          | (simp (discharger := omega) [-List.getD_eq_getElem?_getD, wu8, wu16, wu32, wu64, wi32, wi64, Int.tdiv_eq_ediv_of_nonneg, Int.tmod_eq_emod_of_nonneg]; omega))
    | skip
  all_goals
    unfold keyc
    repeat (first | rw [if_pos (by first | assumption | omega)] | rw [if_neg (by first | assumption | omega)])
    refine EndP.mk [] ?_ <;> (repeat' (first | trivial | rfl | exact scopedL_bl _ _ | refine And.intro ?_ ?_ | refine congrArg V.str ?_ | refine congrArg (V.int _) ?_ | refine congrArg V.bool ?_ | refine congrArg (O.buf _ _) ?_ | refine congrArg O.cells ?_ | refine congrArg (V.list _ _) ?_ | refine congrArg V.agg ?_ | refine congrArg V.tuple ?_ | refine cons_eq ?_ ?_))
def sm_keyc : Sm := fun args σ => match args, σ with
  | [.str k], [] => some (k.length ≤ 10000000, .int .i64 (keyc k), none)
  | _, _ => none
theorem k_keyc : SOK 34 sm_keyc := by
  intro args sg pre x r he hp
  unfold sm_keyc at he
  split at he <;> cases he
  exact f_keyc _ hp
def leqB (a b : List UInt8) : Bool := Op.bytesLess a b || a == b
mutual
def chk : Val → Int → Int
  | .mk k t n b l m, d =>
    if 7 < k then 7 else if emp (.mk k t n b l m) = false then 3 else if 6 ≤ k ∧ 16 ≤ d then 33 else if k = 1 ∧ uCheck t ≠ -1 then 5
    else if k = 2 ∧ (n < 0 ∨ 1 < n) then 4 else if chkL l (d + 1) ≠ 0 then chkL l (d + 1) else chkM m none (d + 1)
def chkL : List Val → Int → Int
  | [], _ => 0
  | v :: r, d => if chk v d ≠ 0 then chk v d else chkL r d
def chkA : Att → Option (List UInt8) → Int → Int
  | .mk k v, p, d => if keyc k ≠ 0 then keyc k else if (p.any fun q => leqB k q) = true then 12 else chk v d
def chkM : List Att → Option (List UInt8) → Int → Int
  | [], _, _ => 0
  | a :: r, p, d => if chkA a p d ≠ 0 then chkA a p d else chkM r (some a.key) d
end
theorem chk_eq (v : Val) (d : Int) : chk v d = if 7 < v.kind then 7 else if emp v = false then 3 else if 6 ≤ v.kind ∧ 16 ≤ d then 33 else if v.kind = 1 ∧ uCheck v.text ≠ -1 then 5
    else if v.kind = 2 ∧ (v.num < 0 ∨ 1 < v.num) then 4 else if chkL v.list (d + 1) ≠ 0 then chkL v.list (d + 1) else chkM v.map none (d + 1) := by
  cases v; simp only [chk, Val.kind, Val.text, Val.num, Val.list, Val.map]; rfl
theorem chkL_drop {l : List Val} {i : Nat} (h : i < l.length) (d : Int) : chkL (l.drop i) d = if chk (l.getD i default) d ≠ 0 then chk (l.getD i default) d else chkL (l.drop (i + 1)) d := by
  rw [List.drop_eq_getElem_cons h, chkL, List.getD_eq_getElem?_getD, List.getElem?_eq_getElem h]; rfl
theorem chkM_drop {l : List Att} {i : Nat} (h : i < l.length) (p : Option (List UInt8)) (d : Int) : chkM (l.drop i) p d =
    if chkA (l.getD i default) p d ≠ 0 then chkA (l.getD i default) p d else chkM (l.drop (i + 1)) (some (l.getD i default).key) d := by
  rw [List.drop_eq_getElem_cons h, chkM, List.getD_eq_getElem?_getD, List.getElem?_eq_getElem h]; rfl
theorem chkA_eq (a : Att) (p : Option (List UInt8)) (d : Int) : chkA a p d = if keyc a.key ≠ 0 then keyc a.key else if (p.any fun q => leqB a.key q) = true then 12 else chk a.value d := by cases a; simp only [chkA, Att.key, Att.value]; rfl
def smChk (k : Nat) : Sm := fun args σ => match args, σ with
  | [x, .int .i64 d], [] => some (isV x ∧ (decV x).nodes < k ∧ (decV x).size ≤ 300000 ∧ 0 ≤ d ∧ d ≤ 16, .int .i64 (chk (decV x) d), none)
  | _, _ => none
def smChkM (k : Nat) : Sm := fun args σ => match args, σ with
  | [x, .int .i64 d], [] => some (isM x ∧ nodesM (decMv x) < k ∧ sizeM (decMv x) ≤ 300000 ∧ 0 ≤ d ∧ (d ≤ 16 ∨ decMv x = []), .int .i64 (chkM (decMv x) none d), none)
  | _, _ => none
theorem smChk_ok {k : Nat} (h : ∀ v d, v.nodes < k → v.size ≤ 300000 → 0 ≤ d → d ≤ 16 → OK 14 [ev v, .int .i64 d] [] (.int .i64 (chk v d)) none) : SOK 14 (smChk k) := by
  intro args sg pre x r he hp
  unfold smChk at he
  split at he <;> cases he
  exact (h _ _ hp.2.1 hp.2.2.1 hp.2.2.2.1 hp.2.2.2.2).args (WkL.cons hp.1 (WkL.refl _))
theorem smChkM_ok {k : Nat} (h : ∀ m d, nodesM m < k → sizeM m ≤ 300000 → 0 ≤ d → (d ≤ 16 ∨ m = []) → OK 24 [.list false 7 (encM m), .int .i64 d] [] (.int .i64 (chkM m none d)) none) : SOK 24 (smChkM k) := by
  intro args sg pre x r he hp
  unfold smChkM at he
  split at he <;> cases he
  exact (h _ _ hp.2.1 hp.2.2.1 hp.2.2.2.1 hp.2.2.2.2).args (WkL.cons hp.1 (WkL.refl _))
set_option maxHeartbeats 4000000 in
theorem chk_step {k : Nat} (h1 : SOK 14 (smChk k)) (h2 : SOK 24 (smChkM k)) (v : Val) (d : Int) (hk : v.nodes < k + 1) (hs : v.size ≤ 300000) (hd0 : 0 ≤ d) (hd1 : d ≤ 16) : OK 14 [ev v, .int .i64 d] [] (.int .i64 (chk v d)) none := by
  refine funOK_of_vc (C := cx [(22, sm_emp), (23, sm_uCheck), (14, smChk k), (24, smChkM k)]) (good ⟨k_emp, k_uCheck, h1, h2, trivial⟩) (fn := Tryd.f14) rfl rfl rfl rfl fun hw _ => ?_
  have hb := wf_ev hw.1
  have hz := size_eq v
  have hc := chk_eq v d
  repeat' (
      conv => whnf
      first
      | refine req_i ?_ ?_
      | refine when_i ?_ ?_
      | refine brn_not ?_
      | refine brn_dec (fun h => ?_) (fun h => ?_)
      | refine brn_int (fun h => ?_) (fun h => ?_)
      | refine brn_intne (fun h => ?_) (fun h => ?_)
      | refine brn_str (fun h => ?_) (fun h => ?_)
      | refine brn_i (fun h => ?_) (fun h => ?_)
      | with_reducible refine IdxK.mk _ rfl ?_
      | with_reducible refine idx_blI ?_ (fun hc => ?_)
      | with_reducible refine idx_bl ?_ (fun hc => ?_)
      | with_reducible refine idx_strI ?_ (fun hc => ?_)
      | with_reducible refine idx_str ?_ (fun hc => ?_)
      | with_reducible refine idx_mapDI ?_ ?_
      | with_reducible refine idx_mapD ?_ ?_
      | with_reducible refine idx_encL ?_ ?_
      | with_reducible refine idx_encM ?_ ?_
      | with_reducible refine idx_encMz ?_ ?_
      | with_reducible refine idx_at ?_ (fun b hb => ?_)
      | refine ex_bl ?_
      | refine ex_b1 ?_ ?_
      | refine ex_b2 ?_ ?_ ?_
      | refine ex_b3 ?_ ?_ ?_ ?_
      | refine ex_b4 ?_ ?_ ?_ ?_ ?_
      | refine optK_setL ?_ ?_
      | refine optK_takeL ?_ ?_
      | with_reducible refine forceDs_i ?_
      )
  all_goals try (conv => whnf)
  all_goals try (refine Side.mk ?_; try dsimp only)
  all_goals first
    | (show LoopP _ _ _ _; skip)
    | (show EndP _ _ _ _ _ _; skip)
    | (show ∃ _, _; skip)
    | (first
          | trivial
          | omega
          | (simp (discharger := omega) only [wu8, wu16, wu32, wu64, wi32, wi64, Int.tdiv_eq_ediv_of_nonneg, Int.tmod_eq_emod_of_nonneg]; omega)
          | (simp only [List.length_append, List.length_cons, List.length_nil, bl_length, List.length_take, List.length_drop]; omega)
          | (simp (discharger := omega) [-List.getD_eq_getElem?_getD, wu8, wu16, wu32, wu64, wi32, wi64, Int.tdiv_eq_ediv_of_nonneg, Int.tmod_eq_emod_of_nonneg]; done)
          | (simp (discharger := omega) [-List.getD_eq_getElem?_getD, wu8, wu16, wu32, wu64, wi32, wi64, Int.tdiv_eq_ediv_of_nonneg, Int.tmod_eq_emod_of_nonneg]; omega))
    | skip
  all_goals (try simp only [decV_ev] at *)
  all_goals first
    | (exfalso; omega)
    | exact ⟨isV_ev _, by omega, by omega⟩
    | (show EndP _ _ _ _ _ _
       rw [hc]
       repeat (first | rw [if_pos (by first | assumption | omega)] | rw [if_neg (by first | assumption | omega | simp [*])])
       refine EndP.mk [] ?_ <;> (repeat' (first | trivial | rfl | exact scopedL_bl _ _ | refine And.intro ?_ ?_ | refine congrArg V.str ?_ | refine congrArg (V.int _) ?_ | refine congrArg V.bool ?_ | refine congrArg (O.buf _ _) ?_ | refine congrArg O.cells ?_ | refine congrArg (V.list _ _) ?_ | refine congrArg V.agg ?_ | refine congrArg V.tuple ?_ | refine cons_eq ?_ ?_))
      )
    | skip
  all_goals (have he : emp v = true := by simpa using ‹_›)
  all_goals have hel := emp_list he
  all_goals have hem := emp_map he
  all_goals (
    rw [if_neg (by omega), if_neg (by simp [*]), if_neg (by omega), if_neg (by omega), if_neg (by omega)] at hc
    refine LoopP.mk Nat (fun i => i ≤ v.list.length ∧ chkL (v.list.drop i) (d + 1) = chkL v.list (d + 1)) (fun i => ⟨65, [(5, .int .i64 i), (2, .ptr 0 0), (1, .int .i64 d)], [.cells (cv v)], []⟩) (fun i => v.list.length - i) [] 0 ⟨Nat.zero_le _, rfl⟩ ?_ (fun i hii _ _ => ?_)
    · refine Go.VG.Sub.mk rfl ?_ ?_ ?_ ?_ <;> (repeat' (first | trivial | rfl | exact scopedL_bl _ _ | refine And.intro ?_ ?_ | refine congrArg V.str ?_ | refine congrArg (V.int _) ?_ | refine congrArg V.bool ?_ | refine congrArg (O.buf _ _) ?_ | refine congrArg O.cells ?_ | refine congrArg (V.list _ _) ?_ | refine congrArg V.agg ?_ | refine congrArg V.tuple ?_ | refine cons_eq ?_ ?_))
    obtain ⟨hi, hq⟩ := hii
    have e1 := encL_length v.list
    repeat' (
        conv => whnf
        first
        | refine req_i ?_ ?_
        | refine when_i ?_ ?_
        | refine brn_not ?_
        | refine brn_dec (fun h => ?_) (fun h => ?_)
        | refine brn_int (fun h => ?_) (fun h => ?_)
        | refine brn_intne (fun h => ?_) (fun h => ?_)
        | refine brn_str (fun h => ?_) (fun h => ?_)
        | refine brn_i (fun h => ?_) (fun h => ?_)
        | with_reducible refine IdxK.mk _ rfl ?_
        | with_reducible refine idx_blI ?_ (fun hc => ?_)
        | with_reducible refine idx_bl ?_ (fun hc => ?_)
        | with_reducible refine idx_strI ?_ (fun hc => ?_)
        | with_reducible refine idx_str ?_ (fun hc => ?_)
        | with_reducible refine idx_mapDI ?_ ?_
        | with_reducible refine idx_mapD ?_ ?_
        | with_reducible refine idx_encL ?_ ?_
        | with_reducible refine idx_encM ?_ ?_
        | with_reducible refine idx_encMz ?_ ?_
        | with_reducible refine idx_at ?_ (fun b hb => ?_)
        | refine ex_bl ?_
        | refine ex_b1 ?_ ?_
        | refine ex_b2 ?_ ?_ ?_
        | refine ex_b3 ?_ ?_ ?_ ?_
        | refine ex_b4 ?_ ?_ ?_ ?_ ?_
        | refine optK_setL ?_ ?_
        | refine optK_takeL ?_ ?_
        | with_reducible refine forceDs_i ?_
        )
    all_goals try (conv => whnf)
    all_goals try (refine Side.mk ?_; try dsimp only)
    all_goals first
      | (show LoopP _ _ _ _; skip)
      | (show EndP _ _ _ _ _ _; skip)
      | (show ∃ _, _; skip)
      | (first
            | trivial
            | omega
            | (simp (discharger := omega) only [wu8, wu16, wu32, wu64, wi32, wi64, Int.tdiv_eq_ediv_of_nonneg, Int.tmod_eq_emod_of_nonneg]; omega)
            | (simp only [List.length_append, List.length_cons, List.length_nil, bl_length, List.length_take, List.length_drop]; omega)
            | (simp (discharger := omega) [-List.getD_eq_getElem?_getD, wu8, wu16, wu32, wu64, wi32, wi64, Int.tdiv_eq_ediv_of_nonneg, Int.tmod_eq_emod_of_nonneg]; done)
            | (simp (discharger := omega) [-List.getD_eq_getElem?_getD, wu8, wu16, wu32, wu64, wi32, wi64, Int.tdiv_eq_ediv_of_nonneg, Int.tmod_eq_emod_of_nonneg]; omega))
      | skip
    all_goals (have hwd : IntKind.i64.wrap (d + 1) = d + 1 := by rw [wi64]; omega)
    all_goals (try simp only [decV_ev, decMv_enc] at *)
    all_goals rw [encL_length] at *
    all_goals (try simp only [hwd] at *)
    all_goals first
      | (exfalso; omega)
      | (have hlt : i < v.list.length := by omega
         have q1 := nodesL_get hlt
         have q2 := sizeL_get hlt
         have q3 := nodes_eq v
         exact ⟨isV_ev _, by omega, by omega, by omega, by omega⟩)
      | (have q3 := nodes_eq v
         refine ⟨isM_enc _, by omega, by omega, by omega, ?_⟩
         rcases hem with h | h
         · exact .inl (by omega)
         · exact .inr (List.length_eq_zero_iff.1 h))
      | (have hlt : i < v.list.length := by omega
         rw [chkL_drop hlt, if_neg (by simpa using ‹_›)] at hq
         refine ⟨[], i + 1, ⟨by omega, hq⟩, ?_, by omega⟩
         refine Go.VG.Sub.mk rfl ?_ ?_ ?_ ?_ <;> (repeat' (first | trivial | rfl | exact scopedL_bl _ _ | refine And.intro ?_ ?_ | refine congrArg V.str ?_ | refine congrArg (V.int _) ?_ | refine congrArg V.bool ?_ | refine congrArg (O.buf _ _) ?_ | refine congrArg O.cells ?_ | refine congrArg (V.list _ _) ?_ | refine congrArg V.agg ?_ | refine congrArg V.tuple ?_ | refine cons_eq ?_ ?_))
         all_goals (first | omega | (simp (discharger := omega) only [wu8, wu16, wu32, wu64, wi32, wi64, Int.tdiv_eq_ediv_of_nonneg, Int.tmod_eq_emod_of_nonneg]; omega) | (simp only [List.length_append, List.length_cons, List.length_nil, bl_length, List.length_take, List.length_drop]; omega) | (simp (discharger := omega) [-List.getD_eq_getElem?_getD, wu8, wu16, wu32, wu64, wi32, wi64, Int.tdiv_eq_ediv_of_nonneg, Int.tmod_eq_emod_of_nonneg]; done) | (simp (discharger := omega) [-List.getD_eq_getElem?_getD, wu8, wu16, wu32, wu64, wi32, wi64, Int.tdiv_eq_ediv_of_nonneg, Int.tmod_eq_emod_of_nonneg]; omega))
        )
      | (have hlt : i < v.list.length := by omega
         rw [chkL_drop hlt, if_pos (by assumption)] at hq
         rw [hc, ← hq, if_pos (by assumption)]
         refine EndP.mk [] ?_ <;> (repeat' (first | trivial | rfl | exact scopedL_bl _ _ | refine And.intro ?_ ?_ | refine congrArg V.str ?_ | refine congrArg (V.int _) ?_ | refine congrArg V.bool ?_ | refine congrArg (O.buf _ _) ?_ | refine congrArg O.cells ?_ | refine congrArg (V.list _ _) ?_ | refine congrArg V.agg ?_ | refine congrArg V.tuple ?_ | refine cons_eq ?_ ?_))
        )
      | (have hlt : v.list.length ≤ i := by omega
         rw [List.drop_of_length_le (by omega), chkL] at hq
         rw [hc, ← hq, if_neg (by simp)]
         refine EndP.mk [] ?_ <;> (repeat' (first | trivial | rfl | exact scopedL_bl _ _ | refine And.intro ?_ ?_ | refine congrArg V.str ?_ | refine congrArg (V.int _) ?_ | refine congrArg V.bool ?_ | refine congrArg (O.buf _ _) ?_ | refine congrArg O.cells ?_ | refine congrArg (V.list _ _) ?_ | refine congrArg V.agg ?_ | refine congrArg V.tuple ?_ | refine cons_eq ?_ ?_))
        )
      )
theorem chkM_step {k : Nat} (h1 : SOK 14 (smChk (k + 1))) (m : List Att) (d : Int) (hk : nodesM m < k + 1) (hs : sizeM m ≤ 300000) (hd0 : 0 ≤ d) (hd1 : d ≤ 16 ∨ m = []) : OK 24 [.list false 7 (encM m), .int .i64 d] [] (.int .i64 (chkM m none d)) none := by
  refine funOK_of_vc (C := cx [(34, sm_keyc), (14, smChk (k + 1))]) (good ⟨k_keyc, h1, trivial⟩) (fn := Tryd.f24) rfl rfl rfl rfl fun hw _ => ?_
  have hb : m.length ≤ 9223372036854775807 := by have := hw.1.1; rw [encM_length] at this; exact this
  refine LoopP.mk Nat (fun i => i ≤ m.length ∧ chkM (m.drop i) (if i = 0 then none else some (m.getD (i - 1) default).key) d = chkM m none d) (fun i => ⟨49, [(5, .int .i64 i), (0, .list false 7 (encM m)), (1, .int .i64 d)], [], []⟩) (fun i => m.length - i) [] 0 ⟨Nat.zero_le _, rfl⟩ ?_ (fun i hii _ _ => ?_)
  · refine Go.VG.Sub.mk rfl ?_ ?_ ?_ ?_ <;> (repeat' (first | trivial | rfl | exact scopedL_bl _ _ | refine And.intro ?_ ?_ | refine congrArg V.str ?_ | refine congrArg (V.int _) ?_ | refine congrArg V.bool ?_ | refine congrArg (O.buf _ _) ?_ | refine congrArg O.cells ?_ | refine congrArg (V.list _ _) ?_ | refine congrArg V.agg ?_ | refine congrArg V.tuple ?_ | refine cons_eq ?_ ?_))
  obtain ⟨hi, hq⟩ := hii
  have e1 := encM_length m
  repeat' (
      conv => whnf
      first
      | refine req_i ?_ ?_
      | refine when_i ?_ ?_
      | refine brn_not ?_
      | refine brn_dec (fun h => ?_) (fun h => ?_)
      | refine brn_int (fun h => ?_) (fun h => ?_)
      | refine brn_intne (fun h => ?_) (fun h => ?_)
      | refine brn_str (fun h => ?_) (fun h => ?_)
      | refine brn_i (fun h => ?_) (fun h => ?_)
      | with_reducible refine IdxK.mk _ rfl ?_
      | with_reducible refine idx_blI ?_ (fun hc => ?_)
      | with_reducible refine idx_bl ?_ (fun hc => ?_)
      | with_reducible refine idx_strI ?_ (fun hc => ?_)
      | with_reducible refine idx_str ?_ (fun hc => ?_)
      | with_reducible refine idx_mapDI ?_ ?_
      | with_reducible refine idx_mapD ?_ ?_
      | with_reducible refine idx_encL ?_ ?_
      | with_reducible refine idx_encM ?_ ?_
      | with_reducible refine idx_encMz ?_ ?_
      | with_reducible refine idx_at ?_ (fun b hb => ?_)
      | refine ex_bl ?_
      | refine ex_b1 ?_ ?_
      | refine ex_b2 ?_ ?_ ?_
      | refine ex_b3 ?_ ?_ ?_ ?_
      | refine ex_b4 ?_ ?_ ?_ ?_ ?_
      | refine optK_setL ?_ ?_
      | refine optK_takeL ?_ ?_
      | with_reducible refine forceDs_i ?_
      )
  all_goals try (conv => whnf)
  all_goals try (refine Side.mk ?_; try dsimp only)
  all_goals first
    | (show LoopP _ _ _ _; skip)
    | (show EndP _ _ _ _ _ _; skip)
    | (show ∃ _, _; skip)
    | (first
          | trivial
          | omega
          | (simp (discharger := omega) only [wu8, wu16, wu32, wu64, wi32, wi64, Int.tdiv_eq_ediv_of_nonneg, Int.tmod_eq_emod_of_nonneg]; omega)
          | (simp only [List.length_append, List.length_cons, List.length_nil, bl_length, List.length_take, List.length_drop]; omega)
          | (simp (discharger := omega) [-List.getD_eq_getElem?_getD, wu8, wu16, wu32, wu64, wi32, wi64, Int.tdiv_eq_ediv_of_nonneg, Int.tmod_eq_emod_of_nonneg]; done)
          | (simp (discharger := omega) [-List.getD_eq_getElem?_getD, wu8, wu16, wu32, wu64, wi32, wi64, Int.tdiv_eq_ediv_of_nonneg, Int.tmod_eq_emod_of_nonneg]; omega))
    | skip
  all_goals (try simp only [decV_ev] at *)
  all_goals rw [encM_length] at *
  all_goals first
    | (show EndP _ _ _ _ _ _; skip)
    | (have hwi : IntKind.i64.wrap ((i : Int) - 1) = ((i - 1 : Nat) : Int) := by rw [wi64]; omega
       rw [hwi, Int.toNat_natCast]; omega)
    | (have hlt : i < m.length := by omega
       have q2 := sizeM_get hlt
       omega)
    | (have hlt : i < m.length := by omega
       have q1 := nodesM_get hlt
       have q2 := sizeM_get hlt
       refine ⟨isV_ev _, by omega, by omega, by omega, ?_⟩
       rcases hd1 with h | h
       · exact h
       · subst h; simp at hlt)
    | skip
  · have hlt : i < m.length := by omega
    have hwi : (IntKind.i64.wrap ((i : Int) - 1)).toNat = i - 1 := by rw [wi64]; omega
    have hl := h
    rw [hwi] at hl
    have hA : chkA (m.getD i default) (if i = 0 then none else some (m.getD (i - 1) default).key) d = 12 := by
      rw [chkA_eq, if_neg (by simpa using ‹_›), if_neg (by omega : ¬ i = 0), if_pos (show (some (m.getD (i - 1) default).key).any (fun q => leqB (m.getD i default).key q) = true from hl)]
    rw [chkM_drop hlt, hA, if_pos (by decide)] at hq
    rw [← hq]
    refine EndP.mk [] ?_ <;> (repeat' (first | trivial | rfl | exact scopedL_bl _ _ | refine And.intro ?_ ?_ | refine congrArg V.str ?_ | refine congrArg (V.int _) ?_ | refine congrArg V.bool ?_ | refine congrArg (O.buf _ _) ?_ | refine congrArg O.cells ?_ | refine congrArg (V.list _ _) ?_ | refine congrArg V.agg ?_ | refine congrArg V.tuple ?_ | refine cons_eq ?_ ?_))
  · have hlt : i < m.length := by omega
    have hwi : (IntKind.i64.wrap ((i : Int) - 1)).toNat = i - 1 := by rw [wi64]; omega
    rename_i hk0 _ hl
    have hz := h
    rw [hwi] at hl
    have hl : leqB (m.getD i default).key (m.getD (i - 1) default).key = false := hl
    have hA : chkA (m.getD i default) (if i = 0 then none else some (m.getD (i - 1) default).key) d = 0 := by
      rw [chkA_eq, if_neg (by simpa using hk0), if_neg (by omega : ¬ i = 0), if_neg (show ¬ (some (m.getD (i - 1) default).key).any (fun q => leqB (m.getD i default).key q) = true from fun e => by have e : leqB (m.getD i default).key (m.getD (i - 1) default).key = true := e; rw [hl] at e; cases e), hz]
    rw [chkM_drop hlt, hA, if_neg (by decide)] at hq
    refine ⟨[], i + 1, ⟨by omega, hq⟩, ?_, by omega⟩
    refine Go.VG.Sub.mk rfl ?_ ?_ ?_ ?_ <;> (repeat' (first | trivial | rfl | exact scopedL_bl _ _ | refine And.intro ?_ ?_ | refine congrArg V.str ?_ | refine congrArg (V.int _) ?_ | refine congrArg V.bool ?_ | refine congrArg (O.buf _ _) ?_ | refine congrArg O.cells ?_ | refine congrArg (V.list _ _) ?_ | refine congrArg V.agg ?_ | refine congrArg V.tuple ?_ | refine cons_eq ?_ ?_))
    all_goals (first | omega | (simp (discharger := omega) only [wu8, wu16, wu32, wu64, wi32, wi64, Int.tdiv_eq_ediv_of_nonneg, Int.tmod_eq_emod_of_nonneg]; omega) | (simp only [List.length_append, List.length_cons, List.length_nil, bl_length, List.length_take, List.length_drop]; omega) | (simp (discharger := omega) [-List.getD_eq_getElem?_getD, wu8, wu16, wu32, wu64, wi32, wi64, Int.tdiv_eq_ediv_of_nonneg, Int.tmod_eq_emod_of_nonneg]; done) | (simp (discharger := omega) [-List.getD_eq_getElem?_getD, wu8, wu16, wu32, wu64, wi32, wi64, Int.tdiv_eq_ediv_of_nonneg, Int.tmod_eq_emod_of_nonneg]; omega))
  · have hlt : i < m.length := by omega
    have hwi : (IntKind.i64.wrap ((i : Int) - 1)).toNat = i - 1 := by rw [wi64]; omega
    rename_i hk0 _ hl
    have hz := h
    rw [hwi] at hl
    have hl : leqB (m.getD i default).key (m.getD (i - 1) default).key = false := hl
    have hA : chkA (m.getD i default) (if i = 0 then none else some (m.getD (i - 1) default).key) d = chk (m.getD i default).value d := by
      rw [chkA_eq, if_neg (by simpa using hk0), if_neg (by omega : ¬ i = 0), if_neg (show ¬ (some (m.getD (i - 1) default).key).any (fun q => leqB (m.getD i default).key q) = true from fun e => by have e : leqB (m.getD i default).key (m.getD (i - 1) default).key = true := e; rw [hl] at e; cases e)]
    rw [chkM_drop hlt, hA, if_pos hz] at hq
    rw [← hq]
    refine EndP.mk [] ?_ <;> (repeat' (first | trivial | rfl | exact scopedL_bl _ _ | refine And.intro ?_ ?_ | refine congrArg V.str ?_ | refine congrArg (V.int _) ?_ | refine congrArg V.bool ?_ | refine congrArg (O.buf _ _) ?_ | refine congrArg O.cells ?_ | refine congrArg (V.list _ _) ?_ | refine congrArg V.agg ?_ | refine congrArg V.tuple ?_ | refine cons_eq ?_ ?_))
  · have hlt : i < m.length := by omega
    rename_i hk0 _
    have hz := h
    obtain rfl : i = 0 := by omega
    have hA : chkA (m.getD 0 default) none d = 0 := by
      rw [chkA_eq, if_neg (by simpa using hk0), if_neg (by simp), hz]
    rw [chkM_drop hlt, if_pos rfl, hA, if_neg (by decide)] at hq
    refine ⟨[], 0 + 1, ⟨by omega, hq⟩, ?_, by omega⟩
    refine Go.VG.Sub.mk rfl ?_ ?_ ?_ ?_ <;> (repeat' (first | trivial | rfl | exact scopedL_bl _ _ | refine And.intro ?_ ?_ | refine congrArg V.str ?_ | refine congrArg (V.int _) ?_ | refine congrArg V.bool ?_ | refine congrArg (O.buf _ _) ?_ | refine congrArg O.cells ?_ | refine congrArg (V.list _ _) ?_ | refine congrArg V.agg ?_ | refine congrArg V.tuple ?_ | refine cons_eq ?_ ?_))
    all_goals (first | omega | (simp (discharger := omega) only [wu8, wu16, wu32, wu64, wi32, wi64, Int.tdiv_eq_ediv_of_nonneg, Int.tmod_eq_emod_of_nonneg]; omega) | (simp only [List.length_append, List.length_cons, List.length_nil, bl_length, List.length_take, List.length_drop]; omega) | (simp (discharger := omega) [-List.getD_eq_getElem?_getD, wu8, wu16, wu32, wu64, wi32, wi64, Int.tdiv_eq_ediv_of_nonneg, Int.tmod_eq_emod_of_nonneg]; done) | (simp (discharger := omega) [-List.getD_eq_getElem?_getD, wu8, wu16, wu32, wu64, wi32, wi64, Int.tdiv_eq_ediv_of_nonneg, Int.tmod_eq_emod_of_nonneg]; omega))
  · have hlt : i < m.length := by omega
    rename_i hk0 _
    have hz := h
    obtain rfl : i = 0 := by omega
    have hA : chkA (m.getD 0 default) none d = chk (m.getD 0 default).value d := by
      rw [chkA_eq, if_neg (by simpa using hk0), if_neg (by simp)]
    rw [chkM_drop hlt, if_pos rfl, hA, if_pos hz] at hq
    rw [← hq]
    refine EndP.mk [] ?_ <;> (repeat' (first | trivial | rfl | exact scopedL_bl _ _ | refine And.intro ?_ ?_ | refine congrArg V.str ?_ | refine congrArg (V.int _) ?_ | refine congrArg V.bool ?_ | refine congrArg (O.buf _ _) ?_ | refine congrArg O.cells ?_ | refine congrArg (V.list _ _) ?_ | refine congrArg V.agg ?_ | refine congrArg V.tuple ?_ | refine cons_eq ?_ ?_))
  · have hlt : i < m.length := by omega
    have hk0 := h
    have hA : chkA (m.getD i default) (if i = 0 then none else some (m.getD (i - 1) default).key) d = keyc (m.getD i default).key := by
      rw [chkA_eq, if_pos hk0]
    rw [chkM_drop hlt, hA, if_pos hk0] at hq
    rw [← hq]
    refine EndP.mk [] ?_ <;> (repeat' (first | trivial | rfl | exact scopedL_bl _ _ | refine And.intro ?_ ?_ | refine congrArg V.str ?_ | refine congrArg (V.int _) ?_ | refine congrArg V.bool ?_ | refine congrArg (O.buf _ _) ?_ | refine congrArg O.cells ?_ | refine congrArg (V.list _ _) ?_ | refine congrArg V.agg ?_ | refine congrArg V.tuple ?_ | refine cons_eq ?_ ?_))
  · rw [List.drop_of_length_le (by omega), chkM] at hq
    rw [← hq]
    refine EndP.mk [] ?_ <;> (repeat' (first | trivial | rfl | exact scopedL_bl _ _ | refine And.intro ?_ ?_ | refine congrArg V.str ?_ | refine congrArg (V.int _) ?_ | refine congrArg V.bool ?_ | refine congrArg (O.buf _ _) ?_ | refine congrArg O.cells ?_ | refine congrArg (V.list _ _) ?_ | refine congrArg V.agg ?_ | refine congrArg V.tuple ?_ | refine cons_eq ?_ ?_))
theorem chk_all : ∀ k : Nat, SOK 14 (smChk k) ∧ SOK 24 (smChkM k)
  | 0 => ⟨smChk_ok fun _ _ h => by omega, smChkM_ok fun _ _ h => by omega⟩
  | k + 1 => by
    have ih := chk_all k
    have h1 := smChk_ok (k := k + 1) fun v n hk hs h0 h1 => chk_step ih.1 ih.2 v n hk hs h0 h1
    exact ⟨h1, smChkM_ok fun m n hk hs h0 hn => chkM_step h1 m n hk hs h0 hn⟩
def sm_Chk : Sm := fun args σ => match args, σ with
  | [x, .int .i64 d], [] => some (isV x ∧ (decV x).size ≤ 300000 ∧ 0 ≤ d ∧ d ≤ 16, .int .i64 (chk (decV x) d), none)
  | _, _ => none
theorem k_Chk : SOK 14 sm_Chk := by
  intro args sg pre x r he hp
  unfold sm_Chk at he
  split at he <;> cases he
  rename_i y q
  exact (chk_all ((decV y).nodes + 1)).1 [y, .int .i64 q] [] _ _ _ rfl ⟨hp.1, Nat.lt_succ_self _, hp.2.1, hp.2.2.1, hp.2.2.2⟩
end Go.Proofs.YtgbkjecepncjoaaDoor
