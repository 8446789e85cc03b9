/-
  A number of JSON: the program's functions do what the model turns.
-/
import Derived.Test.YtllncocibkgjkaaJNd
set_option linter.unusedSimpArgs false
set_option linter.unusedVariables false
set_option maxHeartbeats 4000000
namespace Go.Proofs.Ytllncocibkgjkaa
open Go Go.VG
set_option maxRecDepth 100000
theorem digB_t {b : UInt8} : digB b = true ↔ 48 ≤ b.toNat ∧ b.toNat ≤ 57 := by simp [digB]
theorem digB_f {b : UInt8} : digB b = false ↔ ¬ (48 ≤ b.toNat ∧ b.toNat ≤ 57) := by rw [← digB_t, Bool.not_eq_true]
theorem eatC_ok {c : Cu} (h : c.ok) (s : List UInt8) : (c.eatC s).ok ∧ (c.eatC s).s = c.s ∧ (c.eatC s).e = c.e := by
  unfold Cu.eatC; split
  · exact pass_ok h 1
  · exact ⟨h, rfl, rfl⟩
theorem eatO_len (c : Cu) (s : List UInt8) : (c.eatO s).length ≤ 1 := by unfold Cu.eatO; split <;> simp
theorem digsGo_ok : ∀ (n : Nat) (c : Cu) (o : List UInt8), c.ok → (digsGo n c o).1.ok ∧ (digsGo n c o).1.s = c.s ∧ (digsGo n c o).1.e = c.e ∧ (digsGo n c o).2.length ≤ o.length + n + 1
  | 0, c, o, h => by
    have hb := pass_ok h 1
    rw [digsGo]; exact ⟨hb.1, hb.2.1, hb.2.2, by simp⟩
  | n + 1, c, o, h => by
    have hb := pass_ok h 1
    rw [digsGo]; split
    · have := digsGo_ok n c.byte (o ++ [c.byteV]) hb.1
      refine ⟨this.1, this.2.1.trans hb.2.1, this.2.2.1.trans hb.2.2, ?_⟩
      have := this.2.2.2; simp at this; omega
    · exact ⟨hb.1, hb.2.1, hb.2.2, by simp⟩
theorem digs_ok {c : Cu} (h : c.ok) : c.digs.1.ok ∧ c.digs.1.s = c.s ∧ c.digs.1.e = c.e ∧ c.digs.2.length ≤ c.e + 1 := by
  unfold Cu.digs; split
  · have := digsGo_ok (c.e - c.p) c [] h
    refine ⟨this.1, this.2.1, this.2.2.1, ?_⟩
    have := this.2.2.2; simp at this; omega
  · refine ⟨?_, ?_, ?_, by simp⟩
    all_goals
      dsimp only
      split
      · have hf := fail_ok h 3
        have hb := pass_ok hf.1 1
        first | exact hb.1 | exact hb.2.1.trans hf.2.1 | exact hb.2.2.trans hf.2.2.1
      · have hb := pass_ok h 1
        first | exact hb.1 | exact hb.2.1 | exact hb.2.2
theorem f_jnTake_1 (c : Cu) (o : List V) (hp : c.ok ∧ o.length ≤ 2000000000) : OK 113 ([.ptr 0 0]) ([.cells [.ptr 1 0, .buf 2], .cells (eC c), .buf 1 0 o]) (.tuple []) (some [.cells [.ptr 1 0, .buf 2], .cells (eC c.byte), .buf 1 0 (o ++ bl [c.byteV])]) := by
  refine funOK_of_vc (C := cx [(44, sm_cByte)]) (good ⟨k_cByte, trivial⟩) (fn := Try.f113) rfl rfl rfl rfl fun hw hs => ?_
  obtain ⟨hp, ho⟩ := hp
  repeat' (
      conv => whnf
      first
      | refine req_i ?_ ?_
      | refine when_i ?_ ?_
      | refine brn_not ?_
      | refine brn_dec (fun h => ?_) (fun h => ?_)
      | refine brn_int (fun h => ?_) (fun h => ?_)
      | refine brn_intne (fun h => ?_) (fun h => ?_)
      | refine brn_str (fun h => ?_) (fun h => ?_)
      | refine brn_i (fun h => ?_) (fun h => ?_)
      | with_reducible refine IdxK.mk _ rfl ?_
      | with_reducible refine idx_blI ?_ (fun hc => ?_)
      | with_reducible refine idx_bl ?_ (fun hc => ?_)
      | with_reducible refine idx_strI ?_ (fun hc => ?_)
      | with_reducible refine idx_str ?_ (fun hc => ?_)
      | with_reducible refine idx_mapDI ?_ ?_
      | with_reducible refine idx_mapD ?_ ?_
      | with_reducible refine idx_at ?_ (fun b hb => ?_)
      | refine ex_bl ?_
      | refine ex_b1 ?_ ?_
      | refine ex_b2 ?_ ?_ ?_
      | refine ex_b3 ?_ ?_ ?_ ?_
      | refine ex_b4 ?_ ?_ ?_ ?_ ?_
      | refine optK_setL ?_ ?_
      | refine optK_takeL ?_ ?_
      | with_reducible refine forceDs_i ?_
      )
  all_goals try (conv => whnf)
  all_goals try (refine Side.mk ?_; try dsimp only)
  all_goals (try simp only [Cu_eta] at *)
  all_goals first
    | (show LoopP _ _ _ _; skip)
    | (show GotoP _ _ _ _ _; skip)
    | (show EndP _ _ _ _ _ _; skip)
    | (show ∃ _, _; skip)
    | (first
          | trivial
          | omega
          | (simp (discharger := omega) only [wu8, wu16, wu32, wu64, wi32, wi64, Int.tdiv_eq_ediv_of_nonneg, Int.tmod_eq_emod_of_nonneg]; omega)
          | (simp only [List.length_append, List.length_cons, List.length_nil, bl_length, List.length_take, List.length_drop]; omega)
          | (simp (discharger := omega) [-List.getD_eq_getElem?_getD, wu8, wu16, wu32, wu64, wi32, wi64, Int.tdiv_eq_ediv_of_nonneg, Int.tmod_eq_emod_of_nonneg]; done)
          | (simp (discharger := omega) [-List.getD_eq_getElem?_getD, wu8, wu16, wu32, wu64, wi32, wi64, Int.tdiv_eq_ediv_of_nonneg, Int.tmod_eq_emod_of_nonneg]; omega))
    | skip
  all_goals
    refine EndP.mk [] ?_ <;> (repeat' (first | trivial | rfl | exact scopedL_bl _ _ | refine And.intro ?_ ?_ | refine congrArg V.str ?_ | refine congrArg (V.int _) ?_ | refine congrArg V.bool ?_ | refine congrArg (O.buf _ _) ?_ | refine congrArg O.cells ?_ | refine congrArg (V.list _ _) ?_ | refine congrArg V.agg ?_ | refine congrArg V.tuple ?_ | refine cons_eq ?_ ?_))
def sm_jnTake : Sm := fun args σ => match args, σ with
  | [.ptr 0 0], [.cells [.ptr 1 0, .buf 2], .cells ([.str s_c, .int .i64 (.ofNat a_c), .int .i64 (.ofNat e_c), .int .i64 c_c]), .buf 1 0 o] => some (True ∧ ((Cu.mk s_c a_c e_c c_c).ok ∧ o.length ≤ 2000000000), .tuple [], some [.cells [.ptr 1 0, .buf 2], .cells (eC (Cu.mk s_c a_c e_c c_c).byte), .buf 1 0 (o ++ bl [(Cu.mk s_c a_c e_c c_c).byteV])])
  | _, _ => none
theorem k_jnTake : SOK 113 sm_jnTake := by
  intro args sg pre x r he hp
  unfold sm_jnTake at he
  split at he <;> cases he
  · rw [viewC (hp).1]; exact f_jnTake_1 (hp := hp.2) ..
theorem f_jnDigit_1 (c : Cu) (o : List V) (hp : c.ok) : OK 114 ([.ptr 0 0]) ([.cells [.ptr 1 0, .buf 2], .cells (eC c), .buf 1 0 o]) (.bool (digB c.byteV)) (none) := by
  refine funOK_of_vc (C := cx [(43, sm_cPeek)]) (good ⟨k_cPeek, trivial⟩) (fn := Try.f114) rfl rfl rfl rfl fun hw hs => ?_
  have hb : c.byteV.toNat < 256 := c.byteV.toNat_lt
  have hn : ¬ (c.c = 0 ∧ c.p < c.e) → digB c.byteV = false := fun h => by rw [byteV_not h]; decide
  repeat' (
      conv => whnf
      first
      | refine req_i ?_ ?_
      | refine when_i ?_ ?_
      | refine brn_not ?_
      | refine brn_dec (fun h => ?_) (fun h => ?_)
      | refine brn_int (fun h => ?_) (fun h => ?_)
      | refine brn_intne (fun h => ?_) (fun h => ?_)
      | refine brn_str (fun h => ?_) (fun h => ?_)
      | refine brn_i (fun h => ?_) (fun h => ?_)
      | with_reducible refine IdxK.mk _ rfl ?_
      | with_reducible refine idx_blI ?_ (fun hc => ?_)
      | with_reducible refine idx_bl ?_ (fun hc => ?_)
      | with_reducible refine idx_strI ?_ (fun hc => ?_)
      | with_reducible refine idx_str ?_ (fun hc => ?_)
      | with_reducible refine idx_mapDI ?_ ?_
      | with_reducible refine idx_mapD ?_ ?_
      | with_reducible refine idx_at ?_ (fun b hb => ?_)
      | refine ex_bl ?_
      | refine ex_b1 ?_ ?_
      | refine ex_b2 ?_ ?_ ?_
      | refine ex_b3 ?_ ?_ ?_ ?_
      | refine ex_b4 ?_ ?_ ?_ ?_ ?_
      | refine optK_setL ?_ ?_
      | refine optK_takeL ?_ ?_
      | with_reducible refine forceDs_i ?_
      )
  all_goals try (conv => whnf)
  all_goals try (refine Side.mk ?_; try dsimp only)
  all_goals (try simp only [Cu_eta] at *)
  all_goals first
    | (show LoopP _ _ _ _; skip)
    | (show GotoP _ _ _ _ _; skip)
    | (show EndP _ _ _ _ _ _; skip)
    | (show ∃ _, _; skip)
    | (first
          | trivial
          | omega
          | (simp (discharger := omega) only [wu8, wu16, wu32, wu64, wi32, wi64, Int.tdiv_eq_ediv_of_nonneg, Int.tmod_eq_emod_of_nonneg]; omega)
          | (simp only [List.length_append, List.length_cons, List.length_nil, bl_length, List.length_take, List.length_drop]; omega)
          | (simp (discharger := omega) [-List.getD_eq_getElem?_getD, wu8, wu16, wu32, wu64, wi32, wi64, Int.tdiv_eq_ediv_of_nonneg, Int.tmod_eq_emod_of_nonneg]; done)
          | (simp (discharger := omega) [-List.getD_eq_getElem?_getD, wu8, wu16, wu32, wu64, wi32, wi64, Int.tdiv_eq_ediv_of_nonneg, Int.tmod_eq_emod_of_nonneg]; omega))
    | skip
  all_goals
    refine EndP.mk [] ?_ <;> (repeat' (first | trivial | rfl | exact scopedL_bl _ _ | refine And.intro ?_ ?_ | refine congrArg V.str ?_ | refine congrArg (V.int _) ?_ | refine congrArg V.bool ?_ | refine congrArg (O.buf _ _) ?_ | refine congrArg O.cells ?_ | refine congrArg (V.list _ _) ?_ | refine congrArg V.agg ?_ | refine congrArg V.tuple ?_ | refine cons_eq ?_ ?_))
    first
    | exact (hn (by assumption)).symm
    | (cases h : digB c.byteV with
       | true => have := digB_t.1 h; first | rfl | (simp; omega)
       | false => have := digB_f.1 h; first | rfl | (simp; omega))
def sm_jnDigit : Sm := fun args σ => match args, σ with
  | [.ptr 0 0], [.cells [.ptr 1 0, .buf 2], .cells ([.str s_c, .int .i64 (.ofNat a_c), .int .i64 (.ofNat e_c), .int .i64 c_c]), .buf 1 0 o] => some (True ∧ ((Cu.mk s_c a_c e_c c_c).ok), .bool (digB (Cu.mk s_c a_c e_c c_c).byteV), none)
  | _, _ => none
theorem k_jnDigit : SOK 114 sm_jnDigit := by
  intro args sg pre x r he hp
  unfold sm_jnDigit at he
  split at he <;> cases he
  · rw [viewC (hp).1]; exact f_jnDigit_1 (hp := hp.2) ..
theorem f_jnEat_1 (c : Cu) (o : List V) (s : List UInt8) (hp : c.ok ∧ o.length ≤ 2000000000 ∧ s.length ≤ 100) : OK 97 ([.ptr 0 0, .str s]) ([.cells [.ptr 1 0, .buf 2], .cells (eC c), .buf 1 0 o]) (.bool (c.eatB s)) (some [.cells [.ptr 1 0, .buf 2], .cells (eC (c.eatC s)), .buf 1 0 (o ++ bl (c.eatO s))]) := by
  refine funOK_of_vc (C := cx [(43, sm_cPeek), (113, sm_jnTake)]) (good ⟨k_cPeek, k_jnTake, trivial⟩) (fn := Try.f97) rfl rfl rfl rfl fun hw hs => ?_
  obtain ⟨hp, ho, hs⟩ := hp
  have hb : c.byteV.toNat < 256 := c.byteV.toNat_lt
  have hbb : byte c.byteV.toNat = c.byteV := byte_of _
  repeat' (
      conv => whnf
      first
      | refine req_i ?_ ?_
      | refine when_i ?_ ?_
      | refine brn_not ?_
      | refine brn_dec (fun h => ?_) (fun h => ?_)
      | refine brn_int (fun h => ?_) (fun h => ?_)
      | refine brn_intne (fun h => ?_) (fun h => ?_)
      | refine brn_str (fun h => ?_) (fun h => ?_)
      | refine brn_i (fun h => ?_) (fun h => ?_)
      | with_reducible refine IdxK.mk _ rfl ?_
      | with_reducible refine idx_blI ?_ (fun hc => ?_)
      | with_reducible refine idx_bl ?_ (fun hc => ?_)
      | with_reducible refine idx_strI ?_ (fun hc => ?_)
      | with_reducible refine idx_str ?_ (fun hc => ?_)
      | with_reducible refine idx_mapDI ?_ ?_
      | with_reducible refine idx_mapD ?_ ?_
      | with_reducible refine idx_at ?_ (fun b hb => ?_)
      | refine ex_bl ?_
      | refine ex_b1 ?_ ?_
      | refine ex_b2 ?_ ?_ ?_
      | refine ex_b3 ?_ ?_ ?_ ?_
      | refine ex_b4 ?_ ?_ ?_ ?_ ?_
      | refine optK_setL ?_ ?_
      | refine optK_takeL ?_ ?_
      | with_reducible refine forceDs_i ?_
      )
  all_goals try (conv => whnf)
  all_goals try (refine Side.mk ?_; try dsimp only)
  all_goals (try simp only [Cu_eta] at *)
  all_goals first
    | (show LoopP _ _ _ _; skip)
    | (show GotoP _ _ _ _ _; skip)
    | (show EndP _ _ _ _ _ _; skip)
    | (show ∃ _, _; skip)
    | (first
          | trivial
          | omega
          | (simp (discharger := omega) only [wu8, wu16, wu32, wu64, wi32, wi64, Int.tdiv_eq_ediv_of_nonneg, Int.tmod_eq_emod_of_nonneg]; omega)
          | (simp only [List.length_append, List.length_cons, List.length_nil, bl_length, List.length_take, List.length_drop]; omega)
          | (simp (discharger := omega) [-List.getD_eq_getElem?_getD, wu8, wu16, wu32, wu64, wi32, wi64, Int.tdiv_eq_ediv_of_nonneg, Int.tmod_eq_emod_of_nonneg]; done)
          | (simp (discharger := omega) [-List.getD_eq_getElem?_getD, wu8, wu16, wu32, wu64, wi32, wi64, Int.tdiv_eq_ediv_of_nonneg, Int.tmod_eq_emod_of_nonneg]; omega))
    | skip
  refine LoopP.mk Nat (fun i => i ≤ s.length ∧ ∀ j, j < i → ¬ (c.has ∧ s.getD j 0 = c.byteV)) (fun i => ⟨32, [(0, .ptr 0 0), (1, .str s), (5, bv c.byteV), (6, .bool (decide (c.c = 0 ∧ c.p < c.e))), (17, .int .i64 s.length), (18, .int .i64 i)], [.cells [.ptr 1 0, .buf 2], .cells (eC c), .buf 1 0 o], []⟩) (fun i => s.length - i) [] 0 ⟨by omega, fun j hj => absurd hj (by omega)⟩ ?_ (fun i ⟨hi, hj⟩ _ _ => ?_)
  · refine Go.VG.Sub.mk rfl ?_ ?_ ?_ ?_ <;> (repeat' (first | trivial | rfl | exact scopedL_bl _ _ | refine And.intro ?_ ?_ | refine congrArg V.str ?_ | refine congrArg (V.int _) ?_ | refine congrArg V.bool ?_ | refine congrArg (O.buf _ _) ?_ | refine congrArg O.cells ?_ | refine congrArg (V.list _ _) ?_ | refine congrArg V.agg ?_ | refine congrArg V.tuple ?_ | refine cons_eq ?_ ?_))
  have hx : (s.getD i 0).toNat < 256 := UInt8.toNat_lt _
  have yes : c.has → c.byteV = s.getD i 0 → i < s.length → c.eatB s = true := fun h e hl => eatB_t.2 ⟨h, by rw [e, List.getD_eq_getElem?_getD, List.getElem?_eq_getElem hl]; exact List.getElem_mem hl⟩
  have no : i = s.length → c.eatB s = false := fun e => by
    cases q : c.eatB s with
    | false => rfl
    | true =>
      obtain ⟨q1, q2⟩ := eatB_t.1 q
      obtain ⟨j, hjl, hje⟩ := List.getElem_of_mem q2
      exact absurd ⟨q1, by rw [List.getD_eq_getElem?_getD, List.getElem?_eq_getElem hjl]; exact hje⟩ (hj j (by omega))
  have next : ¬ (c.has ∧ s.getD i 0 = c.byteV) → ∀ j, j < i + 1 → ¬ (c.has ∧ s.getD j 0 = c.byteV) := fun h j hjj => by
    by_cases e : j = i
    · subst e; exact h
    · exact hj j (by omega)
  repeat' (
      conv => whnf
      first
      | refine req_i ?_ ?_
      | refine when_i ?_ ?_
      | refine brn_not ?_
      | refine brn_dec (fun h => ?_) (fun h => ?_)
      | refine brn_int (fun h => ?_) (fun h => ?_)
      | refine brn_intne (fun h => ?_) (fun h => ?_)
      | refine brn_str (fun h => ?_) (fun h => ?_)
      | refine brn_i (fun h => ?_) (fun h => ?_)
      | with_reducible refine IdxK.mk _ rfl ?_
      | with_reducible refine idx_blI ?_ (fun hc => ?_)
      | with_reducible refine idx_bl ?_ (fun hc => ?_)
      | with_reducible refine idx_strI ?_ (fun hc => ?_)
      | with_reducible refine idx_str ?_ (fun hc => ?_)
      | with_reducible refine idx_mapDI ?_ ?_
      | with_reducible refine idx_mapD ?_ ?_
      | with_reducible refine idx_at ?_ (fun b hb => ?_)
      | refine ex_bl ?_
      | refine ex_b1 ?_ ?_
      | refine ex_b2 ?_ ?_ ?_
      | refine ex_b3 ?_ ?_ ?_ ?_
      | refine ex_b4 ?_ ?_ ?_ ?_ ?_
      | refine optK_setL ?_ ?_
      | refine optK_takeL ?_ ?_
      | with_reducible refine forceDs_i ?_
      )
  all_goals try (conv => whnf)
  all_goals try (refine Side.mk ?_; try dsimp only)
  all_goals (try simp only [Cu_eta] at *)
  all_goals first
    | (show LoopP _ _ _ _; skip)
    | (show GotoP _ _ _ _ _; skip)
    | (show EndP _ _ _ _ _ _; skip)
    | (show ∃ _, _; skip)
    | (first
          | trivial
          | omega
          | (simp (discharger := omega) only [wu8, wu16, wu32, wu64, wi32, wi64, Int.tdiv_eq_ediv_of_nonneg, Int.tmod_eq_emod_of_nonneg]; omega)
          | (simp only [List.length_append, List.length_cons, List.length_nil, bl_length, List.length_take, List.length_drop]; omega)
          | (simp (discharger := omega) [-List.getD_eq_getElem?_getD, wu8, wu16, wu32, wu64, wi32, wi64, Int.tdiv_eq_ediv_of_nonneg, Int.tmod_eq_emod_of_nonneg]; done)
          | (simp (discharger := omega) [-List.getD_eq_getElem?_getD, wu8, wu16, wu32, wu64, wi32, wi64, Int.tdiv_eq_ediv_of_nonneg, Int.tmod_eq_emod_of_nonneg]; omega))
    | skip
  all_goals (try simp only [hbb] at *)
  all_goals first
    | (refine ⟨[], i + 1, ⟨by omega, next fun h => ?_⟩, ?_, by omega⟩
       · first
         | exact absurd h.1 (by assumption)
         | (have := congrArg UInt8.toNat h.2; omega)
       · refine Go.VG.Sub.mk rfl ?_ ?_ ?_ ?_ <;> (repeat' (first | trivial | rfl | exact scopedL_bl _ _ | refine And.intro ?_ ?_ | refine congrArg V.str ?_ | refine congrArg (V.int _) ?_ | refine congrArg V.bool ?_ | refine congrArg (O.buf _ _) ?_ | refine congrArg O.cells ?_ | refine congrArg (V.list _ _) ?_ | refine congrArg V.agg ?_ | refine congrArg V.tuple ?_ | refine cons_eq ?_ ?_))
         all_goals (first | omega | (simp (discharger := omega) only [wu8, wu16, wu32, wu64, wi32, wi64, Int.tdiv_eq_ediv_of_nonneg, Int.tmod_eq_emod_of_nonneg]; omega) | (simp only [List.length_append, List.length_cons, List.length_nil, bl_length, List.length_take, List.length_drop]; omega) | (simp (discharger := omega) [-List.getD_eq_getElem?_getD, wu8, wu16, wu32, wu64, wi32, wi64, Int.tdiv_eq_ediv_of_nonneg, Int.tmod_eq_emod_of_nonneg]; done) | (simp (discharger := omega) [-List.getD_eq_getElem?_getD, wu8, wu16, wu32, wu64, wi32, wi64, Int.tdiv_eq_ediv_of_nonneg, Int.tmod_eq_emod_of_nonneg]; omega)))
    | skip
  · have e := yes (by assumption) (UInt8.toNat_inj.1 (by omega)) (by omega)
    unfold Cu.eatC Cu.eatO
    rw [if_pos e, if_pos e, e]
    refine EndP.mk [] ?_ <;> (repeat' (first | trivial | rfl | exact scopedL_bl _ _ | refine And.intro ?_ ?_ | refine congrArg V.str ?_ | refine congrArg (V.int _) ?_ | refine congrArg V.bool ?_ | refine congrArg (O.buf _ _) ?_ | refine congrArg O.cells ?_ | refine congrArg (V.list _ _) ?_ | refine congrArg V.agg ?_ | refine congrArg V.tuple ?_ | refine cons_eq ?_ ?_))
  · have e := no (by omega)
    unfold Cu.eatC Cu.eatO
    rw [e]
    refine EndP.mk [] ?_ <;> (repeat' (first | trivial | rfl | exact scopedL_bl _ _ | refine And.intro ?_ ?_ | refine congrArg V.str ?_ | refine congrArg (V.int _) ?_ | refine congrArg V.bool ?_ | refine congrArg (O.buf _ _) ?_ | refine congrArg O.cells ?_ | refine congrArg (V.list _ _) ?_ | refine congrArg V.agg ?_ | refine congrArg V.tuple ?_ | refine cons_eq ?_ ?_))
    simp [bl]
def sm_jnEat : Sm := fun args σ => match args, σ with
  | [.ptr 0 0, .str s], [.cells [.ptr 1 0, .buf 2], .cells ([.str s_c, .int .i64 (.ofNat a_c), .int .i64 (.ofNat e_c), .int .i64 c_c]), .buf 1 0 o] => some (True ∧ ((Cu.mk s_c a_c e_c c_c).ok ∧ o.length ≤ 2000000000 ∧ s.length ≤ 100), .bool ((Cu.mk s_c a_c e_c c_c).eatB s), some [.cells [.ptr 1 0, .buf 2], .cells (eC ((Cu.mk s_c a_c e_c c_c).eatC s)), .buf 1 0 (o ++ bl ((Cu.mk s_c a_c e_c c_c).eatO s))])
  | _, _ => none
theorem k_jnEat : SOK 97 sm_jnEat := by
  intro args sg pre x r he hp
  unfold sm_jnEat at he
  split at he <;> cases he
  · rw [viewC (hp).1]; exact f_jnEat_1 (hp := hp.2) ..
theorem f_jnDigits_1 (c : Cu) (o : List V) (hp : c.ok ∧ o.length ≤ 1500000000 ∧ c.s.length ≤ 100000000) : OK 98 ([.ptr 0 0]) ([.cells [.ptr 1 0, .buf 2], .cells (eC c), .buf 1 0 o]) (.tuple []) (some [.cells [.ptr 1 0, .buf 2], .cells (eC c.digs.1), .buf 1 0 (o ++ bl c.digs.2)]) := by
  refine funOK_of_vc (C := cx [(114, sm_jnDigit), (115, sm_cLeft), (49, sm_cFail), (44, sm_cByte), (113, sm_jnTake)]) (good ⟨k_jnDigit, k_cLeft, k_cFail, k_cByte, k_jnTake, trivial⟩) (fn := Try.f98) rfl rfl rfl rfl fun hw hs => ?_
  obtain ⟨hp, ho, hl⟩ := hp
  have h1 := hp.1
  have h2 := hp.2
  have hf := fail_ok hp 3
  repeat' (
      conv => whnf
      first
      | refine req_i ?_ ?_
      | refine when_i ?_ ?_
      | refine brn_not ?_
      | refine brn_dec (fun h => ?_) (fun h => ?_)
      | refine brn_int (fun h => ?_) (fun h => ?_)
      | refine brn_intne (fun h => ?_) (fun h => ?_)
      | refine brn_str (fun h => ?_) (fun h => ?_)
      | refine brn_i (fun h => ?_) (fun h => ?_)
      | with_reducible refine IdxK.mk _ rfl ?_
      | with_reducible refine idx_blI ?_ (fun hc => ?_)
      | with_reducible refine idx_bl ?_ (fun hc => ?_)
      | with_reducible refine idx_strI ?_ (fun hc => ?_)
      | with_reducible refine idx_str ?_ (fun hc => ?_)
      | with_reducible refine idx_mapDI ?_ ?_
      | with_reducible refine idx_mapD ?_ ?_
      | with_reducible refine idx_at ?_ (fun b hb => ?_)
      | refine ex_bl ?_
      | refine ex_b1 ?_ ?_
      | refine ex_b2 ?_ ?_ ?_
      | refine ex_b3 ?_ ?_ ?_ ?_
      | refine ex_b4 ?_ ?_ ?_ ?_ ?_
      | refine optK_setL ?_ ?_
      | refine optK_takeL ?_ ?_
      | with_reducible refine forceDs_i ?_
      )
  all_goals try (conv => whnf)
  all_goals try (refine Side.mk ?_; try dsimp only)
  all_goals (try simp only [Cu_eta] at *)
  all_goals first
    | (show LoopP _ _ _ _; skip)
    | (show GotoP _ _ _ _ _; skip)
    | (show EndP _ _ _ _ _ _; skip)
    | (show ∃ _, _; skip)
    | (first
          | trivial
          | omega
          | (simp (discharger := omega) only [wu8, wu16, wu32, wu64, wi32, wi64, Int.tdiv_eq_ediv_of_nonneg, Int.tmod_eq_emod_of_nonneg]; omega)
          | (simp only [List.length_append, List.length_cons, List.length_nil, bl_length, List.length_take, List.length_drop]; omega)
          | (simp (discharger := omega) [-List.getD_eq_getElem?_getD, wu8, wu16, wu32, wu64, wi32, wi64, Int.tdiv_eq_ediv_of_nonneg, Int.tmod_eq_emod_of_nonneg]; done)
          | (simp (discharger := omega) [-List.getD_eq_getElem?_getD, wu8, wu16, wu32, wu64, wi32, wi64, Int.tdiv_eq_ediv_of_nonneg, Int.tmod_eq_emod_of_nonneg]; omega))
    | skip
  · have hd : digB c.byteV = true := digB_t.2 (by assumption)
    have hh : c.has := by
      rcases Decidable.em c.has with q | q
      · exact q
      · rw [byteV_not q] at hd; exact absurd hd (by decide)
    refine GotoP.mk (Nat × Cu × List UInt8) (fun | (n, d, s) => d.ok ∧ d.s = c.s ∧ d.has ∧ digB d.byteV = true ∧ d.e - d.p ≤ n ∧ s.length ≤ d.p ∧ digsGo n d s = c.digs)
      (fun | (n, d, s) => ⟨25, [(0, .ptr 0 0)], [.cells [.ptr 1 0, .buf 2], .cells (eC d), .buf 1 0 (o ++ bl s)], [2]⟩) (fun x => x.1) [] (c.e - c.p, c, []) ⟨hp, rfl, hh, hd, Nat.le_refl _, by simp, by unfold Cu.digs; rw [if_pos hd]⟩ ?_ (fun ⟨n, d, s⟩ ⟨hd1, hd2, hd3, hd4, hd5, hd6, hd7⟩ _ _ => ?_)
    · refine Go.VG.Sub.mk rfl ?_ ?_ ?_ ?_ <;> (repeat' (first | trivial | rfl | exact scopedL_bl _ _ | refine And.intro ?_ ?_ | refine congrArg V.str ?_ | refine congrArg (V.int _) ?_ | refine congrArg V.bool ?_ | refine congrArg (O.buf _ _) ?_ | refine congrArg O.cells ?_ | refine congrArg (V.list _ _) ?_ | refine congrArg V.agg ?_ | refine congrArg V.tuple ?_ | refine cons_eq ?_ ?_))
      simp [bl]
    have hsl : d.s.length ≤ 100000000 := by rw [hd2]; exact hl
    have e1 := hd1.1
    have e2 := hd1.2
    have e3 : d.c = 0 := hd3.1
    have e4 : d.p < d.e := hd3.2
    have hb1 := pass_ok hd1 1
    have hb : d.byte.ok := hb1.1
    obtain ⟨b1, _⟩ := byte_lt e3 e4
    have hbp : d.byte.p = d.p + 1 := by rw [b1]
    have hbe : d.byte.e = d.e := by rw [b1]
    have hbl := bl_length s
    obtain ⟨n, rfl⟩ : ∃ m, n = m + 1 := ⟨n - 1, by omega⟩
    rw [digsGo] at hd7
    repeat' (
        conv => whnf
        first
        | refine req_i ?_ ?_
        | refine when_i ?_ ?_
        | refine brn_not ?_
        | refine brn_dec (fun h => ?_) (fun h => ?_)
        | refine brn_int (fun h => ?_) (fun h => ?_)
        | refine brn_intne (fun h => ?_) (fun h => ?_)
        | refine brn_str (fun h => ?_) (fun h => ?_)
        | refine brn_i (fun h => ?_) (fun h => ?_)
        | with_reducible refine IdxK.mk _ rfl ?_
        | with_reducible refine idx_blI ?_ (fun hc => ?_)
        | with_reducible refine idx_bl ?_ (fun hc => ?_)
        | with_reducible refine idx_strI ?_ (fun hc => ?_)
        | with_reducible refine idx_str ?_ (fun hc => ?_)
        | with_reducible refine idx_mapDI ?_ ?_
        | with_reducible refine idx_mapD ?_ ?_
        | with_reducible refine idx_at ?_ (fun b hb => ?_)
        | refine ex_bl ?_
        | refine ex_b1 ?_ ?_
        | refine ex_b2 ?_ ?_ ?_
        | refine ex_b3 ?_ ?_ ?_ ?_
        | refine ex_b4 ?_ ?_ ?_ ?_ ?_
        | refine optK_setL ?_ ?_
        | refine optK_takeL ?_ ?_
        | with_reducible refine forceDs_i ?_
        )
    all_goals try (conv => whnf)
    all_goals try (refine Side.mk ?_; try dsimp only)
    all_goals (try simp only [Cu_eta] at *)
    all_goals first
      | (show LoopP _ _ _ _; skip)
      | (show GotoP _ _ _ _ _; skip)
      | (show EndP _ _ _ _ _ _; skip)
      | (show ∃ _, _; skip)
      | (first
            | trivial
            | omega
            | (simp (discharger := omega) only [wu8, wu16, wu32, wu64, wi32, wi64, Int.tdiv_eq_ediv_of_nonneg, Int.tmod_eq_emod_of_nonneg]; omega)
            | (simp only [List.length_append, List.length_cons, List.length_nil, bl_length, List.length_take, List.length_drop]; omega)
            | (simp (discharger := omega) [-List.getD_eq_getElem?_getD, wu8, wu16, wu32, wu64, wi32, wi64, Int.tdiv_eq_ediv_of_nonneg, Int.tmod_eq_emod_of_nonneg]; done)
            | (simp (discharger := omega) [-List.getD_eq_getElem?_getD, wu8, wu16, wu32, wu64, wi32, wi64, Int.tdiv_eq_ediv_of_nonneg, Int.tmod_eq_emod_of_nonneg]; omega))
      | skip
    · exact ⟨trivial, hd1, by rw [List.length_append]; omega⟩
    · have q := digB_t.2 (by assumption)
      rw [if_pos q] at hd7
      have q2 : d.byte.has := by
        rcases Decidable.em d.byte.has with r | r
        · exact r
        · rw [byteV_not r] at q; exact absurd q (by decide)
      refine ⟨[], (n, d.byte, s ++ [d.byteV]), ⟨hb, hb1.2.1.trans hd2, q2, q, by rw [hbe, hbp]; omega, by rw [List.length_append, List.length_singleton, hbp]; omega, hd7⟩, ?_, by show n < n + 1; omega⟩
      refine Go.VG.Sub.mk rfl ?_ ?_ ?_ ?_ <;> (repeat' (first | trivial | rfl | exact scopedL_bl _ _ | refine And.intro ?_ ?_ | refine congrArg V.str ?_ | refine congrArg (V.int _) ?_ | refine congrArg V.bool ?_ | refine congrArg (O.buf _ _) ?_ | refine congrArg O.cells ?_ | refine congrArg (V.list _ _) ?_ | refine congrArg V.agg ?_ | refine congrArg V.tuple ?_ | refine cons_eq ?_ ?_))
      rw [bl_append, List.append_assoc]
    · have q := digB_f.2 (by assumption)
      rw [if_neg (by rw [q]; decide)] at hd7
      rw [← hd7]
      refine EndP.mk [] ?_ <;> (repeat' (first | trivial | rfl | exact scopedL_bl _ _ | refine And.intro ?_ ?_ | refine congrArg V.str ?_ | refine congrArg (V.int _) ?_ | refine congrArg V.bool ?_ | refine congrArg (O.buf _ _) ?_ | refine congrArg O.cells ?_ | refine congrArg (V.list _ _) ?_ | refine congrArg V.agg ?_ | refine congrArg V.tuple ?_ | refine cons_eq ?_ ?_))
      rw [bl_append, List.append_assoc]
  · exact ⟨trivial, hf.1⟩
  · have q1 := digB_f.2 (by assumption)
    unfold Cu.digs
    rw [if_neg (by rw [q1]; decide), if_pos (by assumption)]
    refine EndP.mk [] ?_ <;> (repeat' (first | trivial | rfl | exact scopedL_bl _ _ | refine And.intro ?_ ?_ | refine congrArg V.str ?_ | refine congrArg (V.int _) ?_ | refine congrArg V.bool ?_ | refine congrArg (O.buf _ _) ?_ | refine congrArg O.cells ?_ | refine congrArg (V.list _ _) ?_ | refine congrArg V.agg ?_ | refine congrArg V.tuple ?_ | refine cons_eq ?_ ?_))
    simp [bl]
  · have q1 := digB_f.2 (by assumption)
    unfold Cu.digs
    rw [if_neg (by rw [q1]; decide), if_neg (by assumption)]
    refine EndP.mk [] ?_ <;> (repeat' (first | trivial | rfl | exact scopedL_bl _ _ | refine And.intro ?_ ?_ | refine congrArg V.str ?_ | refine congrArg (V.int _) ?_ | refine congrArg V.bool ?_ | refine congrArg (O.buf _ _) ?_ | refine congrArg O.cells ?_ | refine congrArg (V.list _ _) ?_ | refine congrArg V.agg ?_ | refine congrArg V.tuple ?_ | refine cons_eq ?_ ?_))
    simp [bl]
def sm_jnDigits : Sm := fun args σ => match args, σ with
  | [.ptr 0 0], [.cells [.ptr 1 0, .buf 2], .cells ([.str s_c, .int .i64 (.ofNat a_c), .int .i64 (.ofNat e_c), .int .i64 c_c]), .buf 1 0 o] => some (True ∧ ((Cu.mk s_c a_c e_c c_c).ok ∧ o.length ≤ 1500000000 ∧ (Cu.mk s_c a_c e_c c_c).s.length ≤ 100000000), .tuple [], some [.cells [.ptr 1 0, .buf 2], .cells (eC (Cu.mk s_c a_c e_c c_c).digs.1), .buf 1 0 (o ++ bl (Cu.mk s_c a_c e_c c_c).digs.2)])
  | _, _ => none
theorem k_jnDigits : SOK 98 sm_jnDigits := by
  intro args sg pre x r he hp
  unfold sm_jnDigits at he
  split at he <;> cases he
  · rw [viewC (hp).1]; exact f_jnDigits_1 (hp := hp.2) ..
def Gd (c d : Cu) : Prop := d.ok ∧ d.s = c.s
theorem Gd.self {c : Cu} (h : c.ok) : Gd c c := ⟨h, rfl⟩
theorem Gd.eat {c d : Cu} {s : List UInt8} (h : Gd c d) : Gd c (d.eatC s) := ⟨(eatC_ok h.1 s).1, (eatC_ok h.1 s).2.1.trans h.2⟩
theorem Gd.digs {c d : Cu} (h : Gd c d) : Gd c d.digs.1 := ⟨(digs_ok h.1).1, (digs_ok h.1).2.1.trans h.2⟩
def Lb (c : Cu) (o : List V) (n : Nat) (l : List V) : Prop := l.length ≤ o.length + n * 100000001
theorem Lb.base {c : Cu} {o : List V} {n : Nat} : Lb c o n o := by unfold Lb; omega
theorem Lb.eat {c d : Cu} {o l : List V} {n : Nat} {s : List UInt8} (h : Lb c o n l) : Lb c o (n + 1) (l ++ bl (d.eatO s)) := by
  have := eatO_len d s
  unfold Lb at h ⊢
  rw [List.length_append, bl_length]; omega
theorem Lb.digs {c d : Cu} {o l : List V} {n : Nat} (hl : c.s.length ≤ 100000000) (hd : Gd c d) (h : Lb c o n l) : Lb c o (n + 1) (l ++ bl d.digs.2) := by
  have h1 := (digs_ok hd.1).2.2.2
  have h2 := hd.1.2
  rw [hd.2] at h2
  unfold Lb at h ⊢
  rw [List.length_append, bl_length]; omega
theorem Lb.fin {c : Cu} {o l : List V} (h : Lb c o 9 l) (ho : o.length ≤ 500000000) : l.length ≤ 1500000000 := by unfold Lb at h; omega
theorem le_2g {n : Nat} (h : n ≤ 1500000000) : n ≤ 2000000000 := by omega
theorem Gd.good {c d : Cu} (h : Gd c d) : d.ok := h.1
theorem f_jnPast_1 (c : Cu) (o : List V) (hp : c.ok ∧ o.length ≤ 500000000 ∧ c.s.length ≤ 100000000) : OK 79 ([.ptr 0 0]) ([.cells [.ptr 1 0, .buf 2], .cells (eC c), .buf 1 0 o]) (.tuple []) (some [.cells [.ptr 1 0, .buf 2], .cells (eC c.past.1), .buf 1 0 (o ++ bl c.past.2)]) := by
  refine funOK_of_vc (C := cx [(97, sm_jnEat), (98, sm_jnDigits)]) (good ⟨k_jnEat, k_jnDigits, trivial⟩) (fn := Try.f79) rfl rfl rfl rfl fun hw hs => ?_
  obtain ⟨hp, ho, hl⟩ := hp
  have gs : ∀ {d : Cu}, Gd c d → d.s.length ≤ 100000000 := fun h => by rw [h.2]; exact hl
  repeat' (
      conv => whnf
      first
      | refine req_i ?_ ?_
      | refine when_i ?_ ?_
      | refine brn_not ?_
      | refine brn_dec (fun h => ?_) (fun h => ?_)
      | refine brn_int (fun h => ?_) (fun h => ?_)
      | refine brn_intne (fun h => ?_) (fun h => ?_)
      | refine brn_str (fun h => ?_) (fun h => ?_)
      | refine brn_i (fun h => ?_) (fun h => ?_)
      | with_reducible refine IdxK.mk _ rfl ?_
      | with_reducible refine idx_blI ?_ (fun hc => ?_)
      | with_reducible refine idx_bl ?_ (fun hc => ?_)
      | with_reducible refine idx_strI ?_ (fun hc => ?_)
      | with_reducible refine idx_str ?_ (fun hc => ?_)
      | with_reducible refine idx_mapDI ?_ ?_
      | with_reducible refine idx_mapD ?_ ?_
      | with_reducible refine idx_at ?_ (fun b hb => ?_)
      | refine ex_bl ?_
      | refine ex_b1 ?_ ?_
      | refine ex_b2 ?_ ?_ ?_
      | refine ex_b3 ?_ ?_ ?_ ?_
      | refine ex_b4 ?_ ?_ ?_ ?_ ?_
      | refine optK_setL ?_ ?_
      | refine optK_takeL ?_ ?_
      | with_reducible refine forceDs_i ?_
      )
  all_goals try (conv => whnf)
  all_goals try (refine Side.mk ?_; try dsimp only)
  all_goals (try simp only [Cu_eta] at *)
  all_goals first
    | (show LoopP _ _ _ _; skip)
    | (show GotoP _ _ _ _ _; skip)
    | (show EndP _ _ _ _ _ _; skip)
    | (show ∃ _, _; skip)
    | (first
          | trivial
          | omega
          | (simp (discharger := omega) only [wu8, wu16, wu32, wu64, wi32, wi64, Int.tdiv_eq_ediv_of_nonneg, Int.tmod_eq_emod_of_nonneg]; omega)
          | (simp only [List.length_append, List.length_cons, List.length_nil, bl_length, List.length_take, List.length_drop]; omega)
          | (simp (discharger := omega) [-List.getD_eq_getElem?_getD, wu8, wu16, wu32, wu64, wi32, wi64, Int.tdiv_eq_ediv_of_nonneg, Int.tmod_eq_emod_of_nonneg]; done)
          | (simp (discharger := omega) [-List.getD_eq_getElem?_getD, wu8, wu16, wu32, wu64, wi32, wi64, Int.tdiv_eq_ediv_of_nonneg, Int.tmod_eq_emod_of_nonneg]; omega))
    | skip
  all_goals first
    | (refine (show True ∧ _ ∧ _ ∧ _ from ⟨trivial, ?_, ?_, ?_⟩) <;> first
        | decide
        | (refine Gd.good (c := c) ?_
           repeat' (first | exact Gd.self hp | refine Gd.eat ?_ | refine Gd.digs ?_)
           done)
        | (refine gs ?_
           repeat' (first | exact Gd.self hp | refine Gd.eat ?_ | refine Gd.digs ?_)
           done)
        | (first | refine le_2g (Lb.fin (c := c) (o := o) ?_ ho) | refine Lb.fin (c := c) (o := o) ?_ ho
           repeat' (first | exact Lb.base | refine Lb.eat ?_ | refine Lb.digs hl ?_ ?_ | exact Gd.self hp | refine Gd.eat ?_ | refine Gd.digs ?_ | decide)
           done))
    | (refine (show True ∧ _ ∧ _ from ⟨trivial, ?_, ?_⟩) <;> first
        | (refine Gd.good (c := c) ?_
           repeat' (first | exact Gd.self hp | refine Gd.eat ?_ | refine Gd.digs ?_)
           done)
        | (first | refine le_2g (Lb.fin (c := c) (o := o) ?_ ho) | refine Lb.fin (c := c) (o := o) ?_ ho
           repeat' (first | exact Lb.base | refine Lb.eat ?_ | refine Lb.digs hl ?_ ?_ | exact Gd.self hp | refine Gd.eat ?_ | refine Gd.digs ?_ | decide)
           done))
    | skip
  all_goals
    unfold Cu.past CO.whole
    first | rw [if_pos (eatB_t.2 (by assumption))] | rw [if_neg (fun h => absurd (eatB_t.1 h) (by assumption))]
    unfold CO.behind
    first | rw [if_pos (eatB_t.2 (by assumption))] | rw [if_neg (fun h => absurd (eatB_t.1 h) (by assumption))]
    unfold CO.power
    first | rw [if_pos (eatB_t.2 (by assumption))] | rw [if_neg (fun h => absurd (eatB_t.1 h) (by assumption))]
    refine EndP.mk [] ?_ <;> (repeat' (first | trivial | rfl | exact scopedL_bl _ _ | refine And.intro ?_ ?_ | refine congrArg V.str ?_ | refine congrArg (V.int _) ?_ | refine congrArg V.bool ?_ | refine congrArg (O.buf _ _) ?_ | refine congrArg O.cells ?_ | refine congrArg (V.list _ _) ?_ | refine congrArg V.agg ?_ | refine congrArg V.tuple ?_ | refine cons_eq ?_ ?_))
    all_goals (simp only [CO.eat, CO.digs, bl_append, List.append_assoc, List.nil_append]; done)
def sm_jnPast : Sm := fun args σ => match args, σ with
  | [.ptr 0 0], [.cells [.ptr 1 0, .buf 2], .cells ([.str s_c, .int .i64 (.ofNat a_c), .int .i64 (.ofNat e_c), .int .i64 c_c]), .buf 1 0 o] => some (True ∧ ((Cu.mk s_c a_c e_c c_c).ok ∧ o.length ≤ 500000000 ∧ (Cu.mk s_c a_c e_c c_c).s.length ≤ 100000000), .tuple [], some [.cells [.ptr 1 0, .buf 2], .cells (eC (Cu.mk s_c a_c e_c c_c).past.1), .buf 1 0 (o ++ bl (Cu.mk s_c a_c e_c c_c).past.2)])
  | _, _ => none
theorem k_jnPast : SOK 79 sm_jnPast := by
  intro args sg pre x r he hp
  unfold sm_jnPast at he
  split at he <;> cases he
  · rw [viewC (hp).1]; exact f_jnPast_1 (hp := hp.2) ..
end Go.Proofs.Ytllncocibkgjkaa
