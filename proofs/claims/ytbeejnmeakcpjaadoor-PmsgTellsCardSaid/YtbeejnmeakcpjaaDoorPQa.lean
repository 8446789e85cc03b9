/-
  Messages of Protobuf: which tags a list has.
-/
import Derived.Test.YtbeejnmeakcpjaaDoorPRp
set_option linter.unusedSimpArgs false
set_option linter.unusedVariables false
set_option maxHeartbeats 4000000
namespace Go.Proofs.YtbeejnmeakcpjaaDoor
open Go Go.VG
set_option maxRecDepth 100000
abbrev Tg : Type := Int × Int
abbrev eTg (p : Tg) : V := .agg [.int .i64 p.1, .int .i64 p.2]
def deTg : V → Tg
  | .agg [.int _ a, .int _ b] => (a, b)
  | _ => (0, 0)
def dePf : V → Pf
  | .agg [.int _ n, .int _ w, .int _ u, .str t] => ⟨n, w, u, t⟩
  | _ => default
theorem deTg_map (l : List Tg) : (l.map eTg).map deTg = l := by
  rw [List.map_map]
  have : deTg ∘ eTg = id := funext fun ⟨a, b⟩ => rfl
  rw [this, List.map_id]
theorem dePf_map (l : List Pf) : (l.map ePf).map dePf = l := by
  rw [List.map_map]
  have : dePf ∘ ePf = id := funext fun ⟨a, b, c, d⟩ => rfl
  rw [this, List.map_id]
def ixT (tl : List Tg) (p : Tg) : Int := if p ∈ tl then (tl.idxOf p : Int) else -1
theorem ixT_at {tl : List Tg} {p : Tg} {i : Nat} (h : ∀ j, j < i → tl.getD j (0, 0) ≠ p) (hi : i < tl.length) (hp : tl.getD i (0, 0) = p) : ixT tl p = i := by
  have hg : tl[i]? = some p := by rw [List.getElem?_eq_getElem hi]; rw [List.getD_eq_getElem?_getD, List.getElem?_eq_getElem hi] at hp; exact congrArg some hp
  have hm : p ∈ tl := List.mem_of_getElem? hg
  have hlt := List.idxOf_lt_length_of_mem hm
  have hge := List.getElem_idxOf hlt
  unfold ixT
  rw [if_pos hm]
  have h1 : ¬ tl.idxOf p < i := fun q => by
    refine h _ q ?_
    rw [List.getD_eq_getElem?_getD, List.getElem?_eq_getElem hlt]
    exact hge
  have h2 : ¬ i < tl.idxOf p := fun q => by
    have := List.not_of_lt_findIdx (p := (· == p)) (xs := tl) (i := i) q
    obtain ⟨_, e⟩ := List.getElem?_eq_some_iff.1 hg
    exact absurd e (by simpa using this)
  omega
theorem ixT_no {tl : List Tg} {p : Tg} (h : ∀ j, j < tl.length → tl.getD j (0, 0) ≠ p) : ixT tl p = -1 := by
  unfold ixT
  rw [if_neg]
  intro hm
  obtain ⟨j, hj⟩ := List.getElem?_of_mem hm
  obtain ⟨hl, he⟩ := List.getElem?_eq_some_iff.1 hj
  refine h j hl ?_
  rw [List.getD_eq_getElem?_getD, hj]; rfl
theorem ixT_0 {tl : List Tg} {p : Tg} : 0 ≤ ixT tl p ↔ p ∈ tl := by
  unfold ixT
  split
  · rename_i h; exact ⟨fun _ => h, fun _ => by omega⟩
  · rename_i h; exact ⟨fun q => by omega, fun q => absurd q h⟩
theorem tg_eq {x : Tg} {a b : Int} : (a == x.1 && b == x.2) = true ↔ x = (a, b) := by
  obtain ⟨p, q⟩ := x
  simp only [Bool.and_eq_true, beq_iff_eq, Prod.mk.injEq]
  exact ⟨fun h => ⟨h.1.symm, h.2.symm⟩, fun h => ⟨h.1.symm, h.2.symm⟩⟩
theorem tg_ne {x : Tg} {a b : Int} (h : (a == x.1 && b == x.2) = false) (q : x = (a, b)) : False := by
  rw [tg_eq.2 q] at h; cases h
theorem f_slIndex_1 (l : List V) (a b : Int) (hp : (∃ tl : List Tg, l = tl.map eTg) ∧ l.length ≤ 1000000000) : OK 94 ([.buf 0, .agg [.int .i64 a, .int .i64 b]]) ([.buf 2 0 l]) (.int .i64 (ixT (l.map deTg) (a, b))) (none) := by
  refine funOK_of_vc (C := cx []) (good trivial) (fn := Tryd.f94) rfl rfl rfl rfl fun hw hs => ?_
  obtain ⟨⟨tl, rfl⟩, hl⟩ := hp
  rw [deTg_map]
  have hml : (tl.map eTg).length = tl.length := List.length_map ..
  repeat' (
      conv => whnf
      first
      | with_reducible refine optB_i (fun j q h => ?_) (fun h => ?_)
      | with_reducible refine nextM_i ⟨rfl, rfl⟩ (fun h => ?_) (fun j h => ?_)
      | with_reducible refine nextM_i ?_ (fun h => ?_) (fun j h => ?_)
      | refine req_i ?_ ?_
      | refine when_i ?_ ?_
      | refine brn_not ?_
      | refine brn_dec (fun h => ?_) (fun h => ?_)
      | refine brn_int (fun h => ?_) (fun h => ?_)
      | refine brn_intne (fun h => ?_) (fun h => ?_)
      | refine brn_str (fun h => ?_) (fun h => ?_)
      | refine brn_i (fun h => ?_) (fun h => ?_)
      | with_reducible refine IdxK.mk _ rfl ?_
      | with_reducible refine idx_blI ?_ (fun hc => ?_)
      | with_reducible refine idx_bl ?_ (fun hc => ?_)
      | with_reducible refine idx_strI ?_ (fun hc => ?_)
      | with_reducible refine idx_str ?_ (fun hc => ?_)
      | with_reducible refine idx_mapDI ?_ ?_
      | with_reducible refine idx_mapD ?_ ?_
      | with_reducible refine idx_at ?_ (fun b hb => ?_)
      | refine ex_bl ?_
      | refine ex_b1 ?_ ?_
      | refine ex_b2 ?_ ?_ ?_
      | refine ex_b3 ?_ ?_ ?_ ?_
      | refine ex_b4 ?_ ?_ ?_ ?_ ?_
      | refine optK_setL ?_ ?_
      | refine optK_takeL ?_ ?_
      | with_reducible refine forceDs_i ?_
      )
  all_goals try (conv => whnf)
  all_goals try (refine Side.mk ?_; try dsimp only)
  refine LoopP.mk Nat (fun i => i ≤ tl.length ∧ ∀ j, j < i → tl.getD j (0, 0) ≠ (a, b)) (fun i => ⟨19, [(0, .buf 0), (3, .ptr 1 0), (6, .buf 0), (7, .int .i64 tl.length), (8, .int .i64 i)], [.buf 2 0 (tl.map eTg), .cells [.int .i64 a, .int .i64 b]], []⟩) (fun i => tl.length - i) [] 0 ⟨Nat.zero_le _, fun _ h => by omega⟩ ?_ (fun i ⟨hi, hj⟩ _ _ => ?_)
  · refine Go.VG.Sub.mk rfl ?_ ?_ ?_ ?_ <;> (repeat' (first | trivial | rfl | exact scopedL_bl _ _ | refine And.intro ?_ ?_ | refine congrArg V.str ?_ | refine congrArg (V.int _) ?_ | refine congrArg V.bool ?_ | refine congrArg (O.buf _ _) ?_ | refine congrArg O.cells ?_ | refine congrArg (V.list _ _) ?_ | refine congrArg V.agg ?_ | refine congrArg V.tuple ?_ | refine cons_eq ?_ ?_))
    rw [hml]
  repeat' (
      conv => whnf
      first
      | with_reducible refine optB_i (fun j q h => ?_) (fun h => ?_)
      | with_reducible refine nextM_i ⟨rfl, rfl⟩ (fun h => ?_) (fun j h => ?_)
      | with_reducible refine nextM_i ?_ (fun h => ?_) (fun j h => ?_)
      | refine req_i ?_ ?_
      | refine when_i ?_ ?_
      | refine brn_not ?_
      | refine brn_dec (fun h => ?_) (fun h => ?_)
      | refine brn_int (fun h => ?_) (fun h => ?_)
      | refine brn_intne (fun h => ?_) (fun h => ?_)
      | refine brn_str (fun h => ?_) (fun h => ?_)
      | refine brn_i (fun h => ?_) (fun h => ?_)
      | with_reducible refine IdxK.mk _ rfl ?_
      | with_reducible refine idx_blI ?_ (fun hc => ?_)
      | with_reducible refine idx_bl ?_ (fun hc => ?_)
      | with_reducible refine idx_strI ?_ (fun hc => ?_)
      | with_reducible refine idx_str ?_ (fun hc => ?_)
      | with_reducible refine idx_mapDI ?_ ?_
      | with_reducible refine idx_mapD ?_ ?_
      | with_reducible refine idx_at ?_ (fun b hb => ?_)
      | refine ex_bl ?_
      | refine ex_b1 ?_ ?_
      | refine ex_b2 ?_ ?_ ?_
      | refine ex_b3 ?_ ?_ ?_ ?_
      | refine ex_b4 ?_ ?_ ?_ ?_ ?_
      | refine optK_setL ?_ ?_
      | refine optK_takeL ?_ ?_
      | with_reducible refine forceDs_i ?_
      )
  all_goals try (conv => whnf)
  all_goals try (refine Side.mk ?_; try dsimp only)
  all_goals (try simp only [Cu_eta] at *)
  all_goals first
    | (show LoopP _ _ _ _; skip)
    | (show GotoP _ _ _ _ _; skip)
    | (show EndP _ _ _ _ _ _; skip)
    | (show ∃ _, _; skip)
    | (first
          | trivial
          | omega
          | (simp (discharger := omega) only [wu8, wu16, wu32, wu64, wi32, wi64, Int.tdiv_eq_ediv_of_nonneg, Int.tmod_eq_emod_of_nonneg]; omega)
          | (simp only [List.length_append, List.length_cons, List.length_nil, bl_length, List.length_take, List.length_drop]; omega)
          | (simp (discharger := omega) [-List.getD_eq_getElem?_getD, wu8, wu16, wu32, wu64, wi32, wi64, Int.tdiv_eq_ediv_of_nonneg, Int.tmod_eq_emod_of_nonneg]; done)
          | (simp (discharger := omega) [-List.getD_eq_getElem?_getD, wu8, wu16, wu32, wu64, wi32, wi64, Int.tdiv_eq_ediv_of_nonneg, Int.tmod_eq_emod_of_nonneg]; omega))
    | skip
  · have he := tg_eq.1 (‹(a == _ && b == _) = true›)
    rw [ixT_at hj (by omega) he]
    refine EndP.mk [] ?_ <;> (repeat' (first | trivial | rfl | exact scopedL_bl _ _ | refine And.intro ?_ ?_ | refine congrArg V.str ?_ | refine congrArg (V.int _) ?_ | refine congrArg V.bool ?_ | refine congrArg (O.buf _ _) ?_ | refine congrArg O.cells ?_ | refine congrArg (V.list _ _) ?_ | refine congrArg V.agg ?_ | refine congrArg V.tuple ?_ | refine cons_eq ?_ ?_))
  · have he := fun q => tg_ne (‹(a == _ && b == _) = false›) (q : tl.getD i (0, 0) = (a, b))
    refine ⟨[], i + 1, ⟨by omega, fun j hj2 => ?_⟩, ?_, by omega⟩
    · by_cases q : j = i
      · subst q; exact he
      · exact hj j (by omega)
    · refine Go.VG.Sub.mk rfl ?_ ?_ ?_ ?_ <;> (repeat' (first | trivial | rfl | exact scopedL_bl _ _ | refine And.intro ?_ ?_ | refine congrArg V.str ?_ | refine congrArg (V.int _) ?_ | refine congrArg V.bool ?_ | refine congrArg (O.buf _ _) ?_ | refine congrArg O.cells ?_ | refine congrArg (V.list _ _) ?_ | refine congrArg V.agg ?_ | refine congrArg V.tuple ?_ | refine cons_eq ?_ ?_))
      (first | omega | (simp (discharger := omega) only [wu8, wu16, wu32, wu64, wi32, wi64, Int.tdiv_eq_ediv_of_nonneg, Int.tmod_eq_emod_of_nonneg]; omega) | (simp only [List.length_append, List.length_cons, List.length_nil, bl_length, List.length_take, List.length_drop]; omega) | (simp (discharger := omega) [-List.getD_eq_getElem?_getD, wu8, wu16, wu32, wu64, wi32, wi64, Int.tdiv_eq_ediv_of_nonneg, Int.tmod_eq_emod_of_nonneg]; done) | (simp (discharger := omega) [-List.getD_eq_getElem?_getD, wu8, wu16, wu32, wu64, wi32, wi64, Int.tdiv_eq_ediv_of_nonneg, Int.tmod_eq_emod_of_nonneg]; omega))
  · rw [ixT_no (fun j hj2 => hj j (by omega))]
    refine EndP.mk [] ?_ <;> (repeat' (first | trivial | rfl | exact scopedL_bl _ _ | refine And.intro ?_ ?_ | refine congrArg V.str ?_ | refine congrArg (V.int _) ?_ | refine congrArg V.bool ?_ | refine congrArg (O.buf _ _) ?_ | refine congrArg O.cells ?_ | refine congrArg (V.list _ _) ?_ | refine congrArg V.agg ?_ | refine congrArg V.tuple ?_ | refine cons_eq ?_ ?_))
def sm_slIndex : Sm := fun args σ => match args, σ with
  | [.buf 0, .agg [.int .i64 a, .int .i64 b]], [.buf 2 0 l] => some ((∃ tl : List Tg, l = tl.map eTg) ∧ l.length ≤ 1000000000, .int .i64 (ixT (l.map deTg) (a, b)), none)
  | _, _ => none
theorem k_slIndex : SOK 94 sm_slIndex := by
  intro args sg pre x r he hp
  unfold sm_slIndex at he
  split at he <;> cases he
  · exact f_slIndex_1 (hp := hp) ..
theorem f_slContains_1 (l : List V) (a b : Int) (hp : (∃ tl : List Tg, l = tl.map eTg) ∧ l.length ≤ 1000000000) : OK 69 ([.buf 0, .agg [.int .i64 a, .int .i64 b]]) ([.buf 2 0 l]) (.bool (decide ((a, b) ∈ l.map deTg))) (none) := by
  refine funOK_of_vc (C := cx [(94, sm_slIndex)]) (good ⟨k_slIndex, trivial⟩) (fn := Tryd.f69) rfl rfl rfl rfl fun hw hs => ?_
  have hx := @ixT_0 (l.map deTg) (a, b)
  repeat' (
      conv => whnf
      first
      | with_reducible refine optB_i (fun j q h => ?_) (fun h => ?_)
      | with_reducible refine nextM_i ⟨rfl, rfl⟩ (fun h => ?_) (fun j h => ?_)
      | with_reducible refine nextM_i ?_ (fun h => ?_) (fun j h => ?_)
      | refine req_i ?_ ?_
      | refine when_i ?_ ?_
      | refine brn_not ?_
      | refine brn_dec (fun h => ?_) (fun h => ?_)
      | refine brn_int (fun h => ?_) (fun h => ?_)
      | refine brn_intne (fun h => ?_) (fun h => ?_)
      | refine brn_str (fun h => ?_) (fun h => ?_)
      | refine brn_i (fun h => ?_) (fun h => ?_)
      | with_reducible refine IdxK.mk _ rfl ?_
      | with_reducible refine idx_blI ?_ (fun hc => ?_)
      | with_reducible refine idx_bl ?_ (fun hc => ?_)
      | with_reducible refine idx_strI ?_ (fun hc => ?_)
      | with_reducible refine idx_str ?_ (fun hc => ?_)
      | with_reducible refine idx_mapDI ?_ ?_
      | with_reducible refine idx_mapD ?_ ?_
      | with_reducible refine idx_at ?_ (fun b hb => ?_)
      | refine ex_bl ?_
      | refine ex_b1 ?_ ?_
      | refine ex_b2 ?_ ?_ ?_
      | refine ex_b3 ?_ ?_ ?_ ?_
      | refine ex_b4 ?_ ?_ ?_ ?_ ?_
      | refine optK_setL ?_ ?_
      | refine optK_takeL ?_ ?_
      | with_reducible refine forceDs_i ?_
      )
  all_goals try (conv => whnf)
  all_goals try (refine Side.mk ?_; try dsimp only)
  all_goals (try simp only [Cu_eta] at *)
  all_goals first
    | (show LoopP _ _ _ _; skip)
    | (show GotoP _ _ _ _ _; skip)
    | (show EndP _ _ _ _ _ _; skip)
    | (show ∃ _, _; skip)
    | (first
          | trivial
          | omega
          | (simp (discharger := omega) only [wu8, wu16, wu32, wu64, wi32, wi64, Int.tdiv_eq_ediv_of_nonneg, Int.tmod_eq_emod_of_nonneg]; omega)
          | (simp only [List.length_append, List.length_cons, List.length_nil, bl_length, List.length_take, List.length_drop]; omega)
          | (simp (discharger := omega) [-List.getD_eq_getElem?_getD, wu8, wu16, wu32, wu64, wi32, wi64, Int.tdiv_eq_ediv_of_nonneg, Int.tmod_eq_emod_of_nonneg]; done)
          | (simp (discharger := omega) [-List.getD_eq_getElem?_getD, wu8, wu16, wu32, wu64, wi32, wi64, Int.tdiv_eq_ediv_of_nonneg, Int.tmod_eq_emod_of_nonneg]; omega))
    | skip
  refine EndP.mk [] ?_ <;> (repeat' (first | trivial | rfl | exact scopedL_bl _ _ | refine And.intro ?_ ?_ | refine congrArg V.str ?_ | refine congrArg (V.int _) ?_ | refine congrArg V.bool ?_ | refine congrArg (O.buf _ _) ?_ | refine congrArg O.cells ?_ | refine congrArg (V.list _ _) ?_ | refine congrArg V.agg ?_ | refine congrArg V.tuple ?_ | refine cons_eq ?_ ?_))
  rw [decide_eq_decide]
  exact hx
def sm_slContains : Sm := fun args σ => match args, σ with
  | [.buf 0, .agg [.int .i64 a, .int .i64 b]], [.buf 2 0 l] => some ((∃ tl : List Tg, l = tl.map eTg) ∧ l.length ≤ 1000000000, .bool (decide ((a, b) ∈ l.map deTg)), none)
  | _, _ => none
theorem k_slContains : SOK 69 sm_slContains := by
  intro args sg pre x r he hp
  unfold sm_slContains at he
  split at he <;> cases he
  · exact f_slContains_1 (hp := hp) ..
theorem f_pmAsks_1 (n w : Int) (f : Pf) (hp : True) : OK 44 ([.agg [.int .i64 n, .int .i64 w], ePf f]) ([]) (.bool (f.no == n && f.wi == w)) (none) := by
  refine funOK_of_vc (C := cx []) (good trivial) (fn := Tryd.f44) rfl rfl rfl rfl fun hw hs => ?_
  repeat' (
      conv => whnf
      first
      | with_reducible refine optB_i (fun j q h => ?_) (fun h => ?_)
      | with_reducible refine nextM_i ⟨rfl, rfl⟩ (fun h => ?_) (fun j h => ?_)
      | with_reducible refine nextM_i ?_ (fun h => ?_) (fun j h => ?_)
      | refine req_i ?_ ?_
      | refine when_i ?_ ?_
      | refine brn_not ?_
      | refine brn_dec (fun h => ?_) (fun h => ?_)
      | refine brn_int (fun h => ?_) (fun h => ?_)
      | refine brn_intne (fun h => ?_) (fun h => ?_)
      | refine brn_str (fun h => ?_) (fun h => ?_)
      | refine brn_i (fun h => ?_) (fun h => ?_)
      | with_reducible refine IdxK.mk _ rfl ?_
      | with_reducible refine idx_blI ?_ (fun hc => ?_)
      | with_reducible refine idx_bl ?_ (fun hc => ?_)
      | with_reducible refine idx_strI ?_ (fun hc => ?_)
      | with_reducible refine idx_str ?_ (fun hc => ?_)
      | with_reducible refine idx_mapDI ?_ ?_
      | with_reducible refine idx_mapD ?_ ?_
      | with_reducible refine idx_at ?_ (fun b hb => ?_)
      | refine ex_bl ?_
      | refine ex_b1 ?_ ?_
      | refine ex_b2 ?_ ?_ ?_
      | refine ex_b3 ?_ ?_ ?_ ?_
      | refine ex_b4 ?_ ?_ ?_ ?_ ?_
      | refine optK_setL ?_ ?_
      | refine optK_takeL ?_ ?_
      | with_reducible refine forceDs_i ?_
      )
  all_goals try (conv => whnf)
  all_goals try (refine Side.mk ?_; try dsimp only)
  all_goals (try simp only [Cu_eta] at *)
  all_goals first
    | (show LoopP _ _ _ _; skip)
    | (show GotoP _ _ _ _ _; skip)
    | (show EndP _ _ _ _ _ _; skip)
    | (show ∃ _, _; skip)
    | (first
          | trivial
          | omega
          | (simp (discharger := omega) only [wu8, wu16, wu32, wu64, wi32, wi64, Int.tdiv_eq_ediv_of_nonneg, Int.tmod_eq_emod_of_nonneg]; omega)
          | (simp only [List.length_append, List.length_cons, List.length_nil, bl_length, List.length_take, List.length_drop]; omega)
          | (simp (discharger := omega) [-List.getD_eq_getElem?_getD, wu8, wu16, wu32, wu64, wi32, wi64, Int.tdiv_eq_ediv_of_nonneg, Int.tmod_eq_emod_of_nonneg]; done)
          | (simp (discharger := omega) [-List.getD_eq_getElem?_getD, wu8, wu16, wu32, wu64, wi32, wi64, Int.tdiv_eq_ediv_of_nonneg, Int.tmod_eq_emod_of_nonneg]; omega))
    | skip
  all_goals
    refine EndP.mk [] ?_ <;> (repeat' (first | trivial | rfl | exact scopedL_bl _ _ | refine And.intro ?_ ?_ | refine congrArg V.str ?_ | refine congrArg (V.int _) ?_ | refine congrArg V.bool ?_ | refine congrArg (O.buf _ _) ?_ | refine congrArg O.cells ?_ | refine congrArg (V.list _ _) ?_ | refine congrArg V.agg ?_ | refine congrArg V.tuple ?_ | refine cons_eq ?_ ?_))
    simp_all
def sm_pmAsks : Sm := fun args σ => match args, σ with
  | [.agg [.int .i64 n, .int .i64 w], .agg [.int .i64 n_f, .int .i64 w_f, .int .u64 u_f, .str t_f]], [] => some (True ∧ (True), .bool ((Pf.mk n_f w_f u_f t_f).no == n && (Pf.mk n_f w_f u_f t_f).wi == w), none)
  | _, _ => none
theorem k_pmAsks : SOK 44 sm_pmAsks := by
  intro args sg pre x r he hp
  unfold sm_pmAsks at he
  split at he <;> cases he
  · rw [viewPf (hp).1]; exact f_pmAsks_1 (hp := hp.2) ..
theorem f_pmLast1_1 (l : List V) (f : Pf) (hp : (∃ tl : List Tg, l = tl.map eTg) ∧ l.length ≤ 1000000000) : OK 68 ([ePf f, .ptr 0 0]) ([.cells [.buf 1], .buf 2 0 l]) (.bool (decide ((f.no, f.wi) ∈ l.map deTg))) (none) := by
  refine funOK_of_vc (C := cx [(69, sm_slContains)]) (good ⟨k_slContains, trivial⟩) (fn := Tryd.f68) rfl rfl rfl rfl fun hw hs => ?_
  repeat' (
      conv => whnf
      first
      | with_reducible refine optB_i (fun j q h => ?_) (fun h => ?_)
      | with_reducible refine nextM_i ⟨rfl, rfl⟩ (fun h => ?_) (fun j h => ?_)
      | with_reducible refine nextM_i ?_ (fun h => ?_) (fun j h => ?_)
      | refine req_i ?_ ?_
      | refine when_i ?_ ?_
      | refine brn_not ?_
      | refine brn_dec (fun h => ?_) (fun h => ?_)
      | refine brn_int (fun h => ?_) (fun h => ?_)
      | refine brn_intne (fun h => ?_) (fun h => ?_)
      | refine brn_str (fun h => ?_) (fun h => ?_)
      | refine brn_i (fun h => ?_) (fun h => ?_)
      | with_reducible refine IdxK.mk _ rfl ?_
      | with_reducible refine idx_blI ?_ (fun hc => ?_)
      | with_reducible refine idx_bl ?_ (fun hc => ?_)
      | with_reducible refine idx_strI ?_ (fun hc => ?_)
      | with_reducible refine idx_str ?_ (fun hc => ?_)
      | with_reducible refine idx_mapDI ?_ ?_
      | with_reducible refine idx_mapD ?_ ?_
      | with_reducible refine idx_at ?_ (fun b hb => ?_)
      | refine ex_bl ?_
      | refine ex_b1 ?_ ?_
      | refine ex_b2 ?_ ?_ ?_
      | refine ex_b3 ?_ ?_ ?_ ?_
      | refine ex_b4 ?_ ?_ ?_ ?_ ?_
      | refine optK_setL ?_ ?_
      | refine optK_takeL ?_ ?_
      | with_reducible refine forceDs_i ?_
      )
  all_goals try (conv => whnf)
  all_goals try (refine Side.mk ?_; try dsimp only)
  all_goals (try simp only [Cu_eta] at *)
  all_goals first
    | (show LoopP _ _ _ _; skip)
    | (show GotoP _ _ _ _ _; skip)
    | (show EndP _ _ _ _ _ _; skip)
    | (show ∃ _, _; skip)
    | (first
          | trivial
          | omega
          | (simp (discharger := omega) only [wu8, wu16, wu32, wu64, wi32, wi64, Int.tdiv_eq_ediv_of_nonneg, Int.tmod_eq_emod_of_nonneg]; omega)
          | (simp only [List.length_append, List.length_cons, List.length_nil, bl_length, List.length_take, List.length_drop]; omega)
          | (simp (discharger := omega) [-List.getD_eq_getElem?_getD, wu8, wu16, wu32, wu64, wi32, wi64, Int.tdiv_eq_ediv_of_nonneg, Int.tmod_eq_emod_of_nonneg]; done)
          | (simp (discharger := omega) [-List.getD_eq_getElem?_getD, wu8, wu16, wu32, wu64, wi32, wi64, Int.tdiv_eq_ediv_of_nonneg, Int.tmod_eq_emod_of_nonneg]; omega))
    | skip
  refine EndP.mk [] ?_ <;> (repeat' (first | trivial | rfl | exact scopedL_bl _ _ | refine And.intro ?_ ?_ | refine congrArg V.str ?_ | refine congrArg (V.int _) ?_ | refine congrArg V.bool ?_ | refine congrArg (O.buf _ _) ?_ | refine congrArg O.cells ?_ | refine congrArg (V.list _ _) ?_ | refine congrArg V.agg ?_ | refine congrArg V.tuple ?_ | refine cons_eq ?_ ?_))
def sm_pmLast1 : Sm := fun args σ => match args, σ with
  | [.agg [.int .i64 n_f, .int .i64 w_f, .int .u64 u_f, .str t_f], .ptr 0 0], [.cells [.buf 1], .buf 2 0 l] => some (True ∧ ((∃ tl : List Tg, l = tl.map eTg) ∧ l.length ≤ 1000000000), .bool (decide (((Pf.mk n_f w_f u_f t_f).no, (Pf.mk n_f w_f u_f t_f).wi) ∈ l.map deTg)), none)
  | _, _ => none
theorem k_pmLast1 : SOK 68 sm_pmLast1 := by
  intro args sg pre x r he hp
  unfold sm_pmLast1 at he
  split at he <;> cases he
  · rw [viewPf (hp).1]; exact f_pmLast1_1 (hp := hp.2) ..
theorem f_pmLast2_1 (f : Pf) (q1 q2 q3 : Int) (q4 : List UInt8) (b : Bool) (hp : True) : OK 70 ([ePf f, .ptr 0 0, .ptr 1 0]) ([.cells [.int .i64 q1, .int .i64 q2, .int .u64 q3, .str q4], .cells [.bool b]]) (.tuple []) (some [.cells (ePc f), .cells [.bool true]]) := by
  refine funOK_of_vc (C := cx []) (good trivial) (fn := Tryd.f70) rfl rfl rfl rfl fun hw hs => ?_
  repeat' (
      conv => whnf
      first
      | with_reducible refine optB_i (fun j q h => ?_) (fun h => ?_)
      | with_reducible refine nextM_i ⟨rfl, rfl⟩ (fun h => ?_) (fun j h => ?_)
      | with_reducible refine nextM_i ?_ (fun h => ?_) (fun j h => ?_)
      | refine req_i ?_ ?_
      | refine when_i ?_ ?_
      | refine brn_not ?_
      | refine brn_dec (fun h => ?_) (fun h => ?_)
      | refine brn_int (fun h => ?_) (fun h => ?_)
      | refine brn_intne (fun h => ?_) (fun h => ?_)
      | refine brn_str (fun h => ?_) (fun h => ?_)
      | refine brn_i (fun h => ?_) (fun h => ?_)
      | with_reducible refine IdxK.mk _ rfl ?_
      | with_reducible refine idx_blI ?_ (fun hc => ?_)
      | with_reducible refine idx_bl ?_ (fun hc => ?_)
      | with_reducible refine idx_strI ?_ (fun hc => ?_)
      | with_reducible refine idx_str ?_ (fun hc => ?_)
      | with_reducible refine idx_mapDI ?_ ?_
      | with_reducible refine idx_mapD ?_ ?_
      | with_reducible refine idx_at ?_ (fun b hb => ?_)
      | refine ex_bl ?_
      | refine ex_b1 ?_ ?_
      | refine ex_b2 ?_ ?_ ?_
      | refine ex_b3 ?_ ?_ ?_ ?_
      | refine ex_b4 ?_ ?_ ?_ ?_ ?_
      | refine optK_setL ?_ ?_
      | refine optK_takeL ?_ ?_
      | with_reducible refine forceDs_i ?_
      )
  all_goals try (conv => whnf)
  all_goals try (refine Side.mk ?_; try dsimp only)
  all_goals (try simp only [Cu_eta] at *)
  all_goals first
    | (show LoopP _ _ _ _; skip)
    | (show GotoP _ _ _ _ _; skip)
    | (show EndP _ _ _ _ _ _; skip)
    | (show ∃ _, _; skip)
    | (first
          | trivial
          | omega
          | (simp (discharger := omega) only [wu8, wu16, wu32, wu64, wi32, wi64, Int.tdiv_eq_ediv_of_nonneg, Int.tmod_eq_emod_of_nonneg]; omega)
          | (simp only [List.length_append, List.length_cons, List.length_nil, bl_length, List.length_take, List.length_drop]; omega)
          | (simp (discharger := omega) [-List.getD_eq_getElem?_getD, wu8, wu16, wu32, wu64, wi32, wi64, Int.tdiv_eq_ediv_of_nonneg, Int.tmod_eq_emod_of_nonneg]; done)
          | (simp (discharger := omega) [-List.getD_eq_getElem?_getD, wu8, wu16, wu32, wu64, wi32, wi64, Int.tdiv_eq_ediv_of_nonneg, Int.tmod_eq_emod_of_nonneg]; omega))
    | skip
  refine EndP.mk [] ?_ <;> (repeat' (first | trivial | rfl | exact scopedL_bl _ _ | refine And.intro ?_ ?_ | refine congrArg V.str ?_ | refine congrArg (V.int _) ?_ | refine congrArg V.bool ?_ | refine congrArg (O.buf _ _) ?_ | refine congrArg O.cells ?_ | refine congrArg (V.list _ _) ?_ | refine congrArg V.agg ?_ | refine congrArg V.tuple ?_ | refine cons_eq ?_ ?_))
def sm_pmLast2 : Sm := fun args σ => match args, σ with
  | [.agg [.int .i64 n_f, .int .i64 w_f, .int .u64 u_f, .str t_f], .ptr 0 0, .ptr 1 0], [.cells [.int .i64 q1, .int .i64 q2, .int .u64 q3, .str q4], .cells [.bool b]] => some (True ∧ (True), .tuple [], some [.cells (ePc (Pf.mk n_f w_f u_f t_f)), .cells [.bool true]])
  | _, _ => none
theorem k_pmLast2 : SOK 70 sm_pmLast2 := by
  intro args sg pre x r he hp
  unfold sm_pmLast2 at he
  split at he <;> cases he
  · rw [viewPf (hp).1]; exact f_pmLast2_1 (hp := hp.2) ..
theorem f_pmNum1_1 (f : Pf) (u : Int) (b : Bool) (hp : True) : OK 45 ([ePf f, .ptr 0 0, .ptr 1 0]) ([.cells [.int .u64 u], .cells [.bool b]]) (.tuple []) (some [.cells [.int .u64 f.num], .cells [.bool true]]) := by
  refine funOK_of_vc (C := cx []) (good trivial) (fn := Tryd.f45) rfl rfl rfl rfl fun hw hs => ?_
  repeat' (
      conv => whnf
      first
      | with_reducible refine optB_i (fun j q h => ?_) (fun h => ?_)
      | with_reducible refine nextM_i ⟨rfl, rfl⟩ (fun h => ?_) (fun j h => ?_)
      | with_reducible refine nextM_i ?_ (fun h => ?_) (fun j h => ?_)
      | refine req_i ?_ ?_
      | refine when_i ?_ ?_
      | refine brn_not ?_
      | refine brn_dec (fun h => ?_) (fun h => ?_)
      | refine brn_int (fun h => ?_) (fun h => ?_)
      | refine brn_intne (fun h => ?_) (fun h => ?_)
      | refine brn_str (fun h => ?_) (fun h => ?_)
      | refine brn_i (fun h => ?_) (fun h => ?_)
      | with_reducible refine IdxK.mk _ rfl ?_
      | with_reducible refine idx_blI ?_ (fun hc => ?_)
      | with_reducible refine idx_bl ?_ (fun hc => ?_)
      | with_reducible refine idx_strI ?_ (fun hc => ?_)
      | with_reducible refine idx_str ?_ (fun hc => ?_)
      | with_reducible refine idx_mapDI ?_ ?_
      | with_reducible refine idx_mapD ?_ ?_
      | with_reducible refine idx_at ?_ (fun b hb => ?_)
      | refine ex_bl ?_
      | refine ex_b1 ?_ ?_
      | refine ex_b2 ?_ ?_ ?_
      | refine ex_b3 ?_ ?_ ?_ ?_
      | refine ex_b4 ?_ ?_ ?_ ?_ ?_
      | refine optK_setL ?_ ?_
      | refine optK_takeL ?_ ?_
      | with_reducible refine forceDs_i ?_
      )
  all_goals try (conv => whnf)
  all_goals try (refine Side.mk ?_; try dsimp only)
  all_goals (try simp only [Cu_eta] at *)
  all_goals first
    | (show LoopP _ _ _ _; skip)
    | (show GotoP _ _ _ _ _; skip)
    | (show EndP _ _ _ _ _ _; skip)
    | (show ∃ _, _; skip)
    | (first
          | trivial
          | omega
          | (simp (discharger := omega) only [wu8, wu16, wu32, wu64, wi32, wi64, Int.tdiv_eq_ediv_of_nonneg, Int.tmod_eq_emod_of_nonneg]; omega)
          | (simp only [List.length_append, List.length_cons, List.length_nil, bl_length, List.length_take, List.length_drop]; omega)
          | (simp (discharger := omega) [-List.getD_eq_getElem?_getD, wu8, wu16, wu32, wu64, wi32, wi64, Int.tdiv_eq_ediv_of_nonneg, Int.tmod_eq_emod_of_nonneg]; done)
          | (simp (discharger := omega) [-List.getD_eq_getElem?_getD, wu8, wu16, wu32, wu64, wi32, wi64, Int.tdiv_eq_ediv_of_nonneg, Int.tmod_eq_emod_of_nonneg]; omega))
    | skip
  refine EndP.mk [] ?_ <;> (repeat' (first | trivial | rfl | exact scopedL_bl _ _ | refine And.intro ?_ ?_ | refine congrArg V.str ?_ | refine congrArg (V.int _) ?_ | refine congrArg V.bool ?_ | refine congrArg (O.buf _ _) ?_ | refine congrArg O.cells ?_ | refine congrArg (V.list _ _) ?_ | refine congrArg V.agg ?_ | refine congrArg V.tuple ?_ | refine cons_eq ?_ ?_))
def sm_pmNum1 : Sm := fun args σ => match args, σ with
  | [.agg [.int .i64 n_f, .int .i64 w_f, .int .u64 u_f, .str t_f], .ptr 0 0, .ptr 1 0], [.cells [.int .u64 u], .cells [.bool b]] => some (True ∧ (True), .tuple [], some [.cells [.int .u64 (Pf.mk n_f w_f u_f t_f).num], .cells [.bool true]])
  | _, _ => none
theorem k_pmNum1 : SOK 45 sm_pmNum1 := by
  intro args sg pre x r he hp
  unfold sm_pmNum1 at he
  split at he <;> cases he
  · rw [viewPf (hp).1]; exact f_pmNum1_1 (hp := hp.2) ..
theorem f_pmText1_1 (f : Pf) (s : List UInt8) (b : Bool) (hp : True) : OK 47 ([ePf f, .ptr 0 0, .ptr 1 0]) ([.cells [.str s], .cells [.bool b]]) (.tuple []) (some [.cells [.str f.text], .cells [.bool true]]) := by
  refine funOK_of_vc (C := cx []) (good trivial) (fn := Tryd.f47) rfl rfl rfl rfl fun hw hs => ?_
  repeat' (
      conv => whnf
      first
      | with_reducible refine optB_i (fun j q h => ?_) (fun h => ?_)
      | with_reducible refine nextM_i ⟨rfl, rfl⟩ (fun h => ?_) (fun j h => ?_)
      | with_reducible refine nextM_i ?_ (fun h => ?_) (fun j h => ?_)
      | refine req_i ?_ ?_
      | refine when_i ?_ ?_
      | refine brn_not ?_
      | refine brn_dec (fun h => ?_) (fun h => ?_)
      | refine brn_int (fun h => ?_) (fun h => ?_)
      | refine brn_intne (fun h => ?_) (fun h => ?_)
      | refine brn_str (fun h => ?_) (fun h => ?_)
      | refine brn_i (fun h => ?_) (fun h => ?_)
      | with_reducible refine IdxK.mk _ rfl ?_
      | with_reducible refine idx_blI ?_ (fun hc => ?_)
      | with_reducible refine idx_bl ?_ (fun hc => ?_)
      | with_reducible refine idx_strI ?_ (fun hc => ?_)
      | with_reducible refine idx_str ?_ (fun hc => ?_)
      | with_reducible refine idx_mapDI ?_ ?_
      | with_reducible refine idx_mapD ?_ ?_
      | with_reducible refine idx_at ?_ (fun b hb => ?_)
      | refine ex_bl ?_
      | refine ex_b1 ?_ ?_
      | refine ex_b2 ?_ ?_ ?_
      | refine ex_b3 ?_ ?_ ?_ ?_
      | refine ex_b4 ?_ ?_ ?_ ?_ ?_
      | refine optK_setL ?_ ?_
      | refine optK_takeL ?_ ?_
      | with_reducible refine forceDs_i ?_
      )
  all_goals try (conv => whnf)
  all_goals try (refine Side.mk ?_; try dsimp only)
  all_goals (try simp only [Cu_eta] at *)
  all_goals first
    | (show LoopP _ _ _ _; skip)
    | (show GotoP _ _ _ _ _; skip)
    | (show EndP _ _ _ _ _ _; skip)
    | (show ∃ _, _; skip)
    | (first
          | trivial
          | omega
          | (simp (discharger := omega) only [wu8, wu16, wu32, wu64, wi32, wi64, Int.tdiv_eq_ediv_of_nonneg, Int.tmod_eq_emod_of_nonneg]; omega)
          | (simp only [List.length_append, List.length_cons, List.length_nil, bl_length, List.length_take, List.length_drop]; omega)
          | (simp (discharger := omega) [-List.getD_eq_getElem?_getD, wu8, wu16, wu32, wu64, wi32, wi64, Int.tdiv_eq_ediv_of_nonneg, Int.tmod_eq_emod_of_nonneg]; done)
          | (simp (discharger := omega) [-List.getD_eq_getElem?_getD, wu8, wu16, wu32, wu64, wi32, wi64, Int.tdiv_eq_ediv_of_nonneg, Int.tmod_eq_emod_of_nonneg]; omega))
    | skip
  refine EndP.mk [] ?_ <;> (repeat' (first | trivial | rfl | exact scopedL_bl _ _ | refine And.intro ?_ ?_ | refine congrArg V.str ?_ | refine congrArg (V.int _) ?_ | refine congrArg V.bool ?_ | refine congrArg (O.buf _ _) ?_ | refine congrArg O.cells ?_ | refine congrArg (V.list _ _) ?_ | refine congrArg V.agg ?_ | refine congrArg V.tuple ?_ | refine cons_eq ?_ ?_))
def sm_pmText1 : Sm := fun args σ => match args, σ with
  | [.agg [.int .i64 n_f, .int .i64 w_f, .int .u64 u_f, .str t_f], .ptr 0 0, .ptr 1 0], [.cells [.str s], .cells [.bool b]] => some (True ∧ (True), .tuple [], some [.cells [.str (Pf.mk n_f w_f u_f t_f).text], .cells [.bool true]])
  | _, _ => none
theorem k_pmText1 : SOK 47 sm_pmText1 := by
  intro args sg pre x r he hp
  unfold sm_pmText1 at he
  split at he <;> cases he
  · rw [viewPf (hp).1]; exact f_pmText1_1 (hp := hp.2) ..
theorem f_pmJoin1_1 (f : Pf) (l : List V) (b : Bool) (hp : l.length + f.text.length ≤ 4294967296) : OK 48 ([ePf f, .ptr 0 0, .ptr 1 0]) ([.cells [.buf 2], .cells [.bool b], .buf 1 0 l]) (.tuple []) (some [.cells [.buf 2], .cells [.bool true], .buf 1 0 (l ++ bl f.text)]) := by
  refine funOK_of_vc (C := cx []) (good trivial) (fn := Tryd.f48) rfl rfl rfl rfl fun hw hs => ?_
  repeat' (
      conv => whnf
      first
      | with_reducible refine optB_i (fun j q h => ?_) (fun h => ?_)
      | with_reducible refine nextM_i ⟨rfl, rfl⟩ (fun h => ?_) (fun j h => ?_)
      | with_reducible refine nextM_i ?_ (fun h => ?_) (fun j h => ?_)
      | refine req_i ?_ ?_
      | refine when_i ?_ ?_
      | refine brn_not ?_
      | refine brn_dec (fun h => ?_) (fun h => ?_)
      | refine brn_int (fun h => ?_) (fun h => ?_)
      | refine brn_intne (fun h => ?_) (fun h => ?_)
      | refine brn_str (fun h => ?_) (fun h => ?_)
      | refine brn_i (fun h => ?_) (fun h => ?_)
      | with_reducible refine IdxK.mk _ rfl ?_
      | with_reducible refine idx_blI ?_ (fun hc => ?_)
      | with_reducible refine idx_bl ?_ (fun hc => ?_)
      | with_reducible refine idx_strI ?_ (fun hc => ?_)
      | with_reducible refine idx_str ?_ (fun hc => ?_)
      | with_reducible refine idx_mapDI ?_ ?_
      | with_reducible refine idx_mapD ?_ ?_
      | with_reducible refine idx_at ?_ (fun b hb => ?_)
      | refine ex_bl ?_
      | refine ex_b1 ?_ ?_
      | refine ex_b2 ?_ ?_ ?_
      | refine ex_b3 ?_ ?_ ?_ ?_
      | refine ex_b4 ?_ ?_ ?_ ?_ ?_
      | refine optK_setL ?_ ?_
      | refine optK_takeL ?_ ?_
      | with_reducible refine forceDs_i ?_
      )
  all_goals try (conv => whnf)
  all_goals try (refine Side.mk ?_; try dsimp only)
  all_goals (try simp only [Cu_eta] at *)
  all_goals first
    | (show LoopP _ _ _ _; skip)
    | (show GotoP _ _ _ _ _; skip)
    | (show EndP _ _ _ _ _ _; skip)
    | (show ∃ _, _; skip)
    | (first
          | trivial
          | omega
          | (simp (discharger := omega) only [wu8, wu16, wu32, wu64, wi32, wi64, Int.tdiv_eq_ediv_of_nonneg, Int.tmod_eq_emod_of_nonneg]; omega)
          | (simp only [List.length_append, List.length_cons, List.length_nil, bl_length, List.length_take, List.length_drop]; omega)
          | (simp (discharger := omega) [-List.getD_eq_getElem?_getD, wu8, wu16, wu32, wu64, wi32, wi64, Int.tdiv_eq_ediv_of_nonneg, Int.tmod_eq_emod_of_nonneg]; done)
          | (simp (discharger := omega) [-List.getD_eq_getElem?_getD, wu8, wu16, wu32, wu64, wi32, wi64, Int.tdiv_eq_ediv_of_nonneg, Int.tmod_eq_emod_of_nonneg]; omega))
    | skip
  refine EndP.mk [] ?_ <;> (repeat' (first | trivial | rfl | exact scopedL_bl _ _ | refine And.intro ?_ ?_ | refine congrArg V.str ?_ | refine congrArg (V.int _) ?_ | refine congrArg V.bool ?_ | refine congrArg (O.buf _ _) ?_ | refine congrArg O.cells ?_ | refine congrArg (V.list _ _) ?_ | refine congrArg V.agg ?_ | refine congrArg V.tuple ?_ | refine cons_eq ?_ ?_))
def sm_pmJoin1 : Sm := fun args σ => match args, σ with
  | [.agg [.int .i64 n_f, .int .i64 w_f, .int .u64 u_f, .str t_f], .ptr 0 0, .ptr 1 0], [.cells [.buf 2], .cells [.bool b], .buf 1 0 l] => some (True ∧ (l.length + (Pf.mk n_f w_f u_f t_f).text.length ≤ 4294967296), .tuple [], some [.cells [.buf 2], .cells [.bool true], .buf 1 0 (l ++ bl (Pf.mk n_f w_f u_f t_f).text)])
  | _, _ => none
theorem k_pmJoin1 : SOK 48 sm_pmJoin1 := by
  intro args sg pre x r he hp
  unfold sm_pmJoin1 at he
  split at he <;> cases he
  · rw [viewPf (hp).1]; exact f_pmJoin1_1 (hp := hp.2) ..
theorem f_pmEach1_1 (f : Pf) (l : List V) (hp : l.length + 1 ≤ 4294967296) : OK 49 ([ePf f, .ptr 0 0]) ([.cells [.buf 1], .buf 1 0 l]) (.tuple []) (some [.cells [.buf 1], .buf 1 0 (l ++ [.str f.text])]) := by
  refine funOK_of_vc (C := cx []) (good trivial) (fn := Tryd.f49) rfl rfl rfl rfl fun hw hs => ?_
  repeat' (
      conv => whnf
      first
      | with_reducible refine optB_i (fun j q h => ?_) (fun h => ?_)
      | with_reducible refine nextM_i ⟨rfl, rfl⟩ (fun h => ?_) (fun j h => ?_)
      | with_reducible refine nextM_i ?_ (fun h => ?_) (fun j h => ?_)
      | refine req_i ?_ ?_
      | refine when_i ?_ ?_
      | refine brn_not ?_
      | refine brn_dec (fun h => ?_) (fun h => ?_)
      | refine brn_int (fun h => ?_) (fun h => ?_)
      | refine brn_intne (fun h => ?_) (fun h => ?_)
      | refine brn_str (fun h => ?_) (fun h => ?_)
      | refine brn_i (fun h => ?_) (fun h => ?_)
      | with_reducible refine IdxK.mk _ rfl ?_
      | with_reducible refine idx_blI ?_ (fun hc => ?_)
      | with_reducible refine idx_bl ?_ (fun hc => ?_)
      | with_reducible refine idx_strI ?_ (fun hc => ?_)
      | with_reducible refine idx_str ?_ (fun hc => ?_)
      | with_reducible refine idx_mapDI ?_ ?_
      | with_reducible refine idx_mapD ?_ ?_
      | with_reducible refine idx_at ?_ (fun b hb => ?_)
      | refine ex_bl ?_
      | refine ex_b1 ?_ ?_
      | refine ex_b2 ?_ ?_ ?_
      | refine ex_b3 ?_ ?_ ?_ ?_
      | refine ex_b4 ?_ ?_ ?_ ?_ ?_
      | refine optK_setL ?_ ?_
      | refine optK_takeL ?_ ?_
      | with_reducible refine forceDs_i ?_
      )
  all_goals try (conv => whnf)
  all_goals try (refine Side.mk ?_; try dsimp only)
  all_goals (try simp only [Cu_eta] at *)
  all_goals first
    | (show LoopP _ _ _ _; skip)
    | (show GotoP _ _ _ _ _; skip)
    | (show EndP _ _ _ _ _ _; skip)
    | (show ∃ _, _; skip)
    | (first
          | trivial
          | omega
          | (simp (discharger := omega) only [wu8, wu16, wu32, wu64, wi32, wi64, Int.tdiv_eq_ediv_of_nonneg, Int.tmod_eq_emod_of_nonneg]; omega)
          | (simp only [List.length_append, List.length_cons, List.length_nil, bl_length, List.length_take, List.length_drop]; omega)
          | (simp (discharger := omega) [-List.getD_eq_getElem?_getD, wu8, wu16, wu32, wu64, wi32, wi64, Int.tdiv_eq_ediv_of_nonneg, Int.tmod_eq_emod_of_nonneg]; done)
          | (simp (discharger := omega) [-List.getD_eq_getElem?_getD, wu8, wu16, wu32, wu64, wi32, wi64, Int.tdiv_eq_ediv_of_nonneg, Int.tmod_eq_emod_of_nonneg]; omega))
    | skip
  refine EndP.mk [] ?_ <;> (repeat' (first | trivial | rfl | exact scopedL_bl _ _ | refine And.intro ?_ ?_ | refine congrArg V.str ?_ | refine congrArg (V.int _) ?_ | refine congrArg V.bool ?_ | refine congrArg (O.buf _ _) ?_ | refine congrArg O.cells ?_ | refine congrArg (V.list _ _) ?_ | refine congrArg V.agg ?_ | refine congrArg V.tuple ?_ | refine cons_eq ?_ ?_))
def sm_pmEach1 : Sm := fun args σ => match args, σ with
  | [.agg [.int .i64 n_f, .int .i64 w_f, .int .u64 u_f, .str t_f], .ptr 0 0], [.cells [.buf 1], .buf 1 0 l] => some (True ∧ (l.length + 1 ≤ 4294967296), .tuple [], some [.cells [.buf 1], .buf 1 0 (l ++ [.str (Pf.mk n_f w_f u_f t_f).text])])
  | _, _ => none
theorem k_pmEach1 : SOK 49 sm_pmEach1 := by
  intro args sg pre x r he hp
  unfold sm_pmEach1 at he
  split at he <;> cases he
  · rw [viewPf (hp).1]; exact f_pmEach1_1 (hp := hp.2) ..
end Go.Proofs.YtbeejnmeakcpjaaDoor
