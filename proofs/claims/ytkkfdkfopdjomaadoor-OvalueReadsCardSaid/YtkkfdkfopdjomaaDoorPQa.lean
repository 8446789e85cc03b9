/-
  Messages of Protobuf: which tags a list has.
-/
import Derived.Test.YtkkfdkfopdjomaaDoorPRp
set_option linter.unusedSimpArgs false
set_option linter.unusedVariables false
set_option maxHeartbeats 4000000
namespace Go.Proofs.YtkkfdkfopdjomaaDoor
open Go Go.VG
set_option maxRecDepth 100000
abbrev Tg : Type := Int × Int
abbrev eTg (p : Tg) : V := .agg [.int .i64 p.1, .int .i64 p.2]
def deTg : V → Tg
  | .agg [.int _ a, .int _ b] => (a, b)
  | _ => (0, 0)
def dePf : V → Pf
  | .agg [.int _ n, .int _ w, .int _ u, .str t] => ⟨n, w, u, t⟩
  | _ => default
theorem deTg_map (l : List Tg) : (l.map eTg).map deTg = l := by
  rw [List.map_map]
  have : deTg ∘ eTg = id := funext fun ⟨a, b⟩ => rfl
  rw [this, List.map_id]
theorem dePf_map (l : List Pf) : (l.map ePf).map dePf = l := by
  rw [List.map_map]
  have : dePf ∘ ePf = id := funext fun ⟨a, b, c, d⟩ => rfl
  rw [this, List.map_id]
def ixT (tl : List Tg) (p : Tg) : Int := if p ∈ tl then (tl.idxOf p : Int) else -1
theorem ixT_at {tl : List Tg} {p : Tg} {i : Nat} (h : ∀ j, j < i → tl.getD j (0, 0) ≠ p) (hi : i < tl.length) (hp : tl.getD i (0, 0) = p) : ixT tl p = i := by
  have hg : tl[i]? = some p := by rw [List.getElem?_eq_getElem hi]; rw [List.getD_eq_getElem?_getD, List.getElem?_eq_getElem hi] at hp; exact congrArg some hp
  have hm : p ∈ tl := List.mem_of_getElem? hg
  have hlt := List.idxOf_lt_length_of_mem hm
  have hge := List.getElem_idxOf hlt
  unfold ixT
  rw [if_pos hm]
  have h1 : ¬ tl.idxOf p < i := fun q => by
    refine h _ q ?_
    rw [List.getD_eq_getElem?_getD, List.getElem?_eq_getElem hlt]
    exact hge
  have h2 : ¬ i < tl.idxOf p := fun q => by
    have := List.not_of_lt_findIdx (p := (· == p)) (xs := tl) (i := i) q
    obtain ⟨_, e⟩ := List.getElem?_eq_some_iff.1 hg
    exact absurd e (by simpa using this)
  omega
theorem ixT_no {tl : List Tg} {p : Tg} (h : ∀ j, j < tl.length → tl.getD j (0, 0) ≠ p) : ixT tl p = -1 := by
  unfold ixT
  rw [if_neg]
  intro hm
  obtain ⟨j, hj⟩ := List.getElem?_of_mem hm
  obtain ⟨hl, he⟩ := List.getElem?_eq_some_iff.1 hj
  refine h j hl ?_
  rw [List.getD_eq_getElem?_getD, hj]; rfl
theorem ixT_0 {tl : List Tg} {p : Tg} : 0 ≤ ixT tl p ↔ p ∈ tl := by
  unfold ixT
  split
  · rename_i h; exact ⟨fun _ => h, fun _ => by omega⟩
  · rename_i h; exact ⟨fun q => by omega, fun q => absurd q h⟩
theorem tg_eq {x : Tg} {a b : Int} : (a == x.1 && b == x.2) = true ↔ x = (a, b) := by
  obtain ⟨p, q⟩ := x
  simp only [Bool.and_eq_true, beq_iff_eq, Prod.mk.injEq]
  exact ⟨fun h => ⟨h.1.symm, h.2.symm⟩, fun h => ⟨h.1.symm, h.2.symm⟩⟩
theorem tg_ne {x : Tg} {a b : Int} (h : (a == x.1 && b == x.2) = false) (q : x = (a, b)) : False := by
  rw [tg_eq.2 q] at h; cases h
theorem f_slIndex_1 (l : List V) (a b : Int) (hp : (∃ tl : List Tg, l = tl.map eTg) ∧ l.length ≤ 1000000000) : OK 50 ([.buf 0, .agg [.int .i64 a, .int .i64 b]]) ([.buf 2 0 l]) (.int .i64 (ixT (l.map deTg) (a, b))) (none) := by
  refine funOK_of_vc (C := cx []) (good trivial) (fn := Tryd.f50) rfl rfl rfl rfl fun hw hs => ?_
  obtain ⟨⟨tl, rfl⟩, hl⟩ := hp
  rw [deTg_map]
  have hml : (tl.map eTg).length = tl.length := List.length_map ..
  repeat' ((conv => whnf); first | with_reducible (first | refine go1 (fun j q h => ?_) fun h => ?_ | refine go2 ⟨rfl, rfl⟩ (fun h => ?_) fun j h => ?_ | refine go2 ?_ (fun h => ?_) fun j h => ?_ | refine goQ ?_ (fun h => ?_) fun h => ?_) | apply go3 | apply go4 | apply go5 | ((first | apply go6 | apply go7 | apply go8 | apply go9 | apply goA) <;> intro h) | with_reducible (first | refine IdxK.mk _ rfl ?_ | refine goB ?_ fun hc => ?_ | refine goC ?_ fun hc => ?_ | refine goD ?_ fun hc => ?_ | refine goE ?_ fun hc => ?_ | apply goF | apply goG | refine goH ?_ fun b hb => ?_) | apply goI | apply goJ | apply goK | apply goL | apply goM | apply goN | apply goO | with_reducible refine goP ?_)
  all_goals try conv => whnf
  all_goals try (refine Side.mk ?_; try dsimp only)
  refine LoopP.mk Nat (fun i => i ≤ tl.length ∧ ∀ j, j < i → tl.getD j (0, 0) ≠ (a, b)) (fun i => ⟨19, [(0, .buf 0), (3, .ptr 1 0), (6, .buf 0), (7, .int .i64 tl.length), (8, .int .i64 i)], [.buf 2 0 (tl.map eTg), .cells [.int .i64 a, .int .i64 b]], []⟩) (fun i => tl.length - i) [] 0 ⟨Nat.zero_le _, fun _ h => by omega⟩ ?_ (fun i ⟨hi, hj⟩ _ _ => ?_)
  · refine Go.VG.Sub.mk rfl ?_ ?_ ?_ ?_ <;> (repeat' first | trivial | rfl | exact eqS _ _ | apply andI | apply eqA | apply eqB | apply eqC | apply eqD | apply eqE | apply eqF | apply eqG | apply eqH | apply eqI)
    rw [hml]
  repeat' ((conv => whnf); first | with_reducible (first | refine go1 (fun j q h => ?_) fun h => ?_ | refine go2 ⟨rfl, rfl⟩ (fun h => ?_) fun j h => ?_ | refine go2 ?_ (fun h => ?_) fun j h => ?_ | refine goQ ?_ (fun h => ?_) fun h => ?_) | apply go3 | apply go4 | apply go5 | ((first | apply go6 | apply go7 | apply go8 | apply go9 | apply goA) <;> intro h) | with_reducible (first | refine IdxK.mk _ rfl ?_ | refine goB ?_ fun hc => ?_ | refine goC ?_ fun hc => ?_ | refine goD ?_ fun hc => ?_ | refine goE ?_ fun hc => ?_ | apply goF | apply goG | refine goH ?_ fun b hb => ?_) | apply goI | apply goJ | apply goK | apply goL | apply goM | apply goN | apply goO | with_reducible refine goP ?_)
  all_goals try conv => whnf
  all_goals try (refine Side.mk ?_; try dsimp only)
  all_goals (try simp only [Cu_eta] at *)
  all_goals first | refine stay ?_ | trivial | omega | (simp (discharger := omega) only [wR]; omega) | (simp only [lnS]; omega) | (simp (discharger := omega) [-List.getD_eq_getElem?_getD, wR] <;> omega) | skip
  · have he := tg_eq.1 (‹(a == _ && b == _) = true›)
    rw [ixT_at hj (by omega) he]
    refine EndP.mk [] ?_ <;> (repeat' first | trivial | rfl | exact eqS _ _ | apply andI | apply eqA | apply eqB | apply eqC | apply eqD | apply eqE | apply eqF | apply eqG | apply eqH | apply eqI)
  · have he := fun q => tg_ne (‹(a == _ && b == _) = false›) (q : tl.getD i (0, 0) = (a, b))
    refine ⟨[], i + 1, ⟨by omega, fun j hj2 => ?_⟩, ?_, by omega⟩
    · by_cases q : j = i
      · subst q; exact he
      · exact hj j (by omega)
    · refine Go.VG.Sub.mk rfl ?_ ?_ ?_ ?_ <;> (repeat' first | trivial | rfl | exact eqS _ _ | apply andI | apply eqA | apply eqB | apply eqC | apply eqD | apply eqE | apply eqF | apply eqG | apply eqH | apply eqI)
      (first | omega | (simp (discharger := omega) only [wR]; omega) | (simp only [lnS]; omega) | (simp (discharger := omega) [-List.getD_eq_getElem?_getD, wR] <;> omega))
  · rw [ixT_no (fun j hj2 => hj j (by omega))]
    refine EndP.mk [] ?_ <;> (repeat' first | trivial | rfl | exact eqS _ _ | apply andI | apply eqA | apply eqB | apply eqC | apply eqD | apply eqE | apply eqF | apply eqG | apply eqH | apply eqI)
def sm_slIndex : Sm := fun args σ => match args, σ with
  | [.buf 0, .agg [.int .i64 a, .int .i64 b]], [.buf 2 0 l] => some ((∃ tl : List Tg, l = tl.map eTg) ∧ l.length ≤ 1000000000, .int .i64 (ixT (l.map deTg) (a, b)), none)
  | _, _ => none
theorem k_slIndex : SOK 50 sm_slIndex := by
  intro args sg pre x r he hp
  unfold sm_slIndex at he
  split at he <;> cases he
  · exact f_slIndex_1 (hp := hp) ..
theorem f_slContains_1 (l : List V) (a b : Int) (hp : (∃ tl : List Tg, l = tl.map eTg) ∧ l.length ≤ 1000000000) : OK 34 ([.buf 0, .agg [.int .i64 a, .int .i64 b]]) ([.buf 2 0 l]) (.bool (decide ((a, b) ∈ l.map deTg))) (none) := by
  refine funOK_of_vc (C := cx [(50, sm_slIndex)]) (good ⟨k_slIndex, trivial⟩) (fn := Tryd.f34) rfl rfl rfl rfl fun hw hs => ?_
  have hx := @ixT_0 (l.map deTg) (a, b)
  repeat' ((conv => whnf); first | with_reducible (first | refine go1 (fun j q h => ?_) fun h => ?_ | refine go2 ⟨rfl, rfl⟩ (fun h => ?_) fun j h => ?_ | refine go2 ?_ (fun h => ?_) fun j h => ?_ | refine goQ ?_ (fun h => ?_) fun h => ?_) | apply go3 | apply go4 | apply go5 | ((first | apply go6 | apply go7 | apply go8 | apply go9 | apply goA) <;> intro h) | with_reducible (first | refine IdxK.mk _ rfl ?_ | refine goB ?_ fun hc => ?_ | refine goC ?_ fun hc => ?_ | refine goD ?_ fun hc => ?_ | refine goE ?_ fun hc => ?_ | apply goF | apply goG | refine goH ?_ fun b hb => ?_) | apply goI | apply goJ | apply goK | apply goL | apply goM | apply goN | apply goO | with_reducible refine goP ?_)
  all_goals try conv => whnf
  all_goals try (refine Side.mk ?_; try dsimp only)
  all_goals (try simp only [Cu_eta] at *)
  all_goals first | refine stay ?_ | trivial | omega | (simp (discharger := omega) only [wR]; omega) | (simp only [lnS]; omega) | (simp (discharger := omega) [-List.getD_eq_getElem?_getD, wR] <;> omega) | skip
  refine EndP.mk [] ?_ <;> (repeat' first | trivial | rfl | exact eqS _ _ | apply andI | apply eqA | apply eqB | apply eqC | apply eqD | apply eqE | apply eqF | apply eqG | apply eqH | apply eqI)
  rw [decide_eq_decide]
  exact hx
def sm_slContains : Sm := fun args σ => match args, σ with
  | [.buf 0, .agg [.int .i64 a, .int .i64 b]], [.buf 2 0 l] => some ((∃ tl : List Tg, l = tl.map eTg) ∧ l.length ≤ 1000000000, .bool (decide ((a, b) ∈ l.map deTg)), none)
  | _, _ => none
theorem k_slContains : SOK 34 sm_slContains := by
  intro args sg pre x r he hp
  unfold sm_slContains at he
  split at he <;> cases he
  · exact f_slContains_1 (hp := hp) ..
theorem f_pmAsks_1 (n w : Int) (f : Pf) (hp : True) : OK 51 ([.agg [.int .i64 n, .int .i64 w], ePf f]) ([]) (.bool (f.no == n && f.wi == w)) (none) := by
  refine funOK_of_vc (C := cx []) (good trivial) (fn := Tryd.f51) rfl rfl rfl rfl fun hw hs => ?_
  repeat' ((conv => whnf); first | with_reducible (first | refine go1 (fun j q h => ?_) fun h => ?_ | refine go2 ⟨rfl, rfl⟩ (fun h => ?_) fun j h => ?_ | refine go2 ?_ (fun h => ?_) fun j h => ?_ | refine goQ ?_ (fun h => ?_) fun h => ?_) | apply go3 | apply go4 | apply go5 | ((first | apply go6 | apply go7 | apply go8 | apply go9 | apply goA) <;> intro h) | with_reducible (first | refine IdxK.mk _ rfl ?_ | refine goB ?_ fun hc => ?_ | refine goC ?_ fun hc => ?_ | refine goD ?_ fun hc => ?_ | refine goE ?_ fun hc => ?_ | apply goF | apply goG | refine goH ?_ fun b hb => ?_) | apply goI | apply goJ | apply goK | apply goL | apply goM | apply goN | apply goO | with_reducible refine goP ?_)
  all_goals try conv => whnf
  all_goals try (refine Side.mk ?_; try dsimp only)
  all_goals (try simp only [Cu_eta] at *)
  all_goals first | refine stay ?_ | trivial | omega | (simp (discharger := omega) only [wR]; omega) | (simp only [lnS]; omega) | (simp (discharger := omega) [-List.getD_eq_getElem?_getD, wR] <;> omega) | skip
  all_goals
    refine EndP.mk [] ?_ <;> (repeat' first | trivial | rfl | exact eqS _ _ | apply andI | apply eqA | apply eqB | apply eqC | apply eqD | apply eqE | apply eqF | apply eqG | apply eqH | apply eqI)
    simp_all
def sm_pmAsks : Sm := fun args σ => match args, σ with
  | [.agg [.int .i64 n, .int .i64 w], .agg [.int .i64 n_f, .int .i64 w_f, .int .u64 u_f, .str t_f]], [] => some (True ∧ (True), .bool ((Pf.mk n_f w_f u_f t_f).no == n && (Pf.mk n_f w_f u_f t_f).wi == w), none)
  | _, _ => none
theorem k_pmAsks : SOK 51 sm_pmAsks := by
  intro args sg pre x r he hp
  unfold sm_pmAsks at he
  split at he <;> cases he
  · rw [viewPf (hp).1]; exact f_pmAsks_1 (hp := hp.2) ..
theorem f_pmLast1_1 (l : List V) (f : Pf) (hp : (∃ tl : List Tg, l = tl.map eTg) ∧ l.length ≤ 1000000000) : OK 33 ([ePf f, .ptr 0 0]) ([.cells [.buf 1], .buf 2 0 l]) (.bool (decide ((f.no, f.wi) ∈ l.map deTg))) (none) := by
  refine funOK_of_vc (C := cx [(34, sm_slContains)]) (good ⟨k_slContains, trivial⟩) (fn := Tryd.f33) rfl rfl rfl rfl fun hw hs => ?_
  repeat' ((conv => whnf); first | with_reducible (first | refine go1 (fun j q h => ?_) fun h => ?_ | refine go2 ⟨rfl, rfl⟩ (fun h => ?_) fun j h => ?_ | refine go2 ?_ (fun h => ?_) fun j h => ?_ | refine goQ ?_ (fun h => ?_) fun h => ?_) | apply go3 | apply go4 | apply go5 | ((first | apply go6 | apply go7 | apply go8 | apply go9 | apply goA) <;> intro h) | with_reducible (first | refine IdxK.mk _ rfl ?_ | refine goB ?_ fun hc => ?_ | refine goC ?_ fun hc => ?_ | refine goD ?_ fun hc => ?_ | refine goE ?_ fun hc => ?_ | apply goF | apply goG | refine goH ?_ fun b hb => ?_) | apply goI | apply goJ | apply goK | apply goL | apply goM | apply goN | apply goO | with_reducible refine goP ?_)
  all_goals try conv => whnf
  all_goals try (refine Side.mk ?_; try dsimp only)
  all_goals (try simp only [Cu_eta] at *)
  all_goals first | refine stay ?_ | trivial | omega | (simp (discharger := omega) only [wR]; omega) | (simp only [lnS]; omega) | (simp (discharger := omega) [-List.getD_eq_getElem?_getD, wR] <;> omega) | skip
  refine EndP.mk [] ?_ <;> (repeat' first | trivial | rfl | exact eqS _ _ | apply andI | apply eqA | apply eqB | apply eqC | apply eqD | apply eqE | apply eqF | apply eqG | apply eqH | apply eqI)
def sm_pmLast1 : Sm := fun args σ => match args, σ with
  | [.agg [.int .i64 n_f, .int .i64 w_f, .int .u64 u_f, .str t_f], .ptr 0 0], [.cells [.buf 1], .buf 2 0 l] => some (True ∧ ((∃ tl : List Tg, l = tl.map eTg) ∧ l.length ≤ 1000000000), .bool (decide (((Pf.mk n_f w_f u_f t_f).no, (Pf.mk n_f w_f u_f t_f).wi) ∈ l.map deTg)), none)
  | _, _ => none
theorem k_pmLast1 : SOK 33 sm_pmLast1 := by
  intro args sg pre x r he hp
  unfold sm_pmLast1 at he
  split at he <;> cases he
  · rw [viewPf (hp).1]; exact f_pmLast1_1 (hp := hp.2) ..
theorem f_pmLast2_1 (f : Pf) (q1 q2 q3 : Int) (q4 : List UInt8) (b : Bool) (hp : True) : OK 35 ([ePf f, .ptr 0 0, .ptr 1 0]) ([.cells [.int .i64 q1, .int .i64 q2, .int .u64 q3, .str q4], .cells [.bool b]]) (.tuple []) (some [.cells (ePc f), .cells [.bool true]]) := by
  refine funOK_of_vc (C := cx []) (good trivial) (fn := Tryd.f35) rfl rfl rfl rfl fun hw hs => ?_
  repeat' ((conv => whnf); first | with_reducible (first | refine go1 (fun j q h => ?_) fun h => ?_ | refine go2 ⟨rfl, rfl⟩ (fun h => ?_) fun j h => ?_ | refine go2 ?_ (fun h => ?_) fun j h => ?_ | refine goQ ?_ (fun h => ?_) fun h => ?_) | apply go3 | apply go4 | apply go5 | ((first | apply go6 | apply go7 | apply go8 | apply go9 | apply goA) <;> intro h) | with_reducible (first | refine IdxK.mk _ rfl ?_ | refine goB ?_ fun hc => ?_ | refine goC ?_ fun hc => ?_ | refine goD ?_ fun hc => ?_ | refine goE ?_ fun hc => ?_ | apply goF | apply goG | refine goH ?_ fun b hb => ?_) | apply goI | apply goJ | apply goK | apply goL | apply goM | apply goN | apply goO | with_reducible refine goP ?_)
  all_goals try conv => whnf
  all_goals try (refine Side.mk ?_; try dsimp only)
  all_goals (try simp only [Cu_eta] at *)
  all_goals first | refine stay ?_ | trivial | omega | (simp (discharger := omega) only [wR]; omega) | (simp only [lnS]; omega) | (simp (discharger := omega) [-List.getD_eq_getElem?_getD, wR] <;> omega) | skip
  refine EndP.mk [] ?_ <;> (repeat' first | trivial | rfl | exact eqS _ _ | apply andI | apply eqA | apply eqB | apply eqC | apply eqD | apply eqE | apply eqF | apply eqG | apply eqH | apply eqI)
def sm_pmLast2 : Sm := fun args σ => match args, σ with
  | [.agg [.int .i64 n_f, .int .i64 w_f, .int .u64 u_f, .str t_f], .ptr 0 0, .ptr 1 0], [.cells [.int .i64 q1, .int .i64 q2, .int .u64 q3, .str q4], .cells [.bool b]] => some (True ∧ (True), .tuple [], some [.cells (ePc (Pf.mk n_f w_f u_f t_f)), .cells [.bool true]])
  | _, _ => none
theorem k_pmLast2 : SOK 35 sm_pmLast2 := by
  intro args sg pre x r he hp
  unfold sm_pmLast2 at he
  split at he <;> cases he
  · rw [viewPf (hp).1]; exact f_pmLast2_1 (hp := hp.2) ..
theorem f_pmText1_1 (f : Pf) (s : List UInt8) (b : Bool) (hp : True) : OK 55 ([ePf f, .ptr 0 0, .ptr 1 0]) ([.cells [.str s], .cells [.bool b]]) (.tuple []) (some [.cells [.str f.text], .cells [.bool true]]) := by
  refine funOK_of_vc (C := cx []) (good trivial) (fn := Tryd.f55) rfl rfl rfl rfl fun hw hs => ?_
  repeat' ((conv => whnf); first | with_reducible (first | refine go1 (fun j q h => ?_) fun h => ?_ | refine go2 ⟨rfl, rfl⟩ (fun h => ?_) fun j h => ?_ | refine go2 ?_ (fun h => ?_) fun j h => ?_ | refine goQ ?_ (fun h => ?_) fun h => ?_) | apply go3 | apply go4 | apply go5 | ((first | apply go6 | apply go7 | apply go8 | apply go9 | apply goA) <;> intro h) | with_reducible (first | refine IdxK.mk _ rfl ?_ | refine goB ?_ fun hc => ?_ | refine goC ?_ fun hc => ?_ | refine goD ?_ fun hc => ?_ | refine goE ?_ fun hc => ?_ | apply goF | apply goG | refine goH ?_ fun b hb => ?_) | apply goI | apply goJ | apply goK | apply goL | apply goM | apply goN | apply goO | with_reducible refine goP ?_)
  all_goals try conv => whnf
  all_goals try (refine Side.mk ?_; try dsimp only)
  all_goals (try simp only [Cu_eta] at *)
  all_goals first | refine stay ?_ | trivial | omega | (simp (discharger := omega) only [wR]; omega) | (simp only [lnS]; omega) | (simp (discharger := omega) [-List.getD_eq_getElem?_getD, wR] <;> omega) | skip
  refine EndP.mk [] ?_ <;> (repeat' first | trivial | rfl | exact eqS _ _ | apply andI | apply eqA | apply eqB | apply eqC | apply eqD | apply eqE | apply eqF | apply eqG | apply eqH | apply eqI)
def sm_pmText1 : Sm := fun args σ => match args, σ with
  | [.agg [.int .i64 n_f, .int .i64 w_f, .int .u64 u_f, .str t_f], .ptr 0 0, .ptr 1 0], [.cells [.str s], .cells [.bool b]] => some (True ∧ (True), .tuple [], some [.cells [.str (Pf.mk n_f w_f u_f t_f).text], .cells [.bool true]])
  | _, _ => none
theorem k_pmText1 : SOK 55 sm_pmText1 := by
  intro args sg pre x r he hp
  unfold sm_pmText1 at he
  split at he <;> cases he
  · rw [viewPf (hp).1]; exact f_pmText1_1 (hp := hp.2) ..
theorem f_pmJoin1_1 (f : Pf) (l : List V) (b : Bool) (hp : l.length + f.text.length ≤ 4294967296) : OK 56 ([ePf f, .ptr 0 0, .ptr 1 0]) ([.cells [.buf 2], .cells [.bool b], .buf 1 0 l]) (.tuple []) (some [.cells [.buf 2], .cells [.bool true], .buf 1 0 (l ++ bl f.text)]) := by
  refine funOK_of_vc (C := cx []) (good trivial) (fn := Tryd.f56) rfl rfl rfl rfl fun hw hs => ?_
  repeat' ((conv => whnf); first | with_reducible (first | refine go1 (fun j q h => ?_) fun h => ?_ | refine go2 ⟨rfl, rfl⟩ (fun h => ?_) fun j h => ?_ | refine go2 ?_ (fun h => ?_) fun j h => ?_ | refine goQ ?_ (fun h => ?_) fun h => ?_) | apply go3 | apply go4 | apply go5 | ((first | apply go6 | apply go7 | apply go8 | apply go9 | apply goA) <;> intro h) | with_reducible (first | refine IdxK.mk _ rfl ?_ | refine goB ?_ fun hc => ?_ | refine goC ?_ fun hc => ?_ | refine goD ?_ fun hc => ?_ | refine goE ?_ fun hc => ?_ | apply goF | apply goG | refine goH ?_ fun b hb => ?_) | apply goI | apply goJ | apply goK | apply goL | apply goM | apply goN | apply goO | with_reducible refine goP ?_)
  all_goals try conv => whnf
  all_goals try (refine Side.mk ?_; try dsimp only)
  all_goals (try simp only [Cu_eta] at *)
  all_goals first | refine stay ?_ | trivial | omega | (simp (discharger := omega) only [wR]; omega) | (simp only [lnS]; omega) | (simp (discharger := omega) [-List.getD_eq_getElem?_getD, wR] <;> omega) | skip
  refine EndP.mk [] ?_ <;> (repeat' first | trivial | rfl | exact eqS _ _ | apply andI | apply eqA | apply eqB | apply eqC | apply eqD | apply eqE | apply eqF | apply eqG | apply eqH | apply eqI)
def sm_pmJoin1 : Sm := fun args σ => match args, σ with
  | [.agg [.int .i64 n_f, .int .i64 w_f, .int .u64 u_f, .str t_f], .ptr 0 0, .ptr 1 0], [.cells [.buf 2], .cells [.bool b], .buf 1 0 l] => some (True ∧ (l.length + (Pf.mk n_f w_f u_f t_f).text.length ≤ 4294967296), .tuple [], some [.cells [.buf 2], .cells [.bool true], .buf 1 0 (l ++ bl (Pf.mk n_f w_f u_f t_f).text)])
  | _, _ => none
theorem k_pmJoin1 : SOK 56 sm_pmJoin1 := by
  intro args sg pre x r he hp
  unfold sm_pmJoin1 at he
  split at he <;> cases he
  · rw [viewPf (hp).1]; exact f_pmJoin1_1 (hp := hp.2) ..
theorem f_pmEach1_1 (f : Pf) (l : List V) (hp : l.length + 1 ≤ 4294967296) : OK 52 ([ePf f, .ptr 0 0]) ([.cells [.buf 1], .buf 1 0 l]) (.tuple []) (some [.cells [.buf 1], .buf 1 0 (l ++ [.str f.text])]) := by
  refine funOK_of_vc (C := cx []) (good trivial) (fn := Tryd.f52) rfl rfl rfl rfl fun hw hs => ?_
  repeat' ((conv => whnf); first | with_reducible (first | refine go1 (fun j q h => ?_) fun h => ?_ | refine go2 ⟨rfl, rfl⟩ (fun h => ?_) fun j h => ?_ | refine go2 ?_ (fun h => ?_) fun j h => ?_ | refine goQ ?_ (fun h => ?_) fun h => ?_) | apply go3 | apply go4 | apply go5 | ((first | apply go6 | apply go7 | apply go8 | apply go9 | apply goA) <;> intro h) | with_reducible (first | refine IdxK.mk _ rfl ?_ | refine goB ?_ fun hc => ?_ | refine goC ?_ fun hc => ?_ | refine goD ?_ fun hc => ?_ | refine goE ?_ fun hc => ?_ | apply goF | apply goG | refine goH ?_ fun b hb => ?_) | apply goI | apply goJ | apply goK | apply goL | apply goM | apply goN | apply goO | with_reducible refine goP ?_)
  all_goals try conv => whnf
  all_goals try (refine Side.mk ?_; try dsimp only)
  all_goals (try simp only [Cu_eta] at *)
  all_goals first | refine stay ?_ | trivial | omega | (simp (discharger := omega) only [wR]; omega) | (simp only [lnS]; omega) | (simp (discharger := omega) [-List.getD_eq_getElem?_getD, wR] <;> omega) | skip
  refine EndP.mk [] ?_ <;> (repeat' first | trivial | rfl | exact eqS _ _ | apply andI | apply eqA | apply eqB | apply eqC | apply eqD | apply eqE | apply eqF | apply eqG | apply eqH | apply eqI)
def sm_pmEach1 : Sm := fun args σ => match args, σ with
  | [.agg [.int .i64 n_f, .int .i64 w_f, .int .u64 u_f, .str t_f], .ptr 0 0], [.cells [.buf 1], .buf 1 0 l] => some (True ∧ (l.length + 1 ≤ 4294967296), .tuple [], some [.cells [.buf 1], .buf 1 0 (l ++ [.str (Pf.mk n_f w_f u_f t_f).text])])
  | _, _ => none
theorem k_pmEach1 : SOK 52 sm_pmEach1 := by
  intro args sg pre x r he hp
  unfold sm_pmEach1 at he
  split at he <;> cases he
  · rw [viewPf (hp).1]; exact f_pmEach1_1 (hp := hp.2) ..
def selF (p : Pf → Bool) (l : List Pf) : List Pf := l.filter p
abbrev isF (n w : Int) (f : Pf) : Bool := f.no == n && f.wi == w
abbrev inT (tl : List Tg) (f : Pf) : Bool := decide ((f.no, f.wi) ∈ tl)
def lastF (l : List Pf) : Pf := l.getLastD default
def anyF (l : List Pf) : Bool := !l.isEmpty
def joinT (l : List Pf) : List UInt8 := (l.map Pf.text).flatten
abbrev textsF (l : List Pf) : List V := l.map fun f => .str f.text
theorem sel_step (p : Pf → Bool) {a : List Pf} {i : Nat} (h : i < a.length) : selF p (a.take (i + 1)) = if p (a.getD i default) = true then selF p (a.take i) ++ [a.getD i default] else selF p (a.take i) := by
  unfold selF
  rw [List.take_add_one, List.filter_append, List.getD_eq_getElem?_getD, List.getElem?_eq_getElem h]
  simp only [Option.toList_some, Option.getD_some, List.filter_cons, List.filter_nil]
  split <;> simp
theorem lastF_app (l : List Pf) (x : Pf) : lastF (l ++ [x]) = x := by unfold lastF; rw [List.getLastD_concat]
theorem anyF_app (l : List Pf) (x : Pf) : anyF (l ++ [x]) = true := by simp [anyF]
theorem joinT_app (l : List Pf) (x : Pf) : joinT (l ++ [x]) = joinT l ++ x.text := by simp [joinT]
theorem textsF_app (l : List Pf) (x : Pf) : textsF (l ++ [x]) = textsF l ++ [.str x.text] := by simp [textsF]
def shortF (a : List Pf) : Prop := ∀ f ∈ a, f.text.length ≤ 100000
theorem join_le : ∀ {l : List Pf}, shortF l → (joinT l).length ≤ l.length * 100000
  | [], _ => by simp [joinT]
  | f :: l, h => by
    have h1 := h f (List.mem_cons_self ..)
    have h2 := join_le (l := l) fun g hg => h g (List.mem_cons_of_mem _ hg)
    have e : joinT (f :: l) = f.text ++ joinT l := by simp [joinT]
    rw [e, List.length_append, List.length_cons]
    omega
theorem sel_short {p : Pf → Bool} {a : List Pf} (h : shortF a) (i : Nat) : shortF (selF p (a.take i)) ∧ (selF p (a.take i)).length ≤ i := by
  constructor
  · intro f hf
    exact h f (List.mem_of_mem_take (List.mem_filter.1 hf).1)
  · exact Nat.le_trans (List.length_filter_le ..) (by rw [List.length_take]; exact Nat.min_le_left _ _)
theorem short_get {a : List Pf} (h : shortF a) {i : Nat} (hi : i < a.length) : (a.getD i default).text.length ≤ 100000 := by
  refine h _ ?_
  rw [List.getD_eq_getElem?_getD, List.getElem?_eq_getElem hi]
  exact List.getElem_mem hi
theorem f_pmEach_1 (n w : Int) (s : List UInt8) (b : Bool) (l : List V) (hp : (∃ a : List Pf, l = a.map ePf ∧ shortF a) ∧ l.length ≤ 10000 ∧ s = [] ∧ b = false) : OK 32 ([.ptr 0 0, .func (.func 51) [.agg [.int .i64 n, .int .i64 w]] [], .func (.func 55) [] [.ptr 1 0, .ptr 2 0]]) ([.cells [.buf 3], .cells [.str s], .cells [.bool b], .buf 4 0 l]) (.tuple []) (some [.cells [.buf 3], .cells [.str (lastF (selF (isF n w) (l.map dePf))).text], .cells [.bool (anyF (selF (isF n w) (l.map dePf)))], .buf 4 0 l, .dead]) := by
  refine funOK_of_vc (C := cx [(51, sm_pmAsks), (55, sm_pmText1), (56, sm_pmJoin1), (52, sm_pmEach1), (33, sm_pmLast1), (35, sm_pmLast2)]) (good ⟨k_pmAsks, k_pmText1, k_pmJoin1, k_pmEach1, k_pmLast1, k_pmLast2, trivial⟩) (fn := Tryd.f32) rfl rfl rfl rfl fun hw hs => ?_
  obtain ⟨⟨a, rfl, ha⟩, hl, rfl, rfl⟩ := hp
  simp only [dePf_map]
  have hml : (a.map ePf).length = a.length := List.length_map ..
  repeat' ((conv => whnf); first | with_reducible (first | refine go1 (fun j q h => ?_) fun h => ?_ | refine go2 ⟨rfl, rfl⟩ (fun h => ?_) fun j h => ?_ | refine go2 ?_ (fun h => ?_) fun j h => ?_ | refine goQ ?_ (fun h => ?_) fun h => ?_) | apply go3 | apply go4 | apply go5 | ((first | apply go6 | apply go7 | apply go8 | apply go9 | apply goA) <;> intro h) | with_reducible (first | refine IdxK.mk _ rfl ?_ | refine goB ?_ fun hc => ?_ | refine goC ?_ fun hc => ?_ | refine goD ?_ fun hc => ?_ | refine goE ?_ fun hc => ?_ | apply goF | apply goG | refine goH ?_ fun b hb => ?_) | apply goI | apply goJ | apply goK | apply goL | apply goM | apply goN | apply goO | with_reducible refine goP ?_)
  all_goals try conv => whnf
  all_goals try (refine Side.mk ?_; try dsimp only)
  refine LoopP.mk Nat (fun i => i ≤ a.length) (fun i => ⟨26, [(0, .ptr 0 0), (1, .func (.func 51) [.agg [.int .i64 n, .int .i64 w]] []), (2, .func (.func 55) [] [.ptr 1 0, .ptr 2 0]), (13, .buf 3), (14, .int .i64 a.length), (15, .int .i64 i)], [.cells [.buf 3], .cells [.str (lastF (selF (isF n w) (a.take i))).text], .cells [.bool (anyF (selF (isF n w) (a.take i)))], .buf 4 0 (a.map ePf)], []⟩) (fun i => a.length - i) [] 0 (Nat.zero_le _) ?_ (fun i hi _ _ => ?_)
  · refine Go.VG.Sub.mk rfl ?_ ?_ ?_ ?_ <;> (repeat' first | trivial | rfl | exact eqS _ _ | apply andI | apply eqA | apply eqB | apply eqC | apply eqD | apply eqE | apply eqF | apply eqG | apply eqH | apply eqI)
    all_goals (first | rfl | simp [selF, lastF, anyF, joinT, textsF, bl]; done | rw [hml])
  have hst := fun h => sel_step (isF n w) (a := a) (i := i) h
  have hsh := sel_short (p := isF n w) ha i
  have hjo := join_le hsh.1
  have hge := fun h => short_get ha (i := i) h
  repeat' ((conv => whnf); first | with_reducible (first | refine go1 (fun j q h => ?_) fun h => ?_ | refine go2 ⟨rfl, rfl⟩ (fun h => ?_) fun j h => ?_ | refine go2 ?_ (fun h => ?_) fun j h => ?_ | refine goQ ?_ (fun h => ?_) fun h => ?_) | apply go3 | apply go4 | apply go5 | ((first | apply go6 | apply go7 | apply go8 | apply go9 | apply goA) <;> intro h) | with_reducible (first | refine IdxK.mk _ rfl ?_ | refine goB ?_ fun hc => ?_ | refine goC ?_ fun hc => ?_ | refine goD ?_ fun hc => ?_ | refine goE ?_ fun hc => ?_ | apply goF | apply goG | refine goH ?_ fun b hb => ?_) | apply goI | apply goJ | apply goK | apply goL | apply goM | apply goN | apply goO | with_reducible refine goP ?_)
  all_goals try conv => whnf
  all_goals try (refine Side.mk ?_; try dsimp only)
  all_goals (try simp only [Cu_eta] at *)
  all_goals first | refine stay ?_ | trivial | omega | (simp (discharger := omega) only [wR]; omega) | (simp only [lnS]; omega) | (simp (discharger := omega) [-List.getD_eq_getElem?_getD, wR] <;> omega) | skip
  all_goals (try simp only [bl_length, textsF, List.length_map, deTg_map] at *)
  all_goals first
    | (exact ⟨trivial, by have := hge (by omega); omega⟩)
    | (exact ⟨trivial, by omega⟩)
    | exact ⟨⟨_, rfl⟩, by omega⟩
    | (show EndP _ _ _ _ _ _
       obtain rfl : i = a.length := by omega
       simp only [List.take_length]
       refine EndP.mk [.nw] ?_ <;> (repeat' first | trivial | rfl | exact eqS _ _ | apply andI | apply eqA | apply eqB | apply eqC | apply eqD | apply eqE | apply eqF | apply eqG | apply eqH | apply eqI)
       done)
    | (have hst := hst (by omega)
       first
       | rw [if_pos (by assumption)] at hst
       | rw [if_pos (decide_eq_true (by assumption))] at hst
       | rw [if_neg (fun q => absurd (of_decide_eq_true q) (by assumption))] at hst
       | rw [if_neg (Bool.eq_false_iff.mp (by assumption))] at hst
       refine ⟨[], i + 1, by omega, ?_, by omega⟩
       refine Go.VG.Sub.mk rfl ?_ ?_ ?_ ?_ <;> (repeat' first | trivial | rfl | exact eqS _ _ | apply andI | apply eqA | apply eqB | apply eqC | apply eqD | apply eqE | apply eqF | apply eqG | apply eqH | apply eqI)
       all_goals (first
         | ((first | omega | (simp (discharger := omega) only [wR]; omega) | (simp only [lnS]; omega) | (simp (discharger := omega) [-List.getD_eq_getElem?_getD, wR] <;> omega)); done)
         | (rw [hst]; done)
         | (simp only [hst, lastF_app, anyF_app, joinT_app, textsF_app, bl_append, textsF, List.map_append, List.map_cons, List.map_nil]; done)
         | (simp only [hst, lastF_app, anyF_app, joinT_app, textsF_app, bl_append, textsF, List.map_append, List.map_cons, List.map_nil]; rfl))
       done)
theorem f_pmEach_2 (n w : Int) (z : Nat) (b : Bool) (l : List V) (hp : (∃ a : List Pf, l = a.map ePf ∧ shortF a) ∧ l.length ≤ 10000 ∧ b = false) : OK 32 ([.ptr 0 0, .func (.func 51) [.agg [.int .i64 n, .int .i64 w]] [], .func (.func 56) [] [.ptr 1 0, .ptr 2 0]]) ([.cells [.buf 3], .cells [.list true z []], .cells [.bool b], .buf 4 0 l]) (.tuple []) (some [.cells [.buf 3], .cells [.buf 4], .cells [.bool (anyF (selF (isF n w) (l.map dePf)))], .buf 4 0 l, .buf 1 0 (bl (joinT (selF (isF n w) (l.map dePf)))), .dead]) := by
  refine funOK_of_vc (C := cx [(51, sm_pmAsks), (55, sm_pmText1), (56, sm_pmJoin1), (52, sm_pmEach1), (33, sm_pmLast1), (35, sm_pmLast2)]) (good ⟨k_pmAsks, k_pmText1, k_pmJoin1, k_pmEach1, k_pmLast1, k_pmLast2, trivial⟩) (fn := Tryd.f32) rfl rfl rfl rfl fun hw hs => ?_
  obtain ⟨⟨a, rfl, ha⟩, hl, rfl⟩ := hp
  simp only [dePf_map]
  have hml : (a.map ePf).length = a.length := List.length_map ..
  repeat' ((conv => whnf); first | with_reducible (first | refine go1 (fun j q h => ?_) fun h => ?_ | refine go2 ⟨rfl, rfl⟩ (fun h => ?_) fun j h => ?_ | refine go2 ?_ (fun h => ?_) fun j h => ?_ | refine goQ ?_ (fun h => ?_) fun h => ?_) | apply go3 | apply go4 | apply go5 | ((first | apply go6 | apply go7 | apply go8 | apply go9 | apply goA) <;> intro h) | with_reducible (first | refine IdxK.mk _ rfl ?_ | refine goB ?_ fun hc => ?_ | refine goC ?_ fun hc => ?_ | refine goD ?_ fun hc => ?_ | refine goE ?_ fun hc => ?_ | apply goF | apply goG | refine goH ?_ fun b hb => ?_) | apply goI | apply goJ | apply goK | apply goL | apply goM | apply goN | apply goO | with_reducible refine goP ?_)
  all_goals try conv => whnf
  all_goals try (refine Side.mk ?_; try dsimp only)
  refine LoopP.mk Nat (fun i => i ≤ a.length) (fun i => ⟨26, [(0, .ptr 0 0), (1, .func (.func 51) [.agg [.int .i64 n, .int .i64 w]] []), (2, .func (.func 56) [] [.ptr 1 0, .ptr 2 0]), (13, .buf 3), (14, .int .i64 a.length), (15, .int .i64 i)], [.cells [.buf 3], .cells [.buf 4], .cells [.bool (anyF (selF (isF n w) (a.take i)))], .buf 4 0 (a.map ePf), .buf 1 0 (bl (joinT (selF (isF n w) (a.take i))))], [4]⟩) (fun i => a.length - i) [.cell 1 0 1] 0 (Nat.zero_le _) ?_ (fun i hi _ _ => ?_)
  · refine Go.VG.Sub.mk rfl ?_ ?_ ?_ ?_ <;> (repeat' first | trivial | rfl | exact eqS _ _ | apply andI | apply eqA | apply eqB | apply eqC | apply eqD | apply eqE | apply eqF | apply eqG | apply eqH | apply eqI)
    all_goals (first | rfl | simp [selF, lastF, anyF, joinT, textsF, bl]; done | rw [hml])
  have hst := fun h => sel_step (isF n w) (a := a) (i := i) h
  have hsh := sel_short (p := isF n w) ha i
  have hjo := join_le hsh.1
  have hge := fun h => short_get ha (i := i) h
  repeat' ((conv => whnf); first | with_reducible (first | refine go1 (fun j q h => ?_) fun h => ?_ | refine go2 ⟨rfl, rfl⟩ (fun h => ?_) fun j h => ?_ | refine go2 ?_ (fun h => ?_) fun j h => ?_ | refine goQ ?_ (fun h => ?_) fun h => ?_) | apply go3 | apply go4 | apply go5 | ((first | apply go6 | apply go7 | apply go8 | apply go9 | apply goA) <;> intro h) | with_reducible (first | refine IdxK.mk _ rfl ?_ | refine goB ?_ fun hc => ?_ | refine goC ?_ fun hc => ?_ | refine goD ?_ fun hc => ?_ | refine goE ?_ fun hc => ?_ | apply goF | apply goG | refine goH ?_ fun b hb => ?_) | apply goI | apply goJ | apply goK | apply goL | apply goM | apply goN | apply goO | with_reducible refine goP ?_)
  all_goals try conv => whnf
  all_goals try (refine Side.mk ?_; try dsimp only)
  all_goals (try simp only [Cu_eta] at *)
  all_goals first | refine stay ?_ | trivial | omega | (simp (discharger := omega) only [wR]; omega) | (simp only [lnS]; omega) | (simp (discharger := omega) [-List.getD_eq_getElem?_getD, wR] <;> omega) | skip
  all_goals (try simp only [bl_length, textsF, List.length_map, deTg_map] at *)
  all_goals first
    | (exact ⟨trivial, by have := hge (by omega); omega⟩)
    | (exact ⟨trivial, by omega⟩)
    | exact ⟨⟨_, rfl⟩, by omega⟩
    | (show EndP _ _ _ _ _ _
       obtain rfl : i = a.length := by omega
       simp only [List.take_length]
       refine EndP.mk [.nw] ?_ <;> (repeat' first | trivial | rfl | exact eqS _ _ | apply andI | apply eqA | apply eqB | apply eqC | apply eqD | apply eqE | apply eqF | apply eqG | apply eqH | apply eqI)
       done)
    | (have hst := hst (by omega)
       first
       | rw [if_pos (by assumption)] at hst
       | rw [if_pos (decide_eq_true (by assumption))] at hst
       | rw [if_neg (fun q => absurd (of_decide_eq_true q) (by assumption))] at hst
       | rw [if_neg (Bool.eq_false_iff.mp (by assumption))] at hst
       refine ⟨[], i + 1, by omega, ?_, by omega⟩
       refine Go.VG.Sub.mk rfl ?_ ?_ ?_ ?_ <;> (repeat' first | trivial | rfl | exact eqS _ _ | apply andI | apply eqA | apply eqB | apply eqC | apply eqD | apply eqE | apply eqF | apply eqG | apply eqH | apply eqI)
       all_goals (first
         | ((first | omega | (simp (discharger := omega) only [wR]; omega) | (simp only [lnS]; omega) | (simp (discharger := omega) [-List.getD_eq_getElem?_getD, wR] <;> omega)); done)
         | (rw [hst]; done)
         | (simp only [hst, lastF_app, anyF_app, joinT_app, textsF_app, bl_append, textsF, List.map_append, List.map_cons, List.map_nil]; done)
         | (simp only [hst, lastF_app, anyF_app, joinT_app, textsF_app, bl_append, textsF, List.map_append, List.map_cons, List.map_nil]; rfl))
       done)
theorem f_pmEach_3 (n w : Int) (z : Nat) (l : List V) (hp : (∃ a : List Pf, l = a.map ePf ∧ shortF a) ∧ l.length ≤ 10000) : OK 32 ([.ptr 0 0, .func (.func 51) [.agg [.int .i64 n, .int .i64 w]] [], .func (.func 52) [] [.ptr 1 0]]) ([.cells [.buf 2], .cells [.list true z []], .buf 4 0 l]) (.tuple []) (some [.cells [.buf 2], .cells [.buf 3], .buf 4 0 l, .buf 1 0 (textsF (selF (isF n w) (l.map dePf))), .dead]) := by
  refine funOK_of_vc (C := cx [(51, sm_pmAsks), (55, sm_pmText1), (56, sm_pmJoin1), (52, sm_pmEach1), (33, sm_pmLast1), (35, sm_pmLast2)]) (good ⟨k_pmAsks, k_pmText1, k_pmJoin1, k_pmEach1, k_pmLast1, k_pmLast2, trivial⟩) (fn := Tryd.f32) rfl rfl rfl rfl fun hw hs => ?_
  obtain ⟨⟨a, rfl, ha⟩, hl⟩ := hp
  simp only [dePf_map]
  have hml : (a.map ePf).length = a.length := List.length_map ..
  repeat' ((conv => whnf); first | with_reducible (first | refine go1 (fun j q h => ?_) fun h => ?_ | refine go2 ⟨rfl, rfl⟩ (fun h => ?_) fun j h => ?_ | refine go2 ?_ (fun h => ?_) fun j h => ?_ | refine goQ ?_ (fun h => ?_) fun h => ?_) | apply go3 | apply go4 | apply go5 | ((first | apply go6 | apply go7 | apply go8 | apply go9 | apply goA) <;> intro h) | with_reducible (first | refine IdxK.mk _ rfl ?_ | refine goB ?_ fun hc => ?_ | refine goC ?_ fun hc => ?_ | refine goD ?_ fun hc => ?_ | refine goE ?_ fun hc => ?_ | apply goF | apply goG | refine goH ?_ fun b hb => ?_) | apply goI | apply goJ | apply goK | apply goL | apply goM | apply goN | apply goO | with_reducible refine goP ?_)
  all_goals try conv => whnf
  all_goals try (refine Side.mk ?_; try dsimp only)
  refine LoopP.mk Nat (fun i => i ≤ a.length) (fun i => ⟨26, [(0, .ptr 0 0), (1, .func (.func 51) [.agg [.int .i64 n, .int .i64 w]] []), (2, .func (.func 52) [] [.ptr 1 0]), (13, .buf 2), (14, .int .i64 a.length), (15, .int .i64 i)], [.cells [.buf 2], .cells [.buf 3], .buf 4 0 (a.map ePf), .buf 1 0 (textsF (selF (isF n w) (a.take i)))], [3]⟩) (fun i => a.length - i) [.cell 1 0 1] 0 (Nat.zero_le _) ?_ (fun i hi _ _ => ?_)
  · refine Go.VG.Sub.mk rfl ?_ ?_ ?_ ?_ <;> (repeat' first | trivial | rfl | exact eqS _ _ | apply andI | apply eqA | apply eqB | apply eqC | apply eqD | apply eqE | apply eqF | apply eqG | apply eqH | apply eqI)
    all_goals (first | rfl | simp [selF, lastF, anyF, joinT, textsF, bl]; done | rw [hml])
  have hst := fun h => sel_step (isF n w) (a := a) (i := i) h
  have hsh := sel_short (p := isF n w) ha i
  have hjo := join_le hsh.1
  have hge := fun h => short_get ha (i := i) h
  repeat' ((conv => whnf); first | with_reducible (first | refine go1 (fun j q h => ?_) fun h => ?_ | refine go2 ⟨rfl, rfl⟩ (fun h => ?_) fun j h => ?_ | refine go2 ?_ (fun h => ?_) fun j h => ?_ | refine goQ ?_ (fun h => ?_) fun h => ?_) | apply go3 | apply go4 | apply go5 | ((first | apply go6 | apply go7 | apply go8 | apply go9 | apply goA) <;> intro h) | with_reducible (first | refine IdxK.mk _ rfl ?_ | refine goB ?_ fun hc => ?_ | refine goC ?_ fun hc => ?_ | refine goD ?_ fun hc => ?_ | refine goE ?_ fun hc => ?_ | apply goF | apply goG | refine goH ?_ fun b hb => ?_) | apply goI | apply goJ | apply goK | apply goL | apply goM | apply goN | apply goO | with_reducible refine goP ?_)
  all_goals try conv => whnf
  all_goals try (refine Side.mk ?_; try dsimp only)
  all_goals (try simp only [Cu_eta] at *)
  all_goals first | refine stay ?_ | trivial | omega | (simp (discharger := omega) only [wR]; omega) | (simp only [lnS]; omega) | (simp (discharger := omega) [-List.getD_eq_getElem?_getD, wR] <;> omega) | skip
  all_goals (try simp only [bl_length, textsF, List.length_map, deTg_map] at *)
  all_goals first
    | (exact ⟨trivial, by have := hge (by omega); omega⟩)
    | (exact ⟨trivial, by omega⟩)
    | exact ⟨⟨_, rfl⟩, by omega⟩
    | (show EndP _ _ _ _ _ _
       obtain rfl : i = a.length := by omega
       simp only [List.take_length]
       refine EndP.mk [.nw] ?_ <;> (repeat' first | trivial | rfl | exact eqS _ _ | apply andI | apply eqA | apply eqB | apply eqC | apply eqD | apply eqE | apply eqF | apply eqG | apply eqH | apply eqI)
       done)
    | (have hst := hst (by omega)
       first
       | rw [if_pos (by assumption)] at hst
       | rw [if_pos (decide_eq_true (by assumption))] at hst
       | rw [if_neg (fun q => absurd (of_decide_eq_true q) (by assumption))] at hst
       | rw [if_neg (Bool.eq_false_iff.mp (by assumption))] at hst
       refine ⟨[], i + 1, by omega, ?_, by omega⟩
       refine Go.VG.Sub.mk rfl ?_ ?_ ?_ ?_ <;> (repeat' first | trivial | rfl | exact eqS _ _ | apply andI | apply eqA | apply eqB | apply eqC | apply eqD | apply eqE | apply eqF | apply eqG | apply eqH | apply eqI)
       all_goals (first
         | ((first | omega | (simp (discharger := omega) only [wR]; omega) | (simp only [lnS]; omega) | (simp (discharger := omega) [-List.getD_eq_getElem?_getD, wR] <;> omega)); done)
         | (rw [hst]; done)
         | (simp only [hst, lastF_app, anyF_app, joinT_app, textsF_app, bl_append, textsF, List.map_append, List.map_cons, List.map_nil]; done)
         | (simp only [hst, lastF_app, anyF_app, joinT_app, textsF_app, bl_append, textsF, List.map_append, List.map_cons, List.map_nil]; rfl))
       done)
theorem f_pmEach_4 (n w u : Int) (s : List UInt8) (b : Bool) (tl : List V) (l : List V) (hp : (∃ a : List Pf, l = a.map ePf ∧ shortF a) ∧ l.length ≤ 10000 ∧ n = 0 ∧ w = 0 ∧ u = 0 ∧ s = [] ∧ b = false ∧ (∃ T : List Tg, tl = T.map eTg) ∧ tl.length ≤ 10000) : OK 32 ([.ptr 0 0, .func (.func 33) [] [.ptr 1 0], .func (.func 35) [] [.ptr 2 0, .ptr 3 0]]) ([.cells [.buf 4], .cells [.buf 5], .cells [.int .i64 n, .int .i64 w, .int .u64 u, .str s], .cells [.bool b], .buf 4 0 l, .buf 2 0 tl]) (.tuple []) (some [.cells [.buf 4], .cells [.buf 5], .cells (ePc (lastF (selF (inT (tl.map deTg)) (l.map dePf)))), .cells [.bool (anyF (selF (inT (tl.map deTg)) (l.map dePf)))], .buf 4 0 l, .buf 2 0 tl, .dead]) := by
  refine funOK_of_vc (C := cx [(51, sm_pmAsks), (55, sm_pmText1), (56, sm_pmJoin1), (52, sm_pmEach1), (33, sm_pmLast1), (35, sm_pmLast2)]) (good ⟨k_pmAsks, k_pmText1, k_pmJoin1, k_pmEach1, k_pmLast1, k_pmLast2, trivial⟩) (fn := Tryd.f32) rfl rfl rfl rfl fun hw hs => ?_
  obtain ⟨⟨a, rfl, ha⟩, hl, rfl, rfl, rfl, rfl, rfl, ⟨T, rfl⟩, hT⟩ := hp
  simp only [deTg_map]
  have hmt : (T.map eTg).length = T.length := List.length_map ..
  simp only [dePf_map]
  have hml : (a.map ePf).length = a.length := List.length_map ..
  repeat' ((conv => whnf); first | with_reducible (first | refine go1 (fun j q h => ?_) fun h => ?_ | refine go2 ⟨rfl, rfl⟩ (fun h => ?_) fun j h => ?_ | refine go2 ?_ (fun h => ?_) fun j h => ?_ | refine goQ ?_ (fun h => ?_) fun h => ?_) | apply go3 | apply go4 | apply go5 | ((first | apply go6 | apply go7 | apply go8 | apply go9 | apply goA) <;> intro h) | with_reducible (first | refine IdxK.mk _ rfl ?_ | refine goB ?_ fun hc => ?_ | refine goC ?_ fun hc => ?_ | refine goD ?_ fun hc => ?_ | refine goE ?_ fun hc => ?_ | apply goF | apply goG | refine goH ?_ fun b hb => ?_) | apply goI | apply goJ | apply goK | apply goL | apply goM | apply goN | apply goO | with_reducible refine goP ?_)
  all_goals try conv => whnf
  all_goals try (refine Side.mk ?_; try dsimp only)
  refine LoopP.mk Nat (fun i => i ≤ a.length) (fun i => ⟨26, [(0, .ptr 0 0), (1, .func (.func 33) [] [.ptr 1 0]), (2, .func (.func 35) [] [.ptr 2 0, .ptr 3 0]), (13, .buf 4), (14, .int .i64 a.length), (15, .int .i64 i)], [.cells [.buf 4], .cells [.buf 5], .cells (ePc (lastF (selF (inT T) (a.take i)))), .cells [.bool (anyF (selF (inT T) (a.take i)))], .buf 4 0 (a.map ePf), .buf 2 0 (T.map eTg)], []⟩) (fun i => a.length - i) [] 0 (Nat.zero_le _) ?_ (fun i hi _ _ => ?_)
  · refine Go.VG.Sub.mk rfl ?_ ?_ ?_ ?_ <;> (repeat' first | trivial | rfl | exact eqS _ _ | apply andI | apply eqA | apply eqB | apply eqC | apply eqD | apply eqE | apply eqF | apply eqG | apply eqH | apply eqI)
    all_goals (first | rfl | simp [selF, lastF, anyF, joinT, textsF, bl]; done | rw [hml])
  have hst := fun h => sel_step (inT T) (a := a) (i := i) h
  have hsh := sel_short (p := inT T) ha i
  have hjo := join_le hsh.1
  have hge := fun h => short_get ha (i := i) h
  repeat' ((conv => whnf); first | with_reducible (first | refine go1 (fun j q h => ?_) fun h => ?_ | refine go2 ⟨rfl, rfl⟩ (fun h => ?_) fun j h => ?_ | refine go2 ?_ (fun h => ?_) fun j h => ?_ | refine goQ ?_ (fun h => ?_) fun h => ?_) | apply go3 | apply go4 | apply go5 | ((first | apply go6 | apply go7 | apply go8 | apply go9 | apply goA) <;> intro h) | with_reducible (first | refine IdxK.mk _ rfl ?_ | refine goB ?_ fun hc => ?_ | refine goC ?_ fun hc => ?_ | refine goD ?_ fun hc => ?_ | refine goE ?_ fun hc => ?_ | apply goF | apply goG | refine goH ?_ fun b hb => ?_) | apply goI | apply goJ | apply goK | apply goL | apply goM | apply goN | apply goO | with_reducible refine goP ?_)
  all_goals try conv => whnf
  all_goals try (refine Side.mk ?_; try dsimp only)
  all_goals (try simp only [Cu_eta] at *)
  all_goals first | refine stay ?_ | trivial | omega | (simp (discharger := omega) only [wR]; omega) | (simp only [lnS]; omega) | (simp (discharger := omega) [-List.getD_eq_getElem?_getD, wR] <;> omega) | skip
  all_goals (try simp only [bl_length, textsF, List.length_map, deTg_map] at *)
  all_goals first
    | (exact ⟨trivial, by have := hge (by omega); omega⟩)
    | (exact ⟨trivial, by omega⟩)
    | exact ⟨⟨_, rfl⟩, by omega⟩
    | exact ⟨trivial, ⟨_, rfl⟩, by omega⟩
    | (show EndP _ _ _ _ _ _
       obtain rfl : i = a.length := by omega
       simp only [List.take_length]
       refine EndP.mk [.nw] ?_ <;> (repeat' first | trivial | rfl | exact eqS _ _ | apply andI | apply eqA | apply eqB | apply eqC | apply eqD | apply eqE | apply eqF | apply eqG | apply eqH | apply eqI)
       done)
    | (have hst := hst (by omega)
       first
       | rw [if_pos (by assumption)] at hst
       | rw [if_pos (decide_eq_true (by assumption))] at hst
       | rw [if_neg (fun q => absurd (of_decide_eq_true q) (by assumption))] at hst
       | rw [if_neg (Bool.eq_false_iff.mp (by assumption))] at hst
       refine ⟨[], i + 1, by omega, ?_, by omega⟩
       refine Go.VG.Sub.mk rfl ?_ ?_ ?_ ?_ <;> (repeat' first | trivial | rfl | exact eqS _ _ | apply andI | apply eqA | apply eqB | apply eqC | apply eqD | apply eqE | apply eqF | apply eqG | apply eqH | apply eqI)
       all_goals (first
         | ((first | omega | (simp (discharger := omega) only [wR]; omega) | (simp only [lnS]; omega) | (simp (discharger := omega) [-List.getD_eq_getElem?_getD, wR] <;> omega)); done)
         | (rw [hst]; done)
         | (simp only [hst, lastF_app, anyF_app, joinT_app, textsF_app, bl_append, textsF, List.map_append, List.map_cons, List.map_nil]; done)
         | (simp only [hst, lastF_app, anyF_app, joinT_app, textsF_app, bl_append, textsF, List.map_append, List.map_cons, List.map_nil]; rfl))
       done)
theorem f_pmEach_5 (x : V) (g : Fn) (z : Nat) (hp : True) : OK 32 ([.nilptr, x, .func g [] [.ptr 0 0]]) ([.cells [.list true z []]]) (.tuple []) (none) := by
  refine funOK_of_vc (C := cx [(51, sm_pmAsks), (55, sm_pmText1), (56, sm_pmJoin1), (52, sm_pmEach1), (33, sm_pmLast1), (35, sm_pmLast2)]) (good ⟨k_pmAsks, k_pmText1, k_pmJoin1, k_pmEach1, k_pmLast1, k_pmLast2, trivial⟩) (fn := Tryd.f32) rfl rfl rfl rfl fun hw hs => ?_
  repeat' ((conv => whnf); first | with_reducible (first | refine go1 (fun j q h => ?_) fun h => ?_ | refine go2 ⟨rfl, rfl⟩ (fun h => ?_) fun j h => ?_ | refine go2 ?_ (fun h => ?_) fun j h => ?_ | refine goQ ?_ (fun h => ?_) fun h => ?_) | apply go3 | apply go4 | apply go5 | ((first | apply go6 | apply go7 | apply go8 | apply go9 | apply goA) <;> intro h) | with_reducible (first | refine IdxK.mk _ rfl ?_ | refine goB ?_ fun hc => ?_ | refine goC ?_ fun hc => ?_ | refine goD ?_ fun hc => ?_ | refine goE ?_ fun hc => ?_ | apply goF | apply goG | refine goH ?_ fun b hb => ?_) | apply goI | apply goJ | apply goK | apply goL | apply goM | apply goN | apply goO | with_reducible refine goP ?_)
  all_goals try conv => whnf
  all_goals try (refine Side.mk ?_; try dsimp only)
  all_goals (try simp only [Cu_eta] at *)
  all_goals first | refine stay ?_ | trivial | omega | (simp (discharger := omega) only [wR]; omega) | (simp only [lnS]; omega) | (simp (discharger := omega) [-List.getD_eq_getElem?_getD, wR] <;> omega) | skip
  refine EndP.mk [] ?_ <;> (repeat' first | trivial | rfl | exact eqS _ _ | apply andI | apply eqA | apply eqB | apply eqC | apply eqD | apply eqE | apply eqF | apply eqG | apply eqH | apply eqI)
theorem f_pmEach_6 (x : V) (u : Int) (z : Bool) (g : Fn) (hp : True) : OK 32 ([.nilptr, x, .func g [] [.ptr 0 0, .ptr 1 0]]) ([.cells [.int .u64 u], .cells [.bool z]]) (.tuple []) (none) := by
  refine funOK_of_vc (C := cx [(51, sm_pmAsks), (55, sm_pmText1), (56, sm_pmJoin1), (52, sm_pmEach1), (33, sm_pmLast1), (35, sm_pmLast2)]) (good ⟨k_pmAsks, k_pmText1, k_pmJoin1, k_pmEach1, k_pmLast1, k_pmLast2, trivial⟩) (fn := Tryd.f32) rfl rfl rfl rfl fun hw hs => ?_
  repeat' ((conv => whnf); first | with_reducible (first | refine go1 (fun j q h => ?_) fun h => ?_ | refine go2 ⟨rfl, rfl⟩ (fun h => ?_) fun j h => ?_ | refine go2 ?_ (fun h => ?_) fun j h => ?_ | refine goQ ?_ (fun h => ?_) fun h => ?_) | apply go3 | apply go4 | apply go5 | ((first | apply go6 | apply go7 | apply go8 | apply go9 | apply goA) <;> intro h) | with_reducible (first | refine IdxK.mk _ rfl ?_ | refine goB ?_ fun hc => ?_ | refine goC ?_ fun hc => ?_ | refine goD ?_ fun hc => ?_ | refine goE ?_ fun hc => ?_ | apply goF | apply goG | refine goH ?_ fun b hb => ?_) | apply goI | apply goJ | apply goK | apply goL | apply goM | apply goN | apply goO | with_reducible refine goP ?_)
  all_goals try conv => whnf
  all_goals try (refine Side.mk ?_; try dsimp only)
  all_goals (try simp only [Cu_eta] at *)
  all_goals first | refine stay ?_ | trivial | omega | (simp (discharger := omega) only [wR]; omega) | (simp only [lnS]; omega) | (simp (discharger := omega) [-List.getD_eq_getElem?_getD, wR] <;> omega) | skip
  refine EndP.mk [] ?_ <;> (repeat' first | trivial | rfl | exact eqS _ _ | apply andI | apply eqA | apply eqB | apply eqC | apply eqD | apply eqE | apply eqF | apply eqG | apply eqH | apply eqI)
theorem f_pmEach_7 (x : V) (u : List UInt8) (z : Bool) (g : Fn) (hp : True) : OK 32 ([.nilptr, x, .func g [] [.ptr 0 0, .ptr 1 0]]) ([.cells [.str u], .cells [.bool z]]) (.tuple []) (none) := by
  refine funOK_of_vc (C := cx [(51, sm_pmAsks), (55, sm_pmText1), (56, sm_pmJoin1), (52, sm_pmEach1), (33, sm_pmLast1), (35, sm_pmLast2)]) (good ⟨k_pmAsks, k_pmText1, k_pmJoin1, k_pmEach1, k_pmLast1, k_pmLast2, trivial⟩) (fn := Tryd.f32) rfl rfl rfl rfl fun hw hs => ?_
  repeat' ((conv => whnf); first | with_reducible (first | refine go1 (fun j q h => ?_) fun h => ?_ | refine go2 ⟨rfl, rfl⟩ (fun h => ?_) fun j h => ?_ | refine go2 ?_ (fun h => ?_) fun j h => ?_ | refine goQ ?_ (fun h => ?_) fun h => ?_) | apply go3 | apply go4 | apply go5 | ((first | apply go6 | apply go7 | apply go8 | apply go9 | apply goA) <;> intro h) | with_reducible (first | refine IdxK.mk _ rfl ?_ | refine goB ?_ fun hc => ?_ | refine goC ?_ fun hc => ?_ | refine goD ?_ fun hc => ?_ | refine goE ?_ fun hc => ?_ | apply goF | apply goG | refine goH ?_ fun b hb => ?_) | apply goI | apply goJ | apply goK | apply goL | apply goM | apply goN | apply goO | with_reducible refine goP ?_)
  all_goals try conv => whnf
  all_goals try (refine Side.mk ?_; try dsimp only)
  all_goals (try simp only [Cu_eta] at *)
  all_goals first | refine stay ?_ | trivial | omega | (simp (discharger := omega) only [wR]; omega) | (simp only [lnS]; omega) | (simp (discharger := omega) [-List.getD_eq_getElem?_getD, wR] <;> omega) | skip
  refine EndP.mk [] ?_ <;> (repeat' first | trivial | rfl | exact eqS _ _ | apply andI | apply eqA | apply eqB | apply eqC | apply eqD | apply eqE | apply eqF | apply eqG | apply eqH | apply eqI)
theorem f_pmEach_8 (x : V) (u : Nat) (z : Bool) (g : Fn) (hp : True) : OK 32 ([.nilptr, x, .func g [] [.ptr 0 0, .ptr 1 0]]) ([.cells [.list true u []], .cells [.bool z]]) (.tuple []) (none) := by
  refine funOK_of_vc (C := cx [(51, sm_pmAsks), (55, sm_pmText1), (56, sm_pmJoin1), (52, sm_pmEach1), (33, sm_pmLast1), (35, sm_pmLast2)]) (good ⟨k_pmAsks, k_pmText1, k_pmJoin1, k_pmEach1, k_pmLast1, k_pmLast2, trivial⟩) (fn := Tryd.f32) rfl rfl rfl rfl fun hw hs => ?_
  repeat' ((conv => whnf); first | with_reducible (first | refine go1 (fun j q h => ?_) fun h => ?_ | refine go2 ⟨rfl, rfl⟩ (fun h => ?_) fun j h => ?_ | refine go2 ?_ (fun h => ?_) fun j h => ?_ | refine goQ ?_ (fun h => ?_) fun h => ?_) | apply go3 | apply go4 | apply go5 | ((first | apply go6 | apply go7 | apply go8 | apply go9 | apply goA) <;> intro h) | with_reducible (first | refine IdxK.mk _ rfl ?_ | refine goB ?_ fun hc => ?_ | refine goC ?_ fun hc => ?_ | refine goD ?_ fun hc => ?_ | refine goE ?_ fun hc => ?_ | apply goF | apply goG | refine goH ?_ fun b hb => ?_) | apply goI | apply goJ | apply goK | apply goL | apply goM | apply goN | apply goO | with_reducible refine goP ?_)
  all_goals try conv => whnf
  all_goals try (refine Side.mk ?_; try dsimp only)
  all_goals (try simp only [Cu_eta] at *)
  all_goals first | refine stay ?_ | trivial | omega | (simp (discharger := omega) only [wR]; omega) | (simp only [lnS]; omega) | (simp (discharger := omega) [-List.getD_eq_getElem?_getD, wR] <;> omega) | skip
  refine EndP.mk [] ?_ <;> (repeat' first | trivial | rfl | exact eqS _ _ | apply andI | apply eqA | apply eqB | apply eqC | apply eqD | apply eqE | apply eqF | apply eqG | apply eqH | apply eqI)
def sm_pmEach : Sm := fun args σ => match args, σ with
  | [.ptr 0 0, .func (.func 51) [.agg [.int .i64 n, .int .i64 w]] [], .func (.func 55) [] [.ptr 1 0, .ptr 2 0]], [.cells [.buf 3], .cells [.str s], .cells [.bool b], .buf 4 0 l] => some ((∃ a : List Pf, l = a.map ePf ∧ shortF a) ∧ l.length ≤ 10000 ∧ s = [] ∧ b = false, .tuple [], some [.cells [.buf 3], .cells [.str (lastF (selF (isF n w) (l.map dePf))).text], .cells [.bool (anyF (selF (isF n w) (l.map dePf)))], .buf 4 0 l, .dead])
  | [.ptr 0 0, .func (.func 51) [.agg [.int .i64 n, .int .i64 w]] [], .func (.func 56) [] [.ptr 1 0, .ptr 2 0]], [.cells [.buf 3], .cells [.list true z []], .cells [.bool b], .buf 4 0 l] => some ((∃ a : List Pf, l = a.map ePf ∧ shortF a) ∧ l.length ≤ 10000 ∧ b = false, .tuple [], some [.cells [.buf 3], .cells [.buf 4], .cells [.bool (anyF (selF (isF n w) (l.map dePf)))], .buf 4 0 l, .buf 1 0 (bl (joinT (selF (isF n w) (l.map dePf)))), .dead])
  | [.ptr 0 0, .func (.func 51) [.agg [.int .i64 n, .int .i64 w]] [], .func (.func 52) [] [.ptr 1 0]], [.cells [.buf 2], .cells [.list true z []], .buf 4 0 l] => some ((∃ a : List Pf, l = a.map ePf ∧ shortF a) ∧ l.length ≤ 10000, .tuple [], some [.cells [.buf 2], .cells [.buf 3], .buf 4 0 l, .buf 1 0 (textsF (selF (isF n w) (l.map dePf))), .dead])
  | [.ptr 0 0, .func (.func 33) [] [.ptr 1 0], .func (.func 35) [] [.ptr 2 0, .ptr 3 0]], [.cells [.buf 4], .cells [.buf 5], .cells [.int .i64 n, .int .i64 w, .int .u64 u, .str s], .cells [.bool b], .buf 4 0 l, .buf 2 0 tl] => some ((∃ a : List Pf, l = a.map ePf ∧ shortF a) ∧ l.length ≤ 10000 ∧ n = 0 ∧ w = 0 ∧ u = 0 ∧ s = [] ∧ b = false ∧ (∃ T : List Tg, tl = T.map eTg) ∧ tl.length ≤ 10000, .tuple [], some [.cells [.buf 4], .cells [.buf 5], .cells (ePc (lastF (selF (inT (tl.map deTg)) (l.map dePf)))), .cells [.bool (anyF (selF (inT (tl.map deTg)) (l.map dePf)))], .buf 4 0 l, .buf 2 0 tl, .dead])
  | [.nilptr, x, .func g [] [.ptr 0 0]], [.cells [.list true z []]] => some (True, .tuple [], none)
  | [.nilptr, x, .func g [] [.ptr 0 0, .ptr 1 0]], [.cells [.int .u64 u], .cells [.bool z]] => some (True, .tuple [], none)
  | [.nilptr, x, .func g [] [.ptr 0 0, .ptr 1 0]], [.cells [.str u], .cells [.bool z]] => some (True, .tuple [], none)
  | [.nilptr, x, .func g [] [.ptr 0 0, .ptr 1 0]], [.cells [.list true u []], .cells [.bool z]] => some (True, .tuple [], none)
  | _, _ => none
theorem k_pmEach : SOK 32 sm_pmEach := by
  intro args sg pre x r he hp
  unfold sm_pmEach at he
  split at he <;> cases he
  · exact f_pmEach_1 (hp := hp) ..
  · exact f_pmEach_2 (hp := hp) ..
  · exact f_pmEach_3 (hp := hp) ..
  · exact f_pmEach_4 (hp := hp) ..
  · exact f_pmEach_5 (hp := hp) ..
  · exact f_pmEach_6 (hp := hp) ..
  · exact f_pmEach_7 (hp := hp) ..
  · exact f_pmEach_8 (hp := hp) ..

theorem f_pmReadY_1 (s : List UInt8) (hp : s.length ≤ 1000000000 ∧ aFine s = 0) : OK 15 ([.str s]) ([]) (.tuple [.ptr 0 0, .int .i64 0]) (some [.cells [.buf 1], .buf 4 0 ((aFds s).map ePf)]) := by
  refine funOK_of_vc (C := cx [(31, sm_pAll)]) (good ⟨k_pAll, trivial⟩) (fn := Tryd.f15) rfl rfl rfl rfl fun hw hs => ?_
  repeat' ((conv => whnf); first | with_reducible (first | refine go1 (fun j q h => ?_) fun h => ?_ | refine go2 ⟨rfl, rfl⟩ (fun h => ?_) fun j h => ?_ | refine go2 ?_ (fun h => ?_) fun j h => ?_ | refine goQ ?_ (fun h => ?_) fun h => ?_) | apply go3 | apply go4 | apply go5 | ((first | apply go6 | apply go7 | apply go8 | apply go9 | apply goA) <;> intro h) | with_reducible (first | refine IdxK.mk _ rfl ?_ | refine goB ?_ fun hc => ?_ | refine goC ?_ fun hc => ?_ | refine goD ?_ fun hc => ?_ | refine goE ?_ fun hc => ?_ | apply goF | apply goG | refine goH ?_ fun b hb => ?_) | apply goI | apply goJ | apply goK | apply goL | apply goM | apply goN | apply goO | with_reducible refine goP ?_)
  all_goals try conv => whnf
  all_goals try (refine Side.mk ?_; try dsimp only)
  · exact hp.1
  · refine EndP.mk [.swap 0 1] ?_ <;> (repeat' first | trivial | rfl | exact eqS _ _ | apply andI | apply eqA | apply eqB | apply eqC | apply eqD | apply eqE | apply eqF | apply eqG | apply eqH | apply eqI)
  · exact absurd hp.2 (by assumption)
def sm_pmReadY : Sm := fun args σ => match args, σ with
  | [.str s], [] => some (s.length ≤ 1000000000 ∧ aFine s = 0, .tuple [.ptr 0 0, .int .i64 0], some [.cells [.buf 1], .buf 4 0 ((aFds s).map ePf)])
  | _, _ => none
theorem k_pmReadY : SOK 15 sm_pmReadY := by
  intro args sg pre x r he hp
  unfold sm_pmReadY at he
  split at he <;> cases he
  · exact f_pmReadY_1 (hp := hp) ..
theorem f_pmReadN_1 (s : List UInt8) (hp : s.length ≤ 1000000000 ∧ aFine s ≠ 0) : OK 15 ([.str s]) ([]) (.tuple [.nilptr, .int .i64 (aFine s)]) (none) := by
  refine funOK_of_vc (C := cx [(31, sm_pAll)]) (good ⟨k_pAll, trivial⟩) (fn := Tryd.f15) rfl rfl rfl rfl fun hw hs => ?_
  repeat' ((conv => whnf); first | with_reducible (first | refine go1 (fun j q h => ?_) fun h => ?_ | refine go2 ⟨rfl, rfl⟩ (fun h => ?_) fun j h => ?_ | refine go2 ?_ (fun h => ?_) fun j h => ?_ | refine goQ ?_ (fun h => ?_) fun h => ?_) | apply go3 | apply go4 | apply go5 | ((first | apply go6 | apply go7 | apply go8 | apply go9 | apply goA) <;> intro h) | with_reducible (first | refine IdxK.mk _ rfl ?_ | refine goB ?_ fun hc => ?_ | refine goC ?_ fun hc => ?_ | refine goD ?_ fun hc => ?_ | refine goE ?_ fun hc => ?_ | apply goF | apply goG | refine goH ?_ fun b hb => ?_) | apply goI | apply goJ | apply goK | apply goL | apply goM | apply goN | apply goO | with_reducible refine goP ?_)
  all_goals try conv => whnf
  all_goals try (refine Side.mk ?_; try dsimp only)
  · exact hp.1
  · exact absurd (by assumption) hp.2
  · refine EndP.mk [] ?_ <;> (repeat' first | trivial | rfl | exact eqS _ _ | apply andI | apply eqA | apply eqB | apply eqC | apply eqD | apply eqE | apply eqF | apply eqG | apply eqH | apply eqI)
def sm_pmReadN : Sm := fun args σ => match args, σ with
  | [.str s], [] => some (s.length ≤ 1000000000 ∧ aFine s ≠ 0, .tuple [.nilptr, .int .i64 (aFine s)], none)
  | _, _ => none
theorem k_pmReadN : SOK 15 sm_pmReadN := by
  intro args sg pre x r he hp
  unfold sm_pmReadN at he
  split at he <;> cases he
  · exact f_pmReadN_1 (hp := hp) ..
theorem f_pmText_1 (l : List V) (n : Int) (hp : (∃ a : List Pf, l = a.map ePf ∧ shortF a) ∧ l.length ≤ 10000) : OK 40 ([.ptr 0 0, .int .i64 n]) ([.cells [.buf 1], .buf 4 0 l]) (.tuple [.str (lastF (selF (isF n 2) (l.map dePf))).text, .bool (anyF (selF (isF n 2) (l.map dePf)))]) (none) := by
  refine funOK_of_vc (C := cx [(32, sm_pmEach)]) (good ⟨k_pmEach, trivial⟩) (fn := Tryd.f40) rfl rfl rfl rfl fun hw hs => ?_
  repeat' ((conv => whnf); first | with_reducible (first | refine go1 (fun j q h => ?_) fun h => ?_ | refine go2 ⟨rfl, rfl⟩ (fun h => ?_) fun j h => ?_ | refine go2 ?_ (fun h => ?_) fun j h => ?_ | refine goQ ?_ (fun h => ?_) fun h => ?_) | apply go3 | apply go4 | apply go5 | ((first | apply go6 | apply go7 | apply go8 | apply go9 | apply goA) <;> intro h) | with_reducible (first | refine IdxK.mk _ rfl ?_ | refine goB ?_ fun hc => ?_ | refine goC ?_ fun hc => ?_ | refine goD ?_ fun hc => ?_ | refine goE ?_ fun hc => ?_ | apply goF | apply goG | refine goH ?_ fun b hb => ?_) | apply goI | apply goJ | apply goK | apply goL | apply goM | apply goN | apply goO | with_reducible refine goP ?_)
  all_goals try conv => whnf
  all_goals try (refine Side.mk ?_; try dsimp only)
  · exact ⟨hp.1, hp.2, rfl, rfl⟩
  refine EndP.mk [] ?_ <;> (repeat' first | trivial | rfl | exact eqS _ _ | apply andI | apply eqA | apply eqB | apply eqC | apply eqD | apply eqE | apply eqF | apply eqG | apply eqH | apply eqI)
theorem f_pmText_2 (n : Int) (hp : True) : OK 40 ([.nilptr, .int .i64 n]) ([]) (.tuple [.str [], .bool false]) (none) := by
  refine funOK_of_vc (C := cx [(32, sm_pmEach)]) (good ⟨k_pmEach, trivial⟩) (fn := Tryd.f40) rfl rfl rfl rfl fun hw hs => ?_
  repeat' ((conv => whnf); first | with_reducible (first | refine go1 (fun j q h => ?_) fun h => ?_ | refine go2 ⟨rfl, rfl⟩ (fun h => ?_) fun j h => ?_ | refine go2 ?_ (fun h => ?_) fun j h => ?_ | refine goQ ?_ (fun h => ?_) fun h => ?_) | apply go3 | apply go4 | apply go5 | ((first | apply go6 | apply go7 | apply go8 | apply go9 | apply goA) <;> intro h) | with_reducible (first | refine IdxK.mk _ rfl ?_ | refine goB ?_ fun hc => ?_ | refine goC ?_ fun hc => ?_ | refine goD ?_ fun hc => ?_ | refine goE ?_ fun hc => ?_ | apply goF | apply goG | refine goH ?_ fun b hb => ?_) | apply goI | apply goJ | apply goK | apply goL | apply goM | apply goN | apply goO | with_reducible refine goP ?_)
  all_goals try conv => whnf
  all_goals try (refine Side.mk ?_; try dsimp only)
  all_goals (try simp only [Cu_eta] at *)
  all_goals first | refine stay ?_ | trivial | omega | (simp (discharger := omega) only [wR]; omega) | (simp only [lnS]; omega) | (simp (discharger := omega) [-List.getD_eq_getElem?_getD, wR] <;> omega) | skip
  refine EndP.mk [] ?_ <;> (repeat' first | trivial | rfl | exact eqS _ _ | apply andI | apply eqA | apply eqB | apply eqC | apply eqD | apply eqE | apply eqF | apply eqG | apply eqH | apply eqI)
def sm_pmText : Sm := fun args σ => match args, σ with
  | [.ptr 0 0, .int .i64 n], [.cells [.buf 1], .buf 4 0 l] => some ((∃ a : List Pf, l = a.map ePf ∧ shortF a) ∧ l.length ≤ 10000, .tuple [.str (lastF (selF (isF n 2) (l.map dePf))).text, .bool (anyF (selF (isF n 2) (l.map dePf)))], none)
  | [.nilptr, .int .i64 n], [] => some (True, .tuple [.str [], .bool false], none)
  | _, _ => none
theorem k_pmText : SOK 40 sm_pmText := by
  intro args sg pre x r he hp
  unfold sm_pmText at he
  split at he <;> cases he
  · exact f_pmText_1 (hp := hp) ..
  · exact f_pmText_2 (hp := hp) ..
theorem f_pmJoin_1 (l : List V) (n : Int) (hp : (∃ a : List Pf, l = a.map ePf ∧ shortF a) ∧ l.length ≤ 10000) : OK 41 ([.ptr 0 0, .int .i64 n]) ([.cells [.buf 1], .buf 4 0 l]) (.tuple [.str (joinT (selF (isF n 2) (l.map dePf))), .bool (anyF (selF (isF n 2) (l.map dePf)))]) (none) := by
  refine funOK_of_vc (C := cx [(32, sm_pmEach)]) (good ⟨k_pmEach, trivial⟩) (fn := Tryd.f41) rfl rfl rfl rfl fun hw hs => ?_
  repeat' ((conv => whnf); first | with_reducible (first | refine go1 (fun j q h => ?_) fun h => ?_ | refine go2 ⟨rfl, rfl⟩ (fun h => ?_) fun j h => ?_ | refine go2 ?_ (fun h => ?_) fun j h => ?_ | refine goQ ?_ (fun h => ?_) fun h => ?_) | apply go3 | apply go4 | apply go5 | ((first | apply go6 | apply go7 | apply go8 | apply go9 | apply goA) <;> intro h) | with_reducible (first | refine IdxK.mk _ rfl ?_ | refine goB ?_ fun hc => ?_ | refine goC ?_ fun hc => ?_ | refine goD ?_ fun hc => ?_ | refine goE ?_ fun hc => ?_ | apply goF | apply goG | refine goH ?_ fun b hb => ?_) | apply goI | apply goJ | apply goK | apply goL | apply goM | apply goN | apply goO | with_reducible refine goP ?_)
  all_goals try conv => whnf
  all_goals try (refine Side.mk ?_; try dsimp only)
  · exact ⟨hp.1, hp.2, rfl⟩
  refine EndP.mk [] ?_ <;> (repeat' first | trivial | rfl | exact eqS _ _ | apply andI | apply eqA | apply eqB | apply eqC | apply eqD | apply eqE | apply eqF | apply eqG | apply eqH | apply eqI)
theorem f_pmJoin_2 (n : Int) (hp : True) : OK 41 ([.nilptr, .int .i64 n]) ([]) (.tuple [.str [], .bool false]) (none) := by
  refine funOK_of_vc (C := cx [(32, sm_pmEach)]) (good ⟨k_pmEach, trivial⟩) (fn := Tryd.f41) rfl rfl rfl rfl fun hw hs => ?_
  repeat' ((conv => whnf); first | with_reducible (first | refine go1 (fun j q h => ?_) fun h => ?_ | refine go2 ⟨rfl, rfl⟩ (fun h => ?_) fun j h => ?_ | refine go2 ?_ (fun h => ?_) fun j h => ?_ | refine goQ ?_ (fun h => ?_) fun h => ?_) | apply go3 | apply go4 | apply go5 | ((first | apply go6 | apply go7 | apply go8 | apply go9 | apply goA) <;> intro h) | with_reducible (first | refine IdxK.mk _ rfl ?_ | refine goB ?_ fun hc => ?_ | refine goC ?_ fun hc => ?_ | refine goD ?_ fun hc => ?_ | refine goE ?_ fun hc => ?_ | apply goF | apply goG | refine goH ?_ fun b hb => ?_) | apply goI | apply goJ | apply goK | apply goL | apply goM | apply goN | apply goO | with_reducible refine goP ?_)
  all_goals try conv => whnf
  all_goals try (refine Side.mk ?_; try dsimp only)
  refine ⟨[], rfl, ?_⟩
  repeat' ((conv => whnf); first | with_reducible (first | refine go1 (fun j q h => ?_) fun h => ?_ | refine go2 ⟨rfl, rfl⟩ (fun h => ?_) fun j h => ?_ | refine go2 ?_ (fun h => ?_) fun j h => ?_ | refine goQ ?_ (fun h => ?_) fun h => ?_) | apply go3 | apply go4 | apply go5 | ((first | apply go6 | apply go7 | apply go8 | apply go9 | apply goA) <;> intro h) | with_reducible (first | refine IdxK.mk _ rfl ?_ | refine goB ?_ fun hc => ?_ | refine goC ?_ fun hc => ?_ | refine goD ?_ fun hc => ?_ | refine goE ?_ fun hc => ?_ | apply goF | apply goG | refine goH ?_ fun b hb => ?_) | apply goI | apply goJ | apply goK | apply goL | apply goM | apply goN | apply goO | with_reducible refine goP ?_)
  all_goals try conv => whnf
  all_goals try (refine Side.mk ?_; try dsimp only)
  refine EndP.mk [] ?_ <;> (repeat' first | trivial | rfl | exact eqS _ _ | apply andI | apply eqA | apply eqB | apply eqC | apply eqD | apply eqE | apply eqF | apply eqG | apply eqH | apply eqI)
def sm_pmJoin : Sm := fun args σ => match args, σ with
  | [.ptr 0 0, .int .i64 n], [.cells [.buf 1], .buf 4 0 l] => some ((∃ a : List Pf, l = a.map ePf ∧ shortF a) ∧ l.length ≤ 10000, .tuple [.str (joinT (selF (isF n 2) (l.map dePf))), .bool (anyF (selF (isF n 2) (l.map dePf)))], none)
  | [.nilptr, .int .i64 n], [] => some (True, .tuple [.str [], .bool false], none)
  | _, _ => none
theorem k_pmJoin : SOK 41 sm_pmJoin := by
  intro args sg pre x r he hp
  unfold sm_pmJoin at he
  split at he <;> cases he
  · exact f_pmJoin_1 (hp := hp) ..
  · exact f_pmJoin_2 (hp := hp) ..
theorem f_pmTexts_1 (l : List V) (n : Int) (hp : (∃ a : List Pf, l = a.map ePf ∧ shortF a) ∧ l.length ≤ 10000) : OK 36 ([.ptr 0 0, .int .i64 n]) ([.cells [.buf 1], .buf 4 0 l]) (.buf 2) (some [.cells [.buf 1], .buf 4 0 l, .buf 1 0 (textsF (selF (isF n 2) (l.map dePf))), .dead]) := by
  refine funOK_of_vc (C := cx [(32, sm_pmEach)]) (good ⟨k_pmEach, trivial⟩) (fn := Tryd.f36) rfl rfl rfl rfl fun hw hs => ?_
  repeat' ((conv => whnf); first | with_reducible (first | refine go1 (fun j q h => ?_) fun h => ?_ | refine go2 ⟨rfl, rfl⟩ (fun h => ?_) fun j h => ?_ | refine go2 ?_ (fun h => ?_) fun j h => ?_ | refine goQ ?_ (fun h => ?_) fun h => ?_) | apply go3 | apply go4 | apply go5 | ((first | apply go6 | apply go7 | apply go8 | apply go9 | apply goA) <;> intro h) | with_reducible (first | refine IdxK.mk _ rfl ?_ | refine goB ?_ fun hc => ?_ | refine goC ?_ fun hc => ?_ | refine goD ?_ fun hc => ?_ | refine goE ?_ fun hc => ?_ | apply goF | apply goG | refine goH ?_ fun b hb => ?_) | apply goI | apply goJ | apply goK | apply goL | apply goM | apply goN | apply goO | with_reducible refine goP ?_)
  all_goals try conv => whnf
  all_goals try (refine Side.mk ?_; try dsimp only)
  · exact hp
  refine EndP.mk [.swap 2 3] ?_ <;> (repeat' first | trivial | rfl | exact eqS _ _ | apply andI | apply eqA | apply eqB | apply eqC | apply eqD | apply eqE | apply eqF | apply eqG | apply eqH | apply eqI)
theorem f_pmTexts_2 (n : Int) (hp : True) : OK 36 ([.nilptr, .int .i64 n]) ([]) (.list true 0 []) (none) := by
  refine funOK_of_vc (C := cx [(32, sm_pmEach)]) (good ⟨k_pmEach, trivial⟩) (fn := Tryd.f36) rfl rfl rfl rfl fun hw hs => ?_
  repeat' ((conv => whnf); first | with_reducible (first | refine go1 (fun j q h => ?_) fun h => ?_ | refine go2 ⟨rfl, rfl⟩ (fun h => ?_) fun j h => ?_ | refine go2 ?_ (fun h => ?_) fun j h => ?_ | refine goQ ?_ (fun h => ?_) fun h => ?_) | apply go3 | apply go4 | apply go5 | ((first | apply go6 | apply go7 | apply go8 | apply go9 | apply goA) <;> intro h) | with_reducible (first | refine IdxK.mk _ rfl ?_ | refine goB ?_ fun hc => ?_ | refine goC ?_ fun hc => ?_ | refine goD ?_ fun hc => ?_ | refine goE ?_ fun hc => ?_ | apply goF | apply goG | refine goH ?_ fun b hb => ?_) | apply goI | apply goJ | apply goK | apply goL | apply goM | apply goN | apply goO | with_reducible refine goP ?_)
  all_goals try conv => whnf
  all_goals try (refine Side.mk ?_; try dsimp only)
  refine EndP.mk [] ?_ <;> (repeat' first | trivial | rfl | exact eqS _ _ | apply andI | apply eqA | apply eqB | apply eqC | apply eqD | apply eqE | apply eqF | apply eqG | apply eqH | apply eqI)
def sm_pmTexts : Sm := fun args σ => match args, σ with
  | [.ptr 0 0, .int .i64 n], [.cells [.buf 1], .buf 4 0 l] => some ((∃ a : List Pf, l = a.map ePf ∧ shortF a) ∧ l.length ≤ 10000, .buf 2, some [.cells [.buf 1], .buf 4 0 l, .buf 1 0 (textsF (selF (isF n 2) (l.map dePf))), .dead])
  | [.nilptr, .int .i64 n], [] => some (True, .list true 0 [], none)
  | _, _ => none
theorem k_pmTexts : SOK 36 sm_pmTexts := by
  intro args sg pre x r he hp
  unfold sm_pmTexts at he
  split at he <;> cases he
  · exact f_pmTexts_1 (hp := hp) ..
  · exact f_pmTexts_2 (hp := hp) ..
theorem f_pmLast_1 (l tl : List V) (hp : (∃ a : List Pf, l = a.map ePf ∧ shortF a) ∧ l.length ≤ 10000 ∧ (∃ T : List Tg, tl = T.map eTg) ∧ tl.length ≤ 10000) : OK 16 ([.ptr 0 0, .buf 1]) ([.cells [.buf 2], .buf 2 0 tl, .buf 4 0 l]) (.tuple [ePf (lastF (selF (inT (tl.map deTg)) (l.map dePf))), .bool (anyF (selF (inT (tl.map deTg)) (l.map dePf)))]) (none) := by
  refine funOK_of_vc (C := cx [(32, sm_pmEach)]) (good ⟨k_pmEach, trivial⟩) (fn := Tryd.f16) rfl rfl rfl rfl fun hw hs => ?_
  repeat' ((conv => whnf); first | with_reducible (first | refine go1 (fun j q h => ?_) fun h => ?_ | refine go2 ⟨rfl, rfl⟩ (fun h => ?_) fun j h => ?_ | refine go2 ?_ (fun h => ?_) fun j h => ?_ | refine goQ ?_ (fun h => ?_) fun h => ?_) | apply go3 | apply go4 | apply go5 | ((first | apply go6 | apply go7 | apply go8 | apply go9 | apply goA) <;> intro h) | with_reducible (first | refine IdxK.mk _ rfl ?_ | refine goB ?_ fun hc => ?_ | refine goC ?_ fun hc => ?_ | refine goD ?_ fun hc => ?_ | refine goE ?_ fun hc => ?_ | apply goF | apply goG | refine goH ?_ fun b hb => ?_) | apply goI | apply goJ | apply goK | apply goL | apply goM | apply goN | apply goO | with_reducible refine goP ?_)
  all_goals try conv => whnf
  all_goals try (refine Side.mk ?_; try dsimp only)
  · exact ⟨hp.1, hp.2.1, rfl, rfl, rfl, rfl, rfl, hp.2.2.1, hp.2.2.2⟩
  refine EndP.mk [] ?_ <;> (repeat' first | trivial | rfl | exact eqS _ _ | apply andI | apply eqA | apply eqB | apply eqC | apply eqD | apply eqE | apply eqF | apply eqG | apply eqH | apply eqI)
def sm_pmLast : Sm := fun args σ => match args, σ with
  | [.ptr 0 0, .buf 1], [.cells [.buf 2], .buf 2 0 tl, .buf 4 0 l] => some ((∃ a : List Pf, l = a.map ePf ∧ shortF a) ∧ l.length ≤ 10000 ∧ (∃ T : List Tg, tl = T.map eTg) ∧ tl.length ≤ 10000, .tuple [ePf (lastF (selF (inT (tl.map deTg)) (l.map dePf))), .bool (anyF (selF (inT (tl.map deTg)) (l.map dePf)))], none)
  | _, _ => none
theorem k_pmLast : SOK 16 sm_pmLast := by
  intro args sg pre x r he hp
  unfold sm_pmLast at he
  split at he <;> cases he
  · exact f_pmLast_1 (hp := hp) ..
end Go.Proofs.YtkkfdkfopdjomaaDoor
