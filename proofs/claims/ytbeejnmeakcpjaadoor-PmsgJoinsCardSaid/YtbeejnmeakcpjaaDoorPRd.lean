/-
  The document's cursor, numbers and words.
-/
import Derived.Test.YtbeejnmeakcpjaaDoorPRc
set_option linter.unusedSimpArgs false
set_option linter.unusedVariables false
set_option maxHeartbeats 4000000
namespace Go.Proofs.YtbeejnmeakcpjaaDoor
open Go Go.VG
set_option maxRecDepth 100000
abbrev eCa (c : Cu) : V := .agg [.str c.s, .int .i64 c.p, .int .i64 c.e, .int .i64 c.c]
theorem viewCa {s : List UInt8} {a e : Nat} {c : Int} (_ : True) : V.agg [.str s, .int .i64 (.ofNat a), .int .i64 (.ofNat e), .int .i64 c] = eCa ⟨s, a, e, c⟩ := rfl
def Cu.why (c : Cu) (n : Int) : Int := (c.pass n).c
theorem why_eq (c : Cu) (n : Int) : c.why n = if c.c ≠ 0 then c.c else if n < 0 then 13 else if (c.e : Int) - c.p < n then 1 else 0 := by
  unfold Cu.why Cu.pass
  by_cases h : c.c ≠ 0
  · rw [if_pos h, if_pos h]
  · rw [if_neg h, if_neg h]
    by_cases h2 : n < 0
    · rw [if_pos h2, if_pos h2]
    · rw [if_neg h2, if_neg h2]
      by_cases h3 : n > (c.e : Int) - c.p
      · rw [if_pos h3, if_pos (by omega)]
      · rw [if_neg h3, if_neg (by omega)]; simpa using h
theorem why_0 {c : Cu} {n : Int} (h : c.why n = 0) : (c.c = 0 ∧ 0 ≤ n ∧ n ≤ (c.e : Int) - c.p) ∧ c.pass n = ⟨c.s, c.p + n.toNat, c.e, 0⟩ ∧ c.takeV n = (c.s.drop c.p).take n.toNat := by
  have hc : c.c = 0 ∧ 0 ≤ n ∧ n ≤ (c.e : Int) - c.p := by
    rw [why_eq] at h
    split at h
    · rename_i q; exact absurd h q
    · split at h
      · cases h
      · split at h
        · cases h
        · rename_i q1 q2 q3; exact ⟨by simpa using q1, by omega, by omega⟩
  refine ⟨hc, ?_, ?_⟩
  · unfold Cu.pass
    rw [if_neg (by omega), if_neg (by omega), if_neg (by omega), hc.1]
  · unfold Cu.takeV Cu.may
    rw [if_pos (decide_eq_true hc)]
theorem why_n {c : Cu} {n : Int} (h : ¬ c.why n = 0) : c.pass n = ⟨c.s, c.p, c.e, c.why n⟩ ∧ c.takeV n = [] := by
  have h0 := h
  rw [why_eq] at h
  have hm : ¬ (c.c = 0 ∧ 0 ≤ n ∧ n ≤ (c.e : Int) - c.p) := fun q => h (by rw [if_neg (by omega), if_neg (by omega), if_neg (by omega)])
  constructor
  · unfold Cu.why
    unfold Cu.pass
    by_cases q : c.c ≠ 0
    · rw [if_pos q]
    · rw [if_neg q]
      by_cases q2 : n < 0
      · rw [if_pos q2]
      · rw [if_neg q2, if_pos (by omega)]
  · unfold Cu.takeV Cu.may
    rw [if_neg (by rw [decide_eq_false hm]; decide)]
theorem f_r01New_1 (s : List UInt8) (hp : True) : OK 30 ([.str s]) ([]) (eCa (.new s)) (none) := by
  refine funOK_of_vc (C := cx []) (good trivial) (fn := Tryd.f30) rfl rfl rfl rfl fun hw hs => ?_
  repeat' (
    conv => whnf
    first
    | with_reducible (first | refine go1 (fun j q h => ?_) fun h => ?_ | refine go2 ⟨rfl, rfl⟩ (fun h => ?_) fun j h => ?_ | refine go2 ?_ (fun h => ?_) fun j h => ?_)
    | refine go3 ?_ ?_ | refine go4 ?_ ?_ | refine go5 ?_
    | refine go6 (fun h => ?_) fun h => ?_ | refine go7 (fun h => ?_) fun h => ?_ | refine go8 (fun h => ?_) fun h => ?_ | refine go9 (fun h => ?_) fun h => ?_ | refine goA (fun h => ?_) fun h => ?_
    | with_reducible (first | refine IdxK.mk _ rfl ?_ | refine goB ?_ fun hc => ?_ | refine goC ?_ fun hc => ?_ | refine goD ?_ fun hc => ?_ | refine goE ?_ fun hc => ?_ | refine goF ?_ ?_ | refine goG ?_ ?_ | refine goH ?_ fun b hb => ?_)
    | refine goI ?_ | refine goJ ?_ ?_ | refine goK ?_ ?_ ?_ | refine goL ?_ ?_ ?_ ?_ | refine goM ?_ ?_ ?_ ?_ ?_ | refine goN ?_ ?_ | refine goO ?_ ?_
    | with_reducible refine goP ?_)
  all_goals try conv => whnf
  all_goals try (refine Side.mk ?_; try dsimp only)
  all_goals (try simp only [Cu_eta] at *)
  all_goals first
    | (show LoopP _ _ _ _; skip)
    | (show GotoP _ _ _ _ _; skip)
    | (show EndP _ _ _ _ _ _; skip)
    | (show ∃ _, _; skip)
    | (first
          | trivial
          | omega
          | (simp (discharger := omega) only [wu8, wu16, wu32, wu64, wi32, wi64, Int.tdiv_eq_ediv_of_nonneg, Int.tmod_eq_emod_of_nonneg]; omega)
          | (simp only [List.length_append, List.length_cons, List.length_nil, bl_length, List.length_take, List.length_drop]; omega)
          | (simp (discharger := omega) [-List.getD_eq_getElem?_getD, wu8, wu16, wu32, wu64, wi32, wi64, Int.tdiv_eq_ediv_of_nonneg, Int.tmod_eq_emod_of_nonneg]; done)
          | (simp (discharger := omega) [-List.getD_eq_getElem?_getD, wu8, wu16, wu32, wu64, wi32, wi64, Int.tdiv_eq_ediv_of_nonneg, Int.tmod_eq_emod_of_nonneg]; omega))
    | skip
  refine EndP.mk [] ?_ <;> (repeat' first | trivial | rfl | exact eqS _ _ | refine And.intro ?_ ?_ | refine eqA ?_ | refine eqB ?_ | refine eqC ?_ | refine eqD ?_ | refine eqE ?_ | refine eqF ?_ | refine eqG ?_ | refine eqH ?_ | refine eqI ?_ ?_)
def sm_r01New : Sm := fun args σ => match args, σ with
  | [.str s], [] => some (True, eCa (.new s), none)
  | _, _ => none
theorem k_r01New : SOK 30 sm_r01New := by
  intro args sg pre x r he hp
  unfold sm_r01New at he
  split at he <;> cases he
  · exact f_r01New_1 (hp := hp) ..
theorem f_r01why_1 (c : Cu) (n : Int) (hp : c.ok ∧ c.s.length ≤ 1000000000) : OK 104 ([eCa c, .int .i64 n]) ([]) (.int .i64 (c.why n)) (none) := by
  refine funOK_of_vc (C := cx []) (good trivial) (fn := Tryd.f104) rfl rfl rfl rfl fun hw hs => ?_
  obtain ⟨hp, hl⟩ := hp
  have h1 := hp.1
  have h2 := hp.2
  rw [why_eq]
  repeat' (
    conv => whnf
    first
    | with_reducible (first | refine go1 (fun j q h => ?_) fun h => ?_ | refine go2 ⟨rfl, rfl⟩ (fun h => ?_) fun j h => ?_ | refine go2 ?_ (fun h => ?_) fun j h => ?_)
    | refine go3 ?_ ?_ | refine go4 ?_ ?_ | refine go5 ?_
    | refine go6 (fun h => ?_) fun h => ?_ | refine go7 (fun h => ?_) fun h => ?_ | refine go8 (fun h => ?_) fun h => ?_ | refine go9 (fun h => ?_) fun h => ?_ | refine goA (fun h => ?_) fun h => ?_
    | with_reducible (first | refine IdxK.mk _ rfl ?_ | refine goB ?_ fun hc => ?_ | refine goC ?_ fun hc => ?_ | refine goD ?_ fun hc => ?_ | refine goE ?_ fun hc => ?_ | refine goF ?_ ?_ | refine goG ?_ ?_ | refine goH ?_ fun b hb => ?_)
    | refine goI ?_ | refine goJ ?_ ?_ | refine goK ?_ ?_ ?_ | refine goL ?_ ?_ ?_ ?_ | refine goM ?_ ?_ ?_ ?_ ?_ | refine goN ?_ ?_ | refine goO ?_ ?_
    | with_reducible refine goP ?_)
  all_goals try conv => whnf
  all_goals try (refine Side.mk ?_; try dsimp only)
  all_goals (try simp only [Cu_eta] at *)
  all_goals first
    | (show LoopP _ _ _ _; skip)
    | (show GotoP _ _ _ _ _; skip)
    | (show EndP _ _ _ _ _ _; skip)
    | (show ∃ _, _; skip)
    | (first
          | trivial
          | omega
          | (simp (discharger := omega) only [wu8, wu16, wu32, wu64, wi32, wi64, Int.tdiv_eq_ediv_of_nonneg, Int.tmod_eq_emod_of_nonneg]; omega)
          | (simp only [List.length_append, List.length_cons, List.length_nil, bl_length, List.length_take, List.length_drop]; omega)
          | (simp (discharger := omega) [-List.getD_eq_getElem?_getD, wu8, wu16, wu32, wu64, wi32, wi64, Int.tdiv_eq_ediv_of_nonneg, Int.tmod_eq_emod_of_nonneg]; done)
          | (simp (discharger := omega) [-List.getD_eq_getElem?_getD, wu8, wu16, wu32, wu64, wi32, wi64, Int.tdiv_eq_ediv_of_nonneg, Int.tmod_eq_emod_of_nonneg]; omega))
    | skip
  all_goals
    have hs1 : IntKind.i64.wrap ((c.e : Int) - c.p) = (c.e : Int) - c.p := by (first | omega | (simp (discharger := omega) only [wu8, wu16, wu32, wu64, wi32, wi64, Int.tdiv_eq_ediv_of_nonneg, Int.tmod_eq_emod_of_nonneg]; omega) | (simp only [List.length_append, List.length_cons, List.length_nil, bl_length, List.length_take, List.length_drop]; omega) | (simp (discharger := omega) [-List.getD_eq_getElem?_getD, wu8, wu16, wu32, wu64, wi32, wi64, Int.tdiv_eq_ediv_of_nonneg, Int.tmod_eq_emod_of_nonneg]; done) | (simp (discharger := omega) [-List.getD_eq_getElem?_getD, wu8, wu16, wu32, wu64, wi32, wi64, Int.tdiv_eq_ediv_of_nonneg, Int.tmod_eq_emod_of_nonneg]; omega))
    try simp only [hs1] at *
    repeat (first | rw [if_pos (by first | assumption | omega)] | rw [if_neg (by first | assumption | omega)])
    refine EndP.mk [] ?_ <;> (repeat' first | trivial | rfl | exact eqS _ _ | refine And.intro ?_ ?_ | refine eqA ?_ | refine eqB ?_ | refine eqC ?_ | refine eqD ?_ | refine eqE ?_ | refine eqF ?_ | refine eqG ?_ | refine eqH ?_ | refine eqI ?_ ?_)
def sm_r01why : Sm := fun args σ => match args, σ with
  | [.agg [.str s_c, .int .i64 (.ofNat a_c), .int .i64 (.ofNat e_c), .int .i64 c_c], .int .i64 n], [] => some (True ∧ ((Cu.mk s_c a_c e_c c_c).ok ∧ (Cu.mk s_c a_c e_c c_c).s.length ≤ 1000000000), .int .i64 ((Cu.mk s_c a_c e_c c_c).why n), none)
  | _, _ => none
theorem k_r01why : SOK 104 sm_r01why := by
  intro args sg pre x r he hp
  unfold sm_r01why at he
  split at he <;> cases he
  · rw [viewCa (hp).1]; exact f_r01why_1 (hp := hp.2) ..
theorem f_r01Fail_1 (c : Cu) (k : Int) (hp : True) : OK 91 ([eCa c, .int .i64 k]) ([]) (eCa (c.fail k)) (none) := by
  refine funOK_of_vc (C := cx []) (good trivial) (fn := Tryd.f91) rfl rfl rfl rfl fun hw hs => ?_
  repeat' (
    conv => whnf
    first
    | with_reducible (first | refine go1 (fun j q h => ?_) fun h => ?_ | refine go2 ⟨rfl, rfl⟩ (fun h => ?_) fun j h => ?_ | refine go2 ?_ (fun h => ?_) fun j h => ?_)
    | refine go3 ?_ ?_ | refine go4 ?_ ?_ | refine go5 ?_
    | refine go6 (fun h => ?_) fun h => ?_ | refine go7 (fun h => ?_) fun h => ?_ | refine go8 (fun h => ?_) fun h => ?_ | refine go9 (fun h => ?_) fun h => ?_ | refine goA (fun h => ?_) fun h => ?_
    | with_reducible (first | refine IdxK.mk _ rfl ?_ | refine goB ?_ fun hc => ?_ | refine goC ?_ fun hc => ?_ | refine goD ?_ fun hc => ?_ | refine goE ?_ fun hc => ?_ | refine goF ?_ ?_ | refine goG ?_ ?_ | refine goH ?_ fun b hb => ?_)
    | refine goI ?_ | refine goJ ?_ ?_ | refine goK ?_ ?_ ?_ | refine goL ?_ ?_ ?_ ?_ | refine goM ?_ ?_ ?_ ?_ ?_ | refine goN ?_ ?_ | refine goO ?_ ?_
    | with_reducible refine goP ?_)
  all_goals try conv => whnf
  all_goals try (refine Side.mk ?_; try dsimp only)
  all_goals (try simp only [Cu_eta] at *)
  all_goals first
    | (show LoopP _ _ _ _; skip)
    | (show GotoP _ _ _ _ _; skip)
    | (show EndP _ _ _ _ _ _; skip)
    | (show ∃ _, _; skip)
    | (first
          | trivial
          | omega
          | (simp (discharger := omega) only [wu8, wu16, wu32, wu64, wi32, wi64, Int.tdiv_eq_ediv_of_nonneg, Int.tmod_eq_emod_of_nonneg]; omega)
          | (simp only [List.length_append, List.length_cons, List.length_nil, bl_length, List.length_take, List.length_drop]; omega)
          | (simp (discharger := omega) [-List.getD_eq_getElem?_getD, wu8, wu16, wu32, wu64, wi32, wi64, Int.tdiv_eq_ediv_of_nonneg, Int.tmod_eq_emod_of_nonneg]; done)
          | (simp (discharger := omega) [-List.getD_eq_getElem?_getD, wu8, wu16, wu32, wu64, wi32, wi64, Int.tdiv_eq_ediv_of_nonneg, Int.tmod_eq_emod_of_nonneg]; omega))
    | skip
  all_goals
    unfold Cu.fail
    first | rw [if_pos (by assumption)] | rw [if_neg (by assumption)]
    refine EndP.mk [] ?_ <;> (repeat' first | trivial | rfl | exact eqS _ _ | refine And.intro ?_ ?_ | refine eqA ?_ | refine eqB ?_ | refine eqC ?_ | refine eqD ?_ | refine eqE ?_ | refine eqF ?_ | refine eqG ?_ | refine eqH ?_ | refine eqI ?_ ?_)
def sm_r01Fail : Sm := fun args σ => match args, σ with
  | [.agg [.str s_c, .int .i64 (.ofNat a_c), .int .i64 (.ofNat e_c), .int .i64 c_c], .int .i64 k], [] => some (True ∧ (True), eCa ((Cu.mk s_c a_c e_c c_c).fail k), none)
  | _, _ => none
theorem k_r01Fail : SOK 91 sm_r01Fail := by
  intro args sg pre x r he hp
  unfold sm_r01Fail at he
  split at he <;> cases he
  · rw [viewCa (hp).1]; exact f_r01Fail_1 (hp := hp.2) ..
theorem f_r01Take_1 (c : Cu) (n : Int) (hp : c.ok ∧ c.s.length ≤ 1000000000) : OK 93 ([eCa c, .int .i64 n]) ([]) (.tuple [eCa (c.pass n), .str (c.takeV n)]) (none) := by
  refine funOK_of_vc (C := cx [(104, sm_r01why)]) (good ⟨k_r01why, trivial⟩) (fn := Tryd.f93) rfl rfl rfl rfl fun hw hs => ?_
  obtain ⟨hp, hl⟩ := hp
  have h1 := hp.1
  have h2 := hp.2
  have hy := why_eq c n
  repeat' (
    conv => whnf
    first
    | with_reducible (first | refine go1 (fun j q h => ?_) fun h => ?_ | refine go2 ⟨rfl, rfl⟩ (fun h => ?_) fun j h => ?_ | refine go2 ?_ (fun h => ?_) fun j h => ?_)
    | refine go3 ?_ ?_ | refine go4 ?_ ?_ | refine go5 ?_
    | refine go6 (fun h => ?_) fun h => ?_ | refine go7 (fun h => ?_) fun h => ?_ | refine go8 (fun h => ?_) fun h => ?_ | refine go9 (fun h => ?_) fun h => ?_ | refine goA (fun h => ?_) fun h => ?_
    | with_reducible (first | refine IdxK.mk _ rfl ?_ | refine goB ?_ fun hc => ?_ | refine goC ?_ fun hc => ?_ | refine goD ?_ fun hc => ?_ | refine goE ?_ fun hc => ?_ | refine goF ?_ ?_ | refine goG ?_ ?_ | refine goH ?_ fun b hb => ?_)
    | refine goI ?_ | refine goJ ?_ ?_ | refine goK ?_ ?_ ?_ | refine goL ?_ ?_ ?_ ?_ | refine goM ?_ ?_ ?_ ?_ ?_ | refine goN ?_ ?_ | refine goO ?_ ?_
    | with_reducible refine goP ?_)
  all_goals try conv => whnf
  all_goals try (refine Side.mk ?_; try dsimp only)
  all_goals (try simp only [Cu_eta] at *)
  all_goals first
    | (show LoopP _ _ _ _; skip)
    | (show GotoP _ _ _ _ _; skip)
    | (show EndP _ _ _ _ _ _; skip)
    | (show ∃ _, _; skip)
    | (first
          | trivial
          | omega
          | (simp (discharger := omega) only [wu8, wu16, wu32, wu64, wi32, wi64, Int.tdiv_eq_ediv_of_nonneg, Int.tmod_eq_emod_of_nonneg]; omega)
          | (simp only [List.length_append, List.length_cons, List.length_nil, bl_length, List.length_take, List.length_drop]; omega)
          | (simp (discharger := omega) [-List.getD_eq_getElem?_getD, wu8, wu16, wu32, wu64, wi32, wi64, Int.tdiv_eq_ediv_of_nonneg, Int.tmod_eq_emod_of_nonneg]; done)
          | (simp (discharger := omega) [-List.getD_eq_getElem?_getD, wu8, wu16, wu32, wu64, wi32, wi64, Int.tdiv_eq_ediv_of_nonneg, Int.tmod_eq_emod_of_nonneg]; omega))
    | skip
  · obtain ⟨q1, q2, q3⟩ := why_0 (by assumption)
    have hpn : IntKind.i64.wrap ((c.p : Int) + n) = c.p + n := by (first | omega | (simp (discharger := omega) only [wu8, wu16, wu32, wu64, wi32, wi64, Int.tdiv_eq_ediv_of_nonneg, Int.tmod_eq_emod_of_nonneg]; omega) | (simp only [List.length_append, List.length_cons, List.length_nil, bl_length, List.length_take, List.length_drop]; omega) | (simp (discharger := omega) [-List.getD_eq_getElem?_getD, wu8, wu16, wu32, wu64, wi32, wi64, Int.tdiv_eq_ediv_of_nonneg, Int.tmod_eq_emod_of_nonneg]; done) | (simp (discharger := omega) [-List.getD_eq_getElem?_getD, wu8, wu16, wu32, wu64, wi32, wi64, Int.tdiv_eq_ediv_of_nonneg, Int.tmod_eq_emod_of_nonneg]; omega))
    have hct := cut_take (s := c.s) (p := c.p) (n := n) ⟨by omega, q1.2.1⟩
    rw [q2, q3, hpn, hct]
    refine EndP.mk [] ?_ <;> (repeat' first | trivial | rfl | exact eqS _ _ | refine And.intro ?_ ?_ | refine eqA ?_ | refine eqB ?_ | refine eqC ?_ | refine eqD ?_ | refine eqE ?_ | refine eqF ?_ | refine eqG ?_ | refine eqH ?_ | refine eqI ?_ ?_)
    all_goals first
      | (dsimp only; omega)
      | assumption
  · obtain ⟨q1, q2⟩ := why_n (c := c) (n := n) (by assumption)
    rw [q1, q2]
    refine EndP.mk [] ?_ <;> (repeat' first | trivial | rfl | exact eqS _ _ | refine And.intro ?_ ?_ | refine eqA ?_ | refine eqB ?_ | refine eqC ?_ | refine eqD ?_ | refine eqE ?_ | refine eqF ?_ | refine eqG ?_ | refine eqH ?_ | refine eqI ?_ ?_)
def sm_r01Take : Sm := fun args σ => match args, σ with
  | [.agg [.str s_c, .int .i64 (.ofNat a_c), .int .i64 (.ofNat e_c), .int .i64 c_c], .int .i64 n], [] => some (True ∧ ((Cu.mk s_c a_c e_c c_c).ok ∧ (Cu.mk s_c a_c e_c c_c).s.length ≤ 1000000000), .tuple [eCa ((Cu.mk s_c a_c e_c c_c).pass n), .str ((Cu.mk s_c a_c e_c c_c).takeV n)], none)
  | _, _ => none
theorem k_r01Take : SOK 93 sm_r01Take := by
  intro args sg pre x r he hp
  unfold sm_r01Take at he
  split at he <;> cases he
  · rw [viewCa (hp).1]; exact f_r01Take_1 (hp := hp.2) ..
theorem f_r02OfLow_1 (s : List UInt8) (hp : s.length ≤ 8) : OK 103 ([.str s]) ([]) (.int .u64 (lowR s)) (none) := by
  refine funOK_of_vc (C := cx []) (good trivial) (fn := Tryd.f103) rfl rfl rfl rfl fun hw hs => ?_
  repeat' (
    conv => whnf
    first
    | with_reducible (first | refine go1 (fun j q h => ?_) fun h => ?_ | refine go2 ⟨rfl, rfl⟩ (fun h => ?_) fun j h => ?_ | refine go2 ?_ (fun h => ?_) fun j h => ?_)
    | refine go3 ?_ ?_ | refine go4 ?_ ?_ | refine go5 ?_
    | refine go6 (fun h => ?_) fun h => ?_ | refine go7 (fun h => ?_) fun h => ?_ | refine go8 (fun h => ?_) fun h => ?_ | refine go9 (fun h => ?_) fun h => ?_ | refine goA (fun h => ?_) fun h => ?_
    | with_reducible (first | refine IdxK.mk _ rfl ?_ | refine goB ?_ fun hc => ?_ | refine goC ?_ fun hc => ?_ | refine goD ?_ fun hc => ?_ | refine goE ?_ fun hc => ?_ | refine goF ?_ ?_ | refine goG ?_ ?_ | refine goH ?_ fun b hb => ?_)
    | refine goI ?_ | refine goJ ?_ ?_ | refine goK ?_ ?_ ?_ | refine goL ?_ ?_ ?_ ?_ | refine goM ?_ ?_ ?_ ?_ ?_ | refine goN ?_ ?_ | refine goO ?_ ?_
    | with_reducible refine goP ?_)
  all_goals try conv => whnf
  all_goals try (refine Side.mk ?_; try dsimp only)
  refine LoopP.mk Nat (fun m => m ≤ s.length) (fun m => ⟨20, [(0, .str s), (3, .int .u64 (lowR (s.drop m))), (4, .int .i64 ((m : Int) - 1))], [], []⟩) (fun m => m) [] s.length (Nat.le_refl _) ?_ (fun m hm _ _ => ?_)
  · refine Go.VG.Sub.mk rfl ?_ ?_ ?_ ?_ <;> (repeat' first | trivial | rfl | exact eqS _ _ | refine And.intro ?_ ?_ | refine eqA ?_ | refine eqB ?_ | refine eqC ?_ | refine eqD ?_ | refine eqE ?_ | refine eqF ?_ | refine eqG ?_ | refine eqH ?_ | refine eqI ?_ ?_)
    · rw [List.drop_length]; rfl
    · (first | omega | (simp (discharger := omega) only [wu8, wu16, wu32, wu64, wi32, wi64, Int.tdiv_eq_ediv_of_nonneg, Int.tmod_eq_emod_of_nonneg]; omega) | (simp only [List.length_append, List.length_cons, List.length_nil, bl_length, List.length_take, List.length_drop]; omega) | (simp (discharger := omega) [-List.getD_eq_getElem?_getD, wu8, wu16, wu32, wu64, wi32, wi64, Int.tdiv_eq_ediv_of_nonneg, Int.tmod_eq_emod_of_nonneg]; done) | (simp (discharger := omega) [-List.getD_eq_getElem?_getD, wu8, wu16, wu32, wu64, wi32, wi64, Int.tdiv_eq_ediv_of_nonneg, Int.tmod_eq_emod_of_nonneg]; omega))
  have hst := fun h => lowR_step (s := s) (m := m - 1) h
  have hbb := fun h => lowR_b (m := m) hp h
  repeat' (
    conv => whnf
    first
    | with_reducible (first | refine go1 (fun j q h => ?_) fun h => ?_ | refine go2 ⟨rfl, rfl⟩ (fun h => ?_) fun j h => ?_ | refine go2 ?_ (fun h => ?_) fun j h => ?_)
    | refine go3 ?_ ?_ | refine go4 ?_ ?_ | refine go5 ?_
    | refine go6 (fun h => ?_) fun h => ?_ | refine go7 (fun h => ?_) fun h => ?_ | refine go8 (fun h => ?_) fun h => ?_ | refine go9 (fun h => ?_) fun h => ?_ | refine goA (fun h => ?_) fun h => ?_
    | with_reducible (first | refine IdxK.mk _ rfl ?_ | refine goB ?_ fun hc => ?_ | refine goC ?_ fun hc => ?_ | refine goD ?_ fun hc => ?_ | refine goE ?_ fun hc => ?_ | refine goF ?_ ?_ | refine goG ?_ ?_ | refine goH ?_ fun b hb => ?_)
    | refine goI ?_ | refine goJ ?_ ?_ | refine goK ?_ ?_ ?_ | refine goL ?_ ?_ ?_ ?_ | refine goM ?_ ?_ ?_ ?_ ?_ | refine goN ?_ ?_ | refine goO ?_ ?_
    | with_reducible refine goP ?_)
  all_goals try conv => whnf
  all_goals try (refine Side.mk ?_; try dsimp only)
  all_goals (try simp only [Cu_eta] at *)
  all_goals first
    | (show LoopP _ _ _ _; skip)
    | (show GotoP _ _ _ _ _; skip)
    | (show EndP _ _ _ _ _ _; skip)
    | (show ∃ _, _; skip)
    | (first
          | trivial
          | omega
          | (simp (discharger := omega) only [wu8, wu16, wu32, wu64, wi32, wi64, Int.tdiv_eq_ediv_of_nonneg, Int.tmod_eq_emod_of_nonneg]; omega)
          | (simp only [List.length_append, List.length_cons, List.length_nil, bl_length, List.length_take, List.length_drop]; omega)
          | (simp (discharger := omega) [-List.getD_eq_getElem?_getD, wu8, wu16, wu32, wu64, wi32, wi64, Int.tdiv_eq_ediv_of_nonneg, Int.tmod_eq_emod_of_nonneg]; done)
          | (simp (discharger := omega) [-List.getD_eq_getElem?_getD, wu8, wu16, wu32, wu64, wi32, wi64, Int.tdiv_eq_ediv_of_nonneg, Int.tmod_eq_emod_of_nonneg]; omega))
    | skip
  · obtain ⟨q, rfl⟩ : ∃ q, m = q + 1 := ⟨m - 1, by omega⟩
    have hst := hst (by omega)
    have hbb := hbb (by omega)
    have h256 := (s.getD q 0).toNat_lt
    rw [show q + 1 - 1 = q by omega] at hst
    refine ⟨[], q, by omega, ?_, by omega⟩
    refine Go.VG.Sub.mk rfl ?_ ?_ ?_ ?_ <;> (repeat' first | trivial | rfl | exact eqS _ _ | refine And.intro ?_ ?_ | refine eqA ?_ | refine eqB ?_ | refine eqC ?_ | refine eqD ?_ | refine eqE ?_ | refine eqF ?_ | refine eqG ?_ | refine eqH ?_ | refine eqI ?_ ?_)
    · rw [show (((q + 1 : Nat) : Int) - 1).toNat = q by omega, hst]
      rw [show IntKind.u64.wrap (256 * ((lowR (List.drop (q + 1) s) : Nat) : Int)) = 256 * ((lowR (List.drop (q + 1) s) : Nat) : Int) by rw [wu64]; omega,
        show IntKind.u64.wrap (((s.getD q 0).toNat : Nat) : Int) = (((s.getD q 0).toNat : Nat) : Int) by rw [wu64]; omega]
      rw [wu64]; omega
    · (first | omega | (simp (discharger := omega) only [wu8, wu16, wu32, wu64, wi32, wi64, Int.tdiv_eq_ediv_of_nonneg, Int.tmod_eq_emod_of_nonneg]; omega) | (simp only [List.length_append, List.length_cons, List.length_nil, bl_length, List.length_take, List.length_drop]; omega) | (simp (discharger := omega) [-List.getD_eq_getElem?_getD, wu8, wu16, wu32, wu64, wi32, wi64, Int.tdiv_eq_ediv_of_nonneg, Int.tmod_eq_emod_of_nonneg]; done) | (simp (discharger := omega) [-List.getD_eq_getElem?_getD, wu8, wu16, wu32, wu64, wi32, wi64, Int.tdiv_eq_ediv_of_nonneg, Int.tmod_eq_emod_of_nonneg]; omega))
  · obtain rfl : m = 0 := by omega
    refine EndP.mk [] ?_ <;> (repeat' first | trivial | rfl | exact eqS _ _ | refine And.intro ?_ ?_ | refine eqA ?_ | refine eqB ?_ | refine eqC ?_ | refine eqD ?_ | refine eqE ?_ | refine eqF ?_ | refine eqG ?_ | refine eqH ?_ | refine eqI ?_ ?_)
def sm_r02OfLow : Sm := fun args σ => match args, σ with
  | [.str s], [] => some (s.length ≤ 8, .int .u64 (lowR s), none)
  | _, _ => none
theorem k_r02OfLow : SOK 103 sm_r02OfLow := by
  intro args sg pre x r he hp
  unfold sm_r02OfLow at he
  split at he <;> cases he
  · exact f_r02OfLow_1 (hp := hp) ..
theorem f_r02ReadLow_1 (c : Cu) (n : Int) (hp : (c.ok ∧ c.s.length ≤ 1000000000) ∧ n ≤ 8) : OK 92 ([eCa c, .int .i64 n]) ([]) (.tuple [eCa (c.pass n), .int .u64 (lowR (c.takeV n))]) (none) := by
  refine funOK_of_vc (C := cx [(93, sm_r01Take), (103, sm_r02OfLow)]) (good ⟨k_r01Take, k_r02OfLow, trivial⟩) (fn := Tryd.f92) rfl rfl rfl rfl fun hw hs => ?_
  obtain ⟨hp, hn⟩ := hp
  have htl : (c.takeV n).length ≤ 8 := by
    unfold Cu.takeV
    split
    · rw [List.length_take]; omega
    · simp
  repeat' (
    conv => whnf
    first
    | with_reducible (first | refine go1 (fun j q h => ?_) fun h => ?_ | refine go2 ⟨rfl, rfl⟩ (fun h => ?_) fun j h => ?_ | refine go2 ?_ (fun h => ?_) fun j h => ?_)
    | refine go3 ?_ ?_ | refine go4 ?_ ?_ | refine go5 ?_
    | refine go6 (fun h => ?_) fun h => ?_ | refine go7 (fun h => ?_) fun h => ?_ | refine go8 (fun h => ?_) fun h => ?_ | refine go9 (fun h => ?_) fun h => ?_ | refine goA (fun h => ?_) fun h => ?_
    | with_reducible (first | refine IdxK.mk _ rfl ?_ | refine goB ?_ fun hc => ?_ | refine goC ?_ fun hc => ?_ | refine goD ?_ fun hc => ?_ | refine goE ?_ fun hc => ?_ | refine goF ?_ ?_ | refine goG ?_ ?_ | refine goH ?_ fun b hb => ?_)
    | refine goI ?_ | refine goJ ?_ ?_ | refine goK ?_ ?_ ?_ | refine goL ?_ ?_ ?_ ?_ | refine goM ?_ ?_ ?_ ?_ ?_ | refine goN ?_ ?_ | refine goO ?_ ?_
    | with_reducible refine goP ?_)
  all_goals try conv => whnf
  all_goals try (refine Side.mk ?_; try dsimp only)
  all_goals (try simp only [Cu_eta] at *)
  all_goals first
    | (show LoopP _ _ _ _; skip)
    | (show GotoP _ _ _ _ _; skip)
    | (show EndP _ _ _ _ _ _; skip)
    | (show ∃ _, _; skip)
    | (first
          | trivial
          | omega
          | (simp (discharger := omega) only [wu8, wu16, wu32, wu64, wi32, wi64, Int.tdiv_eq_ediv_of_nonneg, Int.tmod_eq_emod_of_nonneg]; omega)
          | (simp only [List.length_append, List.length_cons, List.length_nil, bl_length, List.length_take, List.length_drop]; omega)
          | (simp (discharger := omega) [-List.getD_eq_getElem?_getD, wu8, wu16, wu32, wu64, wi32, wi64, Int.tdiv_eq_ediv_of_nonneg, Int.tmod_eq_emod_of_nonneg]; done)
          | (simp (discharger := omega) [-List.getD_eq_getElem?_getD, wu8, wu16, wu32, wu64, wi32, wi64, Int.tdiv_eq_ediv_of_nonneg, Int.tmod_eq_emod_of_nonneg]; omega))
    | skip
  all_goals first
    | exact hp
    | (refine EndP.mk [] ?_ <;> (repeat' first | trivial | rfl | exact eqS _ _ | refine And.intro ?_ ?_ | refine eqA ?_ | refine eqB ?_ | refine eqC ?_ | refine eqD ?_ | refine eqE ?_ | refine eqF ?_ | refine eqG ?_ | refine eqH ?_ | refine eqI ?_ ?_)
       done)
def sm_r02ReadLow : Sm := fun args σ => match args, σ with
  | [.agg [.str s_c, .int .i64 (.ofNat a_c), .int .i64 (.ofNat e_c), .int .i64 c_c], .int .i64 n], [] => some (True ∧ (((Cu.mk s_c a_c e_c c_c).ok ∧ (Cu.mk s_c a_c e_c c_c).s.length ≤ 1000000000) ∧ n ≤ 8), .tuple [eCa ((Cu.mk s_c a_c e_c c_c).pass n), .int .u64 (lowR ((Cu.mk s_c a_c e_c c_c).takeV n))], none)
  | _, _ => none
theorem k_r02ReadLow : SOK 92 sm_r02ReadLow := by
  intro args sg pre x r he hp
  unfold sm_r02ReadLow at he
  split at he <;> cases he
  · rw [viewCa (hp).1]; exact f_r02ReadLow_1 (hp := hp.2) ..
end Go.Proofs.YtbeejnmeakcpjaaDoor
