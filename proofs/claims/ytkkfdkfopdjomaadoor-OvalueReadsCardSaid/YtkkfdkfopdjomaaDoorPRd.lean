/-
  The document's cursor, numbers and words.
-/
import Derived.Test.YtkkfdkfopdjomaaDoorCRt
set_option linter.unusedSimpArgs false
set_option linter.unusedVariables false
set_option maxHeartbeats 4000000
namespace Go.Proofs.YtkkfdkfopdjomaaDoor
open Go Go.VG
set_option maxRecDepth 100000
abbrev eCa (c : Cu) : V := .agg [.str c.s, .int .i64 c.p, .int .i64 c.e, .int .i64 c.c]
theorem viewCa {s : List UInt8} {a e : Nat} {c : Int} (_ : True) : V.agg [.str s, .int .i64 (.ofNat a), .int .i64 (.ofNat e), .int .i64 c] = eCa ⟨s, a, e, c⟩ := rfl
def Cu.why (c : Cu) (n : Int) : Int := (c.pass n).c
theorem why_eq (c : Cu) (n : Int) : c.why n = if c.c ≠ 0 then c.c else if n < 0 then 13 else if (c.e : Int) - c.p < n then 1 else 0 := by
  unfold Cu.why Cu.pass
  by_cases h : c.c ≠ 0
  · rw [if_pos h, if_pos h]
  · rw [if_neg h, if_neg h]
    by_cases h2 : n < 0
    · rw [if_pos h2, if_pos h2]
    · rw [if_neg h2, if_neg h2]
      by_cases h3 : n > (c.e : Int) - c.p
      · rw [if_pos h3, if_pos (by omega)]
      · rw [if_neg h3, if_neg (by omega)]; simpa using h
theorem why_0 {c : Cu} {n : Int} (h : c.why n = 0) : (c.c = 0 ∧ 0 ≤ n ∧ n ≤ (c.e : Int) - c.p) ∧ c.pass n = ⟨c.s, c.p + n.toNat, c.e, 0⟩ ∧ c.takeV n = (c.s.drop c.p).take n.toNat := by
  have hc : c.c = 0 ∧ 0 ≤ n ∧ n ≤ (c.e : Int) - c.p := by
    rw [why_eq] at h
    split at h
    · rename_i q; exact absurd h q
    · split at h
      · cases h
      · split at h
        · cases h
        · rename_i q1 q2 q3; exact ⟨by simpa using q1, by omega, by omega⟩
  refine ⟨hc, ?_, ?_⟩
  · unfold Cu.pass
    rw [if_neg (by omega), if_neg (by omega), if_neg (by omega), hc.1]
  · unfold Cu.takeV Cu.may
    rw [if_pos (decide_eq_true hc)]
theorem why_n {c : Cu} {n : Int} (h : ¬ c.why n = 0) : c.pass n = ⟨c.s, c.p, c.e, c.why n⟩ ∧ c.takeV n = [] := by
  have h0 := h
  rw [why_eq] at h
  have hm : ¬ (c.c = 0 ∧ 0 ≤ n ∧ n ≤ (c.e : Int) - c.p) := fun q => h (by rw [if_neg (by omega), if_neg (by omega), if_neg (by omega)])
  constructor
  · unfold Cu.why
    unfold Cu.pass
    by_cases q : c.c ≠ 0
    · rw [if_pos q]
    · rw [if_neg q]
      by_cases q2 : n < 0
      · rw [if_pos q2]
      · rw [if_neg q2, if_pos (by omega)]
  · unfold Cu.takeV Cu.may
    rw [if_neg (by rw [decide_eq_false hm]; decide)]
theorem f_r01New_1 (s : List UInt8) (hp : True) : OK 37 ([.str s]) ([]) (eCa (.new s)) (none) := by
  refine funOK_of_vc (C := cx []) (good trivial) (fn := Tryd.f37) rfl rfl rfl rfl fun hw hs => ?_
  all_goals try conv => whnf
  all_goals try (refine Side.mk ?_; try dsimp only)
  all_goals try refine stay ?_
  refine EndP.mk [] ?_ <;> (repeat' first | trivial)
def sm_r01New : Sm := fun args σ => match args, σ with
  | [.str s], [] => some (True, eCa (.new s), none)
  | _, _ => none
theorem k_r01New : SOK 37 sm_r01New := by
  intro args sg pre x r he hp
  unfold sm_r01New at he
  split at he <;> cases he
  · exact f_r01New_1 (hp := hp) ..
theorem f_r01why_1 (c : Cu) (n : Int) (hp : c.ok ∧ c.s.length ≤ 1000000000) : OK 73 ([eCa c, .int .i64 n]) ([]) (.int .i64 (c.why n)) (none) := by
  refine funOK_of_vc (C := cx []) (good trivial) (fn := Tryd.f73) rfl rfl rfl rfl fun hw hs => ?_
  obtain ⟨hp, hl⟩ := hp
  have h1 := hp.1
  have h2 := hp.2
  rw [why_eq]
  repeat' ((conv => whnf); first | apply go5 | (apply go6 <;> intro h))
  all_goals try conv => whnf
  all_goals try (refine Side.mk ?_; try dsimp only)
  all_goals try refine stay ?_
  all_goals
    have hs1 : IntKind.i64.wrap ((c.e : Int) - c.p) = (c.e : Int) - c.p := by (simp (discharger := omega) only [wR]; omega)
    try simp only [hs1] at *
    repeat (first | rw [if_pos (by first | assumption | omega)] | rw [if_neg (by first | assumption | omega)])
    refine EndP.mk [] ?_ <;> (repeat' first | trivial)
def sm_r01why : Sm := fun args σ => match args, σ with
  | [.agg [.str s_c, .int .i64 (.ofNat a_c), .int .i64 (.ofNat e_c), .int .i64 c_c], .int .i64 n], [] => some (True ∧ ((Cu.mk s_c a_c e_c c_c).ok ∧ (Cu.mk s_c a_c e_c c_c).s.length ≤ 1000000000), .int .i64 ((Cu.mk s_c a_c e_c c_c).why n), none)
  | _, _ => none
theorem k_r01why : SOK 73 sm_r01why := by
  intro args sg pre x r he hp
  unfold sm_r01why at he
  split at he <;> cases he
  · rw [viewCa (hp).1]; exact f_r01why_1 (hp := hp.2) ..
theorem f_r01Fail_1 (c : Cu) (k : Int) (hp : True) : OK 62 ([eCa c, .int .i64 k]) ([]) (eCa (c.fail k)) (none) := by
  refine funOK_of_vc (C := cx []) (good trivial) (fn := Tryd.f62) rfl rfl rfl rfl fun hw hs => ?_
  repeat' ((conv => whnf); (apply go6 <;> intro h))
  all_goals try conv => whnf
  all_goals try (refine Side.mk ?_; try dsimp only)
  all_goals try refine stay ?_
  all_goals
    unfold Cu.fail
    first | rw [if_pos (by assumption)] | rw [if_neg (by assumption)]
    refine EndP.mk [] ?_ <;> (repeat' first | trivial)
def sm_r01Fail : Sm := fun args σ => match args, σ with
  | [.agg [.str s_c, .int .i64 (.ofNat a_c), .int .i64 (.ofNat e_c), .int .i64 c_c], .int .i64 k], [] => some (True ∧ (True), eCa ((Cu.mk s_c a_c e_c c_c).fail k), none)
  | _, _ => none
theorem k_r01Fail : SOK 62 sm_r01Fail := by
  intro args sg pre x r he hp
  unfold sm_r01Fail at he
  split at he <;> cases he
  · rw [viewCa (hp).1]; exact f_r01Fail_1 (hp := hp.2) ..
theorem f_r01Take_1 (c : Cu) (n : Int) (hp : c.ok ∧ c.s.length ≤ 1000000000) : OK 64 ([eCa c, .int .i64 n]) ([]) (.tuple [eCa (c.pass n), .str (c.takeV n)]) (none) := by
  refine funOK_of_vc (C := cx [(73, sm_r01why)]) (good ⟨k_r01why, trivial⟩) (fn := Tryd.f64) rfl rfl rfl rfl fun hw hs => ?_
  obtain ⟨hp, hl⟩ := hp
  have h1 := hp.1
  have h2 := hp.2
  have hy := why_eq c n
  repeat' ((conv => whnf); first | apply go3 | apply go5 | (apply go6 <;> intro h))
  all_goals try conv => whnf
  all_goals try (refine Side.mk ?_; try dsimp only)
  all_goals (try simp only [Cu_eta] at *)
  all_goals first | refine stay ?_ | trivial | (simp (discharger := omega) only [wR]; omega) | skip
  · obtain ⟨q1, q2, q3⟩ := why_0 (by assumption)
    have hpn : IntKind.i64.wrap ((c.p : Int) + n) = c.p + n := by (simp (discharger := omega) only [wR]; omega)
    have hct := cut_take (s := c.s) (p := c.p) (n := n) ⟨by omega, q1.2.1⟩
    rw [q2, q3, hpn, hct]
    refine EndP.mk [] ?_ <;> (repeat' first | trivial | apply andI | apply eqB | apply eqG | apply eqH | apply eqI)
    all_goals first
      | (dsimp only; omega)
      | assumption
  · obtain ⟨q1, q2⟩ := why_n (c := c) (n := n) (by assumption)
    rw [q1, q2]
    refine EndP.mk [] ?_ <;> (repeat' first | trivial)
def sm_r01Take : Sm := fun args σ => match args, σ with
  | [.agg [.str s_c, .int .i64 (.ofNat a_c), .int .i64 (.ofNat e_c), .int .i64 c_c], .int .i64 n], [] => some (True ∧ ((Cu.mk s_c a_c e_c c_c).ok ∧ (Cu.mk s_c a_c e_c c_c).s.length ≤ 1000000000), .tuple [eCa ((Cu.mk s_c a_c e_c c_c).pass n), .str ((Cu.mk s_c a_c e_c c_c).takeV n)], none)
  | _, _ => none
theorem k_r01Take : SOK 64 sm_r01Take := by
  intro args sg pre x r he hp
  unfold sm_r01Take at he
  split at he <;> cases he
  · rw [viewCa (hp).1]; exact f_r01Take_1 (hp := hp.2) ..
theorem f_r02OfLow_1 (s : List UInt8) (hp : s.length ≤ 8) : OK 72 ([.str s]) ([]) (.int .u64 (lowR s)) (none) := by
  refine funOK_of_vc (C := cx []) (good trivial) (fn := Tryd.f72) rfl rfl rfl rfl fun hw hs => ?_
  all_goals try conv => whnf
  all_goals try (refine Side.mk ?_; try dsimp only)
  refine LoopP.mk Nat (fun m => m ≤ s.length) (fun m => ⟨20, [(0, .str s), (3, .int .u64 (lowR (s.drop m))), (4, .int .i64 ((m : Int) - 1))], [], []⟩) (fun m => m) [] s.length (Nat.le_refl _) ?_ (fun m hm _ _ => ?_)
  · refine Go.VG.Sub.mk rfl ?_ ?_ ?_ ?_ <;> (repeat' first | trivial | apply andI | apply eqB)
    · rw [List.drop_length]; rfl
    · (simp (discharger := omega) only [wR]; omega)
  have hst := fun h => lowR_step (s := s) (m := m - 1) h
  have hbb := fun h => lowR_b (m := m) hp h
  repeat' ((conv => whnf); first | apply go3 | (apply go6 <;> intro h) | with_reducible refine goE ?_ fun hc => ?_)
  all_goals try conv => whnf
  all_goals try (refine Side.mk ?_; try dsimp only)
  all_goals (try simp only [Cu_eta] at *)
  all_goals first | refine stay ?_ | trivial | omega | skip
  · obtain ⟨q, rfl⟩ : ∃ q, m = q + 1 := ⟨m - 1, by omega⟩
    have hst := hst (by omega)
    have hbb := hbb (by omega)
    have h256 := (s.getD q 0).toNat_lt
    rw [show q + 1 - 1 = q by omega] at hst
    refine ⟨[], q, by omega, ?_, by omega⟩
    refine Go.VG.Sub.mk rfl ?_ ?_ ?_ ?_ <;> (repeat' first | trivial | apply andI | apply eqB)
    · rw [show (((q + 1 : Nat) : Int) - 1).toNat = q by omega, hst]
      rw [show IntKind.u64.wrap (256 * ((lowR (List.drop (q + 1) s) : Nat) : Int)) = 256 * ((lowR (List.drop (q + 1) s) : Nat) : Int) by rw [wu64]; omega,
        show IntKind.u64.wrap (((s.getD q 0).toNat : Nat) : Int) = (((s.getD q 0).toNat : Nat) : Int) by rw [wu64]; omega]
      rw [wu64]; omega
    · (simp (discharger := omega) only [wR]; omega)
  · obtain rfl : m = 0 := by omega
    refine EndP.mk [] ?_ <;> (repeat' first | trivial)
def sm_r02OfLow : Sm := fun args σ => match args, σ with
  | [.str s], [] => some (s.length ≤ 8, .int .u64 (lowR s), none)
  | _, _ => none
theorem k_r02OfLow : SOK 72 sm_r02OfLow := by
  intro args sg pre x r he hp
  unfold sm_r02OfLow at he
  split at he <;> cases he
  · exact f_r02OfLow_1 (hp := hp) ..
theorem f_r02ReadLow_1 (c : Cu) (n : Int) (hp : (c.ok ∧ c.s.length ≤ 1000000000) ∧ n ≤ 8) : OK 63 ([eCa c, .int .i64 n]) ([]) (.tuple [eCa (c.pass n), .int .u64 (lowR (c.takeV n))]) (none) := by
  refine funOK_of_vc (C := cx [(64, sm_r01Take), (72, sm_r02OfLow)]) (good ⟨k_r01Take, k_r02OfLow, trivial⟩) (fn := Tryd.f63) rfl rfl rfl rfl fun hw hs => ?_
  obtain ⟨hp, hn⟩ := hp
  have htl : (c.takeV n).length ≤ 8 := by
    unfold Cu.takeV
    split
    · rw [List.length_take]; omega
    · simp
  repeat' ((conv => whnf); first | with_reducible (first | refine go1 (fun j q h => ?_) fun h => ?_ | refine go2 ⟨rfl, rfl⟩ (fun h => ?_) fun j h => ?_ | refine go2 ?_ (fun h => ?_) fun j h => ?_ | refine goQ ?_ (fun h => ?_) fun h => ?_) | apply go3 | apply go4 | apply go5 | ((first | apply go6 | apply go7 | apply go8 | apply go9 | apply goA) <;> intro h) | with_reducible (first | refine IdxK.mk _ rfl ?_ | refine goB ?_ fun hc => ?_ | refine goC ?_ fun hc => ?_ | refine goD ?_ fun hc => ?_ | refine goE ?_ fun hc => ?_ | apply goF | apply goG | refine goH ?_ fun b hb => ?_) | apply goI | apply goJ | apply goK | apply goL | apply goM | apply goN | apply goO | with_reducible refine goP ?_)
  all_goals try conv => whnf
  all_goals try (refine Side.mk ?_; try dsimp only)
  all_goals (try simp only [Cu_eta] at *)
  all_goals first | refine stay ?_ | trivial | omega | (simp (discharger := omega) only [wR]; omega) | (simp only [lnS]; omega) | (simp (discharger := omega) [-List.getD_eq_getElem?_getD, wR] <;> omega) | skip
  all_goals first
    | exact hp
    | (refine EndP.mk [] ?_ <;> (repeat' first | trivial | rfl | exact eqS _ _ | apply andI | apply eqA | apply eqB | apply eqC | apply eqD | apply eqE | apply eqF | apply eqG | apply eqH | apply eqI)
       done)
def sm_r02ReadLow : Sm := fun args σ => match args, σ with
  | [.agg [.str s_c, .int .i64 (.ofNat a_c), .int .i64 (.ofNat e_c), .int .i64 c_c], .int .i64 n], [] => some (True ∧ (((Cu.mk s_c a_c e_c c_c).ok ∧ (Cu.mk s_c a_c e_c c_c).s.length ≤ 1000000000) ∧ n ≤ 8), .tuple [eCa ((Cu.mk s_c a_c e_c c_c).pass n), .int .u64 (lowR ((Cu.mk s_c a_c e_c c_c).takeV n))], none)
  | _, _ => none
theorem k_r02ReadLow : SOK 63 sm_r02ReadLow := by
  intro args sg pre x r he hp
  unfold sm_r02ReadLow at he
  split at he <;> cases he
  · rw [viewCa (hp).1]; exact f_r02ReadLow_1 (hp := hp.2) ..
end Go.Proofs.YtkkfdkfopdjomaaDoor
