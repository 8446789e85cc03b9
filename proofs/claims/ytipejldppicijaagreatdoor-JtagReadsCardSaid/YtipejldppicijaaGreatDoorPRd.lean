/-
  A part of the proof.
-/
import Derived.Test.YtipejldppicijaaGreatDoorCRt
set_option linter.unusedSimpArgs false
set_option linter.unusedVariables false
set_option maxHeartbeats 4000000
namespace Go.Proofs.YtipejldppicijaaGreatDoor
open Go Go.VG
set_option maxRecDepth 100000
abbrev aY (c : Cu) : V := .agg [.str c.s, .int .i64 c.p, .int .i64 c.e, .int .i64 c.c]
theorem eF {s : List UInt8} {a e : Nat} {c : Int} (_ : True) : V.agg [.str s, .int .i64 (.ofNat a), .int .i64 (.ofNat e), .int .i64 c] = aY ⟨s, a, e, c⟩ := rfl
def Cu.kg (c : Cu) (n : Int) : Int := (c.pass n).c
theorem ra (c : Cu) (n : Int) : c.kg n = if c.c ≠ 0 then c.c else if n < 0 then 13 else if (c.e : Int) - c.p < n then 1 else 0 := by
 unfold Cu.kg Cu.pass
 by_cases h : c.c ≠ 0
 . rw [if_pos h, if_pos h]
 . rw [if_neg h, if_neg h]
   by_cases h2 : n < 0
   . rw [if_pos h2, if_pos h2]
   . rw [if_neg h2, if_neg h2]
     by_cases h3 : n > (c.e : Int) - c.p
     . rw [if_pos h3, if_pos (by omega)]
     . rw [if_neg h3, if_neg (by omega)]; simpa using h
theorem zZ {c : Cu} {n : Int} (h : c.kg n = 0) : (c.c = 0 ∧ 0 ≤ n ∧ n ≤ (c.e : Int) - c.p) ∧ c.pass n = ⟨c.s, c.p + n.toNat, c.e, 0⟩ ∧ c.bK n = (c.s.drop c.p).take n.toNat := by
 have hc : c.c = 0 ∧ 0 ≤ n ∧ n ≤ (c.e : Int) - c.p := by
  rw [ra] at h
  split at h
  . rename_i q; exact absurd h q
  . split at h
    . cases h
    . split at h
      . cases h
      . rename_i q1 q2 q3; exact ⟨by simpa using q1, by omega, by omega⟩
 refine ⟨hc, ?_, ?_⟩
 . unfold Cu.pass
   rw [if_neg (by omega), if_neg (by omega), if_neg (by omega), hc.1]
 . unfold Cu.bK Cu.may
   rw [if_pos (decide_eq_true hc)]
theorem why_n {c : Cu} {n : Int} (h : ¬ c.kg n = 0) : c.pass n = ⟨c.s, c.p, c.e, c.kg n⟩ ∧ c.bK n = [] := by
 have h0 := h
 rw [ra] at h
 have hm : ¬ (c.c = 0 ∧ 0 ≤ n ∧ n ≤ (c.e : Int) - c.p) := fun q => h (by rw [if_neg (by omega), if_neg (by omega), if_neg (by omega)])
 constructor
 . unfold Cu.kg
   unfold Cu.pass
   by_cases q : c.c ≠ 0
   . rw [if_pos q]
   . rw [if_neg q]
     by_cases q2 : n < 0
     . rw [if_pos q2]
     . rw [if_neg q2, if_pos (by omega)]
 . unfold Cu.bK Cu.may
   rw [if_neg (by rw [decide_eq_false hm]; decide)]
theorem CC (s : List UInt8) (hp : True) : OK 37 ([.str s]) ([]) (aY (.new s)) (none) := by
 refine ah (C := cx []) (ai trivial) (fn := Tryz.f37) rfl rfl rfl rfl fun hw hs => ?_
 all_goals try conv => whnf
 all_goals try (refine a7.mk ?_; try dsimp only)
 all_goals try refine stay ?_
 refine a6.mk [] ?_ <;> (repeat' first | trivial)
def ou : Sm := fun args σ => match args, σ with
 | [.str s], [] => some (True, aY (.new s), none)
 | _, _ => none
theorem sm : a9 37 ou := by
 intro args sg pre x r he hp
 unfold ou at he
 split at he <;> cases he
 . exact CC (hp := hp) ..
theorem CE (c : Cu) (n : Int) (hp : c.ok ∧ c.s.length ≤ 1000000000) : OK 128 ([aY c, .int .i64 n]) ([]) (.int .i64 (c.kg n)) (none) := by
 refine ah (C := cx []) (ai trivial) (fn := Tryz.f128) rfl rfl rfl rfl fun hw hs => ?_
 obtain ⟨hp, hl⟩ := hp
 have h1 := hp.1
 have h2 := hp.2
 rw [ra]
 repeat' ((conv => whnf); first | apply ax | (apply ae <;> intro h))
 all_goals try conv => whnf
 all_goals try (refine a7.mk ?_; try dsimp only)
 all_goals try refine stay ?_
 all_goals
  have hs1 : IntKind.i64.wrap ((c.e : Int) - c.p) = (c.e : Int) - c.p := by (simp (discharger := omega) only [wR]; omega)
  try simp only [hs1] at *
  repeat (first | rw [if_pos (by first | assumption | omega)] | rw [if_neg (by first | assumption | omega)])
  refine a6.mk [] ?_ <;> (repeat' first | trivial)
def tV : Sm := fun args σ => match args, σ with
 | [.agg [.str s_c, .int .i64 (.ofNat a_c), .int .i64 (.ofNat e_c), .int .i64 c_c], .int .i64 n], [] => some (True ∧ ((Cu.mk s_c a_c e_c c_c).ok ∧ (Cu.mk s_c a_c e_c c_c).s.length ≤ 1000000000), .int .i64 ((Cu.mk s_c a_c e_c c_c).kg n), none)
 | _, _ => none
theorem EJ : a9 128 tV := by
 intro args sg pre x r he hp
 unfold tV at he
 split at he <;> cases he
 . rw [eF (hp).1]; exact CE (hp := hp.2) ..
theorem CB (c : Cu) (k : Int) (hp : True) : OK 76 ([aY c, .int .i64 k]) ([]) (aY (c.fail k)) (none) := by
 refine ah (C := cx []) (ai trivial) (fn := Tryz.f76) rfl rfl rfl rfl fun hw hs => ?_
 repeat' ((conv => whnf); (apply ae <;> intro h))
 all_goals try conv => whnf
 all_goals try (refine a7.mk ?_; try dsimp only)
 all_goals try refine stay ?_
 all_goals
  unfold Cu.fail
  first | rw [if_pos (by assumption)] | rw [if_neg (by assumption)]
  refine a6.mk [] ?_ <;> (repeat' first | trivial)
def iq : Sm := fun args σ => match args, σ with
 | [.agg [.str s_c, .int .i64 (.ofNat a_c), .int .i64 (.ofNat e_c), .int .i64 c_c], .int .i64 k], [] => some (True ∧ (True), aY ((Cu.mk s_c a_c e_c c_c).fail k), none)
 | _, _ => none
theorem jP : a9 76 iq := by
 intro args sg pre x r he hp
 unfold iq at he
 split at he <;> cases he
 . rw [eF (hp).1]; exact CB (hp := hp.2) ..
theorem CD (c : Cu) (n : Int) (hp : c.ok ∧ c.s.length ≤ 1000000000) : OK 81 ([aY c, .int .i64 n]) ([]) (.tuple [aY (c.pass n), .str (c.bK n)]) (none) := by
 refine ah (C := cx [(128, tV)]) (ai ⟨EJ, trivial⟩) (fn := Tryz.f81) rfl rfl rfl rfl fun hw hs => ?_
 obtain ⟨hp, hl⟩ := hp
 have h1 := hp.1
 have h2 := hp.2
 have hy := ra c n
 repeat' ((conv => whnf); first | apply ab | apply ax | (apply ae <;> intro h))
 all_goals try conv => whnf
 all_goals try (refine a7.mk ?_; try dsimp only)
 all_goals (try simp only [aU] at *)
 all_goals first | refine stay ?_ | trivial | (simp (discharger := omega) only [wR]; omega) | skip
 . obtain ⟨q1, q2, q3⟩ := zZ (by assumption)
   have hpn : IntKind.i64.wrap ((c.p : Int) + n) = c.p + n := by (simp (discharger := omega) only [wR]; omega)
   have hct := vu (s := c.s) (p := c.p) (n := n) ⟨by omega, q1.2.1⟩
   rw [q2, q3, hpn, hct]
   refine a6.mk [] ?_ <;> (repeat' first | trivial | apply ak | apply az | apply dq | apply bT | apply bo)
   all_goals first
    | (dsimp only; omega)
    | assumption
 . obtain ⟨q1, q2⟩ := why_n (c := c) (n := n) (by assumption)
   rw [q1, q2]
   refine a6.mk [] ?_ <;> (repeat' first | trivial)
def mE : Sm := fun args σ => match args, σ with
 | [.agg [.str s_c, .int .i64 (.ofNat a_c), .int .i64 (.ofNat e_c), .int .i64 c_c], .int .i64 n], [] => some (True ∧ ((Cu.mk s_c a_c e_c c_c).ok ∧ (Cu.mk s_c a_c e_c c_c).s.length ≤ 1000000000), .tuple [aY ((Cu.mk s_c a_c e_c c_c).pass n), .str ((Cu.mk s_c a_c e_c c_c).bK n)], none)
 | _, _ => none
theorem pI : a9 81 mE := by
 intro args sg pre x r he hp
 unfold mE at he
 split at he <;> cases he
 . rw [eF (hp).1]; exact CD (hp := hp.2) ..
theorem CG (s : List UInt8) (hp : s.length ≤ 8) : OK 89 ([.str s]) ([]) (.int .u64 (eR s)) (none) := by
 refine ah (C := cx []) (ai trivial) (fn := Tryz.f89) rfl rfl rfl rfl fun hw hs => ?_
 all_goals try conv => whnf
 all_goals try (refine a7.mk ?_; try dsimp only)
 refine c5.mk Nat (fun m => m ≤ s.length) (fun m => ⟨20, [(0, .str s), (3, .int .u64 (eR (s.drop m))), (4, .int .i64 ((m : Int) - 1))], [], []⟩) (fun m => m) [] s.length (Nat.le_refl _) ?_ (fun m hm _ _ => ?_)
 . refine Go.VG.Sub.mk rfl ?_ ?_ ?_ ?_ <;> (repeat' first | trivial | apply ak | apply az)
   . rw [List.drop_length]; rfl
   . (simp (discharger := omega) only [wR]; omega)
 have hst := fun h => xV (s := s) (m := m - 1) h
 have hbb := fun h => xU (m := m) hp h
 repeat' ((conv => whnf); first | apply ab | (apply ae <;> intro h) | with_reducible refine gJ ?_ fun hc => ?_)
 all_goals try conv => whnf
 all_goals try (refine a7.mk ?_; try dsimp only)
 all_goals (try simp only [aU] at *)
 all_goals first | refine stay ?_ | trivial | omega | skip
 . obtain ⟨q, rfl⟩ : ∃ q, m = q + 1 := ⟨m - 1, by omega⟩
   have hst := hst (by omega)
   have hbb := hbb (by omega)
   have h256 := (s.getD q 0).toNat_lt
   rw [show q + 1 - 1 = q by omega] at hst
   refine ⟨[], q, by omega, ?_, by omega⟩
   refine Go.VG.Sub.mk rfl ?_ ?_ ?_ ?_ <;> (repeat' first | trivial | apply ak | apply az)
   . rw [show (((q + 1 : Nat) : Int) - 1).toNat = q by omega, hst]
     rw [show IntKind.u64.wrap (256 * ((eR (List.drop (q + 1) s) : Nat) : Int)) = 256 * ((eR (List.drop (q + 1) s) : Nat) : Int) by rw [cm]; omega,
      show IntKind.u64.wrap (((s.getD q 0).toNat : Nat) : Int) = (((s.getD q 0).toNat : Nat) : Int) by rw [cm]; omega]
     rw [cm]; omega
   . (simp (discharger := omega) only [wR]; omega)
 . obtain rfl : m = 0 := by omega
   refine a6.mk [] ?_ <;> (repeat' first | trivial)
def tX : Sm := fun args σ => match args, σ with
 | [.str s], [] => some (s.length ≤ 8, .int .u64 (eR s), none)
 | _, _ => none
theorem EL : a9 89 tX := by
 intro args sg pre x r he hp
 unfold tX at he
 split at he <;> cases he
 . exact CG (hp := hp) ..
end Go.Proofs.YtipejldppicijaaGreatDoor
