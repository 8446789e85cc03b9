/-
  A part of the proof.
-/
import Derived.Test.YtdjolnjlhbfnmaaGreatDoorCRt
set_option linter.unusedSimpArgs false
set_option linter.unusedVariables false
set_option maxHeartbeats 4000000
namespace Go.Proofs.YtdjolnjlhbfnmaaGreatDoor
open Go Go.VG
set_option maxRecDepth 100000
abbrev dI (c : Cu) : V := .agg [.str c.s, .int .i64 c.p, .int .i64 c.e, .int .i64 c.c]
theorem ny {s : List UInt8} {a e : Nat} {c : Int} (_ : True) : V.agg [.str s, .int .i64 (.ofNat a), .int .i64 (.ofNat e), .int .i64 c] = dI ⟨s, a, e, c⟩ := rfl
def Cu.nA (c : Cu) (n : Int) : Int := (c.pass n).c
theorem vr (c : Cu) (n : Int) : c.nA n = if c.c ≠ 0 then c.c else if n < 0 then 13 else if (c.e : Int) - c.p < n then 1 else 0 := by
 unfold Cu.nA Cu.pass
 by_cases h : c.c ≠ 0
 . rw [if_pos h, if_pos h]
 . rw [if_neg h, if_neg h]
   by_cases h2 : n < 0
   . rw [if_pos h2, if_pos h2]
   . rw [if_neg h2, if_neg h2]
     by_cases h3 : n > (c.e : Int) - c.p
     . rw [if_pos h3, if_pos (by omega)]
     . rw [if_neg h3, if_neg (by omega)]; simpa using h
theorem why_0 {c : Cu} {n : Int} (h : c.nA n = 0) : (c.c = 0 ∧ 0 ≤ n ∧ n ≤ (c.e : Int) - c.p) ∧ c.pass n = ⟨c.s, c.p + n.toNat, c.e, 0⟩ ∧ c.c7 n = (c.s.drop c.p).take n.toNat := by
 have hc : c.c = 0 ∧ 0 ≤ n ∧ n ≤ (c.e : Int) - c.p := by
  rw [vr] at h
  split at h
  . rename_i q; exact absurd h q
  . split at h
    . cases h
    . split at h
      . cases h
      . rename_i q1 q2 q3; exact ⟨by simpa using q1, by omega, by omega⟩
 refine ⟨hc, ?_, ?_⟩
 . unfold Cu.pass
   rw [if_neg (by omega), if_neg (by omega), if_neg (by omega), hc.1]
 . unfold Cu.c7 Cu.may
   rw [if_pos (decide_eq_true hc)]
theorem why_n {c : Cu} {n : Int} (h : ¬ c.nA n = 0) : c.pass n = ⟨c.s, c.p, c.e, c.nA n⟩ ∧ c.c7 n = [] := by
 have h0 := h
 rw [vr] at h
 have hm : ¬ (c.c = 0 ∧ 0 ≤ n ∧ n ≤ (c.e : Int) - c.p) := fun q => h (by rw [if_neg (by omega), if_neg (by omega), if_neg (by omega)])
 constructor
 . unfold Cu.nA
   unfold Cu.pass
   by_cases q : c.c ≠ 0
   . rw [if_pos q]
   . rw [if_neg q]
     by_cases q2 : n < 0
     . rw [if_pos q2]
     . rw [if_neg q2, if_pos (by omega)]
 . unfold Cu.c7 Cu.may
   rw [if_neg (by rw [decide_eq_false hm]; decide)]
theorem JF (s : List UInt8) (hp : True) : OK 34 ([.str s]) ([]) (dI (.new s)) (none) := by
 refine al (C := cx []) (aq trivial) (fn := Tryz.f34) rfl rfl rfl rfl fun hw hs => ?_
 all_goals try conv => whnf
 all_goals try (refine ae.mk ?_; try dsimp only)
 all_goals try refine stay ?_
 refine af.mk [] ?_ <;> (repeat' first | trivial)
def yX : Sm := fun args σ => match args, σ with
 | [.str s], [] => some (True, dI (.new s), none)
 | _, _ => none
theorem LW : au 34 yX := by
 intro args sg pre x r he hp
 unfold yX at he
 split at he <;> cases he
 . exact JF (hp := hp) ..
theorem JH (c : Cu) (n : Int) (hp : c.ok ∧ c.s.length ≤ 1000000000) : OK 138 ([dI c, .int .i64 n]) ([]) (.int .i64 (c.nA n)) (none) := by
 refine al (C := cx []) (aq trivial) (fn := Tryz.f138) rfl rfl rfl rfl fun hw hs => ?_
 obtain ⟨hp, hl⟩ := hp
 have h1 := hp.1
 have h2 := hp.2
 rw [vr]
 repeat' ((conv => whnf); first | apply aO | (apply aw <;> intro h))
 all_goals try conv => whnf
 all_goals try (refine ae.mk ?_; try dsimp only)
 all_goals try refine stay ?_
 all_goals
  have hs1 : IntKind.i64.wrap ((c.e : Int) - c.p) = (c.e : Int) - c.p := by (simp (discharger := omega) only [wR]; omega)
  try simp only [hs1] at *
  repeat (first | rw [if_pos (by first | assumption | omega)] | rw [if_neg (by first | assumption | omega)])
  refine af.mk [] ?_ <;> (repeat' first | trivial)
def yY : Sm := fun args σ => match args, σ with
 | [.agg [.str s_c, .int .i64 (.ofNat a_c), .int .i64 (.ofNat e_c), .int .i64 c_c], .int .i64 n], [] => some (True ∧ ((Cu.mk s_c a_c e_c c_c).ok ∧ (Cu.mk s_c a_c e_c c_c).s.length ≤ 1000000000), .int .i64 ((Cu.mk s_c a_c e_c c_c).nA n), none)
 | _, _ => none
theorem LX : au 138 yY := by
 intro args sg pre x r he hp
 unfold yY at he
 split at he <;> cases he
 . rw [ny (hp).1]; exact JH (hp := hp.2) ..
theorem JE (c : Cu) (k : Int) (hp : True) : OK 96 ([dI c, .int .i64 k]) ([]) (dI (c.fail k)) (none) := by
 refine al (C := cx []) (aq trivial) (fn := Tryz.f96) rfl rfl rfl rfl fun hw hs => ?_
 repeat' ((conv => whnf); (apply aw <;> intro h))
 all_goals try conv => whnf
 all_goals try (refine ae.mk ?_; try dsimp only)
 all_goals try refine stay ?_
 all_goals
  unfold Cu.fail
  first | rw [if_pos (by assumption)] | rw [if_neg (by assumption)]
  refine af.mk [] ?_ <;> (repeat' first | trivial)
def v8 : Sm := fun args σ => match args, σ with
 | [.agg [.str s_c, .int .i64 (.ofNat a_c), .int .i64 (.ofNat e_c), .int .i64 c_c], .int .i64 k], [] => some (True ∧ (True), dI ((Cu.mk s_c a_c e_c c_c).fail k), none)
 | _, _ => none
theorem Cs : au 96 v8 := by
 intro args sg pre x r he hp
 unfold v8 at he
 split at he <;> cases he
 . rw [ny (hp).1]; exact JE (hp := hp.2) ..
theorem JG (c : Cu) (n : Int) (hp : c.ok ∧ c.s.length ≤ 1000000000) : OK 98 ([dI c, .int .i64 n]) ([]) (.tuple [dI (c.pass n), .str (c.c7 n)]) (none) := by
 refine al (C := cx [(138, yY)]) (aq ⟨LX, trivial⟩) (fn := Tryz.f98) rfl rfl rfl rfl fun hw hs => ?_
 obtain ⟨hp, hl⟩ := hp
 have h1 := hp.1
 have h2 := hp.2
 have hy := vr c n
 repeat' ((conv => whnf); first | apply aj | apply aO | (apply aw <;> intro h))
 all_goals try conv => whnf
 all_goals try (refine ae.mk ?_; try dsimp only)
 all_goals (try simp only [dc] at *)
 all_goals first | refine stay ?_ | trivial | (simp (discharger := omega) only [wR]; omega) | skip
 . obtain ⟨q1, q2, q3⟩ := why_0 (by assumption)
   have hpn : IntKind.i64.wrap ((c.p : Int) + n) = c.p + n := by (simp (discharger := omega) only [wR]; omega)
   have hct := B0 (s := c.s) (p := c.p) (n := n) ⟨by omega, q1.2.1⟩
   rw [q2, q3, hpn, hct]
   refine af.mk [] ?_ <;> (repeat' first | trivial | apply ax | apply aH | apply cZ | apply cJ | apply bE)
   all_goals first
    | (dsimp only; omega)
    | assumption
 . obtain ⟨q1, q2⟩ := why_n (c := c) (n := n) (by assumption)
   rw [q1, q2]
   refine af.mk [] ?_ <;> (repeat' first | trivial)
def va : Sm := fun args σ => match args, σ with
 | [.agg [.str s_c, .int .i64 (.ofNat a_c), .int .i64 (.ofNat e_c), .int .i64 c_c], .int .i64 n], [] => some (True ∧ ((Cu.mk s_c a_c e_c c_c).ok ∧ (Cu.mk s_c a_c e_c c_c).s.length ≤ 1000000000), .tuple [dI ((Cu.mk s_c a_c e_c c_c).pass n), .str ((Cu.mk s_c a_c e_c c_c).c7 n)], none)
 | _, _ => none
theorem Cv : au 98 va := by
 intro args sg pre x r he hp
 unfold va at he
 split at he <;> cases he
 . rw [ny (hp).1]; exact JG (hp := hp.2) ..
theorem JI (s : List UInt8) (hp : s.length ≤ 8) : OK 137 ([.str s]) ([]) (.int .u64 (fj s)) (none) := by
 refine al (C := cx []) (aq trivial) (fn := Tryz.f137) rfl rfl rfl rfl fun hw hs => ?_
 all_goals try conv => whnf
 all_goals try (refine ae.mk ?_; try dsimp only)
 refine aT.mk Nat (fun m => m ≤ s.length) (fun m => ⟨20, [(0, .str s), (3, .int .u64 (fj (s.drop m))), (4, .int .i64 ((m : Int) - 1))], [], []⟩) (fun m => m) [] s.length (Nat.le_refl _) ?_ (fun m hm _ _ => ?_)
 . refine Go.VG.Sub.mk rfl ?_ ?_ ?_ ?_ <;> (repeat' first | trivial | apply ax | apply aH)
   . rw [List.drop_length]; rfl
   . (simp (discharger := omega) only [wR]; omega)
 have hst := fun h => xe (s := s) (m := m - 1) h
 have hbb := fun h => CU (m := m) hp h
 repeat' ((conv => whnf); first | apply aj | (apply aw <;> intro h) | with_reducible refine jL ?_ fun hc => ?_)
 all_goals try conv => whnf
 all_goals try (refine ae.mk ?_; try dsimp only)
 all_goals (try simp only [dc] at *)
 all_goals first | refine stay ?_ | trivial | omega | skip
 . obtain ⟨q, rfl⟩ : ∃ q, m = q + 1 := ⟨m - 1, by omega⟩
   have hst := hst (by omega)
   have hbb := hbb (by omega)
   have h256 := (s.getD q 0).toNat_lt
   rw [show q + 1 - 1 = q by omega] at hst
   refine ⟨[], q, by omega, ?_, by omega⟩
   refine Go.VG.Sub.mk rfl ?_ ?_ ?_ ?_ <;> (repeat' first | trivial | apply ax | apply aH)
   . rw [show (((q + 1 : Nat) : Int) - 1).toNat = q by omega, hst]
     rw [show IntKind.u64.wrap (256 * ((fj (List.drop (q + 1) s) : Nat) : Int)) = 256 * ((fj (List.drop (q + 1) s) : Nat) : Int) by rw [db]; omega,
      show IntKind.u64.wrap (((s.getD q 0).toNat : Nat) : Int) = (((s.getD q 0).toNat : Nat) : Int) by rw [db]; omega]
     rw [db]; omega
   . (simp (discharger := omega) only [wR]; omega)
 . obtain rfl : m = 0 := by omega
   refine af.mk [] ?_ <;> (repeat' first | trivial)
def yZ : Sm := fun args σ => match args, σ with
 | [.str s], [] => some (s.length ≤ 8, .int .u64 (fj s), none)
 | _, _ => none
theorem LY : au 137 yZ := by
 intro args sg pre x r he hp
 unfold yZ at he
 split at he <;> cases he
 . exact JI (hp := hp) ..
theorem JJ (c : Cu) (n : Int) (hp : (c.ok ∧ c.s.length ≤ 1000000000) ∧ n ≤ 8) : OK 97 ([dI c, .int .i64 n]) ([]) (.tuple [dI (c.pass n), .int .u64 (fj (c.c7 n))]) (none) := by
 refine al (C := cx [(98, va), (137, yZ)]) (aq ⟨Cv, LY, trivial⟩) (fn := Tryz.f97) rfl rfl rfl rfl fun hw hs => ?_
 obtain ⟨hp, hn⟩ := hp
 have htl : (c.c7 n).length ≤ 8 := by
  unfold Cu.c7
  split
  . rw [List.length_take]; omega
  . simp
 repeat' ((conv => whnf); first | with_reducible (first | refine go1 (fun j q h => ?_) fun h => ?_ | refine go2 ⟨rfl, rfl⟩ (fun h => ?_) fun j h => ?_ | refine go2 ?_ (fun h => ?_) fun j h => ?_ | refine goQ ?_ (fun h => ?_) fun h => ?_) | apply aj | apply iN | apply aO | ((first | apply aw | apply go7 | apply go8 | apply fw | apply eG) <;> intro h) | with_reducible (first | refine ez.mk _ rfl ?_ | refine goB ?_ fun hc => ?_ | refine goC ?_ fun hc => ?_ | refine goD ?_ fun hc => ?_ | refine jL ?_ fun hc => ?_ | apply c9 | apply kG | refine pI ?_ fun b hb => ?_) | apply goI | apply goJ | apply goK | apply goL | apply goM | apply goN | apply goO | with_reducible refine goP ?_)
 all_goals try conv => whnf
 all_goals try (refine ae.mk ?_; try dsimp only)
 all_goals (try simp only [dc] at *)
 all_goals first | refine stay ?_ | trivial | omega | (simp (discharger := omega) only [wR]; omega) | (simp only [cL]; omega) | (simp (discharger := omega) [-List.getD_eq_getElem?_getD, wR] <;> omega) | skip
 all_goals first
  | exact hp
  | (refine af.mk [] ?_ <;> (repeat' first | trivial | rfl | exact eN _ _ | apply ax | apply dn | apply aH | apply cR | apply bo | apply cS | apply cU | apply cZ | apply cJ | apply bE)
     done)
def z7 : Sm := fun args σ => match args, σ with
 | [.agg [.str s_c, .int .i64 (.ofNat a_c), .int .i64 (.ofNat e_c), .int .i64 c_c], .int .i64 n], [] => some (True ∧ (((Cu.mk s_c a_c e_c c_c).ok ∧ (Cu.mk s_c a_c e_c c_c).s.length ≤ 1000000000) ∧ n ≤ 8), .tuple [dI ((Cu.mk s_c a_c e_c c_c).pass n), .int .u64 (fj ((Cu.mk s_c a_c e_c c_c).c7 n))], none)
 | _, _ => none
theorem LZ : au 97 z7 := by
 intro args sg pre x r he hp
 unfold z7 at he
 split at he <;> cases he
 . rw [ny (hp).1]; exact JJ (hp := hp.2) ..
end Go.Proofs.YtdjolnjlhbfnmaaGreatDoor
namespace Go.Proofs.YtdjolnjlhbfnmaaGreatDoor
open Go Go.VG
set_option maxRecDepth 100000
def fi (s : List UInt8) (a : Nat) : Nat → Nat → Nat
 | 0, _ => 0
 | j + 1, i => if a + i < s.length then (if (s.getD (a + i) 0).toNat < 128 then i + 1 else fi s a j (i + 1)) else 0
def eT (s : List UInt8) (a : Nat) : Nat := fi s a 10 0
def fE (s : List UInt8) (a : Nat) : Nat → Nat
 | 0 => 0
 | n + 1 => fE s a n + (s.getD (a + n) 0).toNat % 128 * 128 ^ n
theorem Dw (i : Nat) : 2 ^ (7 * i) = 128 ^ i := by rw [Nat.pow_mul]
theorem F7 {s : List UInt8} {a : Nat} : ∀ j i : Nat, i + j = 10 → a + i ≤ s.length → (∀ k, k < i → 128 ≤ (s.getD (a + k) 0).toNat) →
   (fi s a j i = 0 → (eL j i (fE s a i) ⟨s, a + i, s.length, 0⟩).2.c = if a + 10 ≤ s.length then 4 else 1) ∧
   (fi s a j i ≠ 0 → i < fi s a j i ∧ fi s a j i ≤ 10 ∧ a + fi s a j i ≤ s.length ∧
    ((fi s a j i = 10 ∧ (s.getD (a + 9) 0).toNat > 1 → (eL j i (fE s a i) ⟨s, a + i, s.length, 0⟩).2.c = 4) ∧
     (¬ (fi s a j i = 10 ∧ (s.getD (a + 9) 0).toNat > 1) → eL j i (fE s a i) ⟨s, a + i, s.length, 0⟩ = (fE s a (fi s a j i), ⟨s, a + fi s a j i, s.length, 0⟩)))) := by
 intro j
 induction j with
 | zero =>
   intro i hi hl _
   refine ⟨fun _ => ?_, fun h => absurd rfl h⟩
   rw [if_pos (by omega)]
   rfl
 | succ j ih =>
   intro i hi hl hk
   rw [fi, eL]
   by_cases h1 : a + i < s.length
   . rw [if_pos h1]
     have b1 : Cu.byte ⟨s, a + i, s.length, 0⟩ = ⟨s, a + (i + 1), s.length, 0⟩ := by
      unfold Cu.byte Cu.pass
      dsimp only
      rw [if_neg (by decide), if_neg (by decide), if_neg (by omega)]
      rfl
     have b2 : Cu.dG ⟨s, a + i, s.length, 0⟩ = s.getD (a + i) 0 := by
      unfold Cu.dG Cu.get
      dsimp only
      rw [if_pos ⟨rfl, h1⟩]
     rw [b1, b2, if_neg (show ¬ (Cu.mk s (a + (i + 1)) s.length 0).c ≠ 0 from fun h => h rfl)]
     have hs : fE s a (i + 1) = fE s a i + (s.getD (a + i) 0).toNat % 128 * 128 ^ i := rfl
     have h256 := (s.getD (a + i) 0).toNat_lt
     by_cases h9 : i = 9 ∧ (s.getD (a + i) 0).toNat > 1
     . rw [if_pos h9]
       obtain ⟨rfl, h9⟩ := h9
       obtain rfl : j = 0 := by omega
       by_cases h2 : (s.getD (a + 9) 0).toNat < 128
       . rw [if_pos h2]
         exact ⟨fun q => absurd q (by decide), fun _ => ⟨by omega, by omega, by omega, fun _ => rfl, fun q => absurd ⟨rfl, h9⟩ q⟩⟩
       . rw [if_neg h2]
         refine ⟨fun _ => ?_, fun q => absurd rfl q⟩
         rw [if_pos (by omega)]; rfl
     . rw [if_neg h9]
       by_cases h2 : (s.getD (a + i) 0).toNat < 128
       . rw [if_pos h2, if_pos h2]
         refine ⟨fun q => absurd q (by omega), fun _ => ⟨by omega, by omega, by omega, fun q => ?_, fun _ => ?_⟩⟩
         . exact absurd ⟨by omega, by rw [show i = 9 by omega]; exact q.2⟩ h9
         . rw [hs, Dw, Nat.mod_eq_of_lt h2]
       . rw [if_neg h2, if_neg h2]
         have he : fE s a i + ((s.getD (a + i) 0).toNat - 128) * 2 ^ (7 * i) = fE s a (i + 1) := by
          rw [hs, Dw, show (s.getD (a + i) 0).toNat - 128 = (s.getD (a + i) 0).toNat % 128 by omega]
         rw [he]
         obtain ⟨p1, p2⟩ := ih (i + 1) (by omega) (by omega) (fun k hk' => by
          rcases Nat.lt_or_ge k i with q | q
          . exact hk k q
          . rw [show k = i by omega]; omega)
         exact ⟨p1, fun q => ⟨by have := (p2 q).1; omega, (p2 q).2⟩⟩
   . rw [if_neg h1]
     have b1 : Cu.byte ⟨s, a + i, s.length, 0⟩ = ⟨s, a + i, s.length, 1⟩ := by
      unfold Cu.byte Cu.pass
      dsimp only
      rw [if_neg (by decide), if_neg (by decide), if_pos (by omega)]
     rw [b1, if_pos (show (Cu.mk s (a + i) s.length 1).c ≠ 0 from fun h => by cases h)]
     refine ⟨fun _ => ?_, fun q => absurd rfl q⟩
     rw [if_neg (by omega)]
def Cu.aY (c : Cu) : Nat × Cu := if c.bg.2.c = 0 then c.bg else (0, ⟨c.s, c.p, c.e, c.bg.2.c⟩)
theorem zU (s : List UInt8) (a : Nat) : ∀ n, fE s a n < 128 ^ n
 | 0 => Nat.one_pos
 | n + 1 => by
   have := zU s a n
   have h := Nat.mul_le_mul_right (128 ^ n) (show (s.getD (a + n) 0).toNat % 128 ≤ 127 by omega)
   rw [fE, Nat.pow_succ]; omega
theorem JL (s : List UInt8) (q : Int) (hp : 0 ≤ q ∧ q ≤ s.length ∧ s.length ≤ 1000000000) : OK 135 ([.str s, .int .i64 q]) ([]) (.int .i64 (eT s q.toNat)) (none) := by
 refine al (C := cx []) (aq trivial) (fn := Tryz.f135) rfl rfl rfl rfl fun hw hs => ?_
 obtain ⟨a, rfl⟩ := Int.eq_ofNat_of_zero_le hp.1
 rw [Int.toNat_natCast]
 all_goals try conv => whnf
 all_goals try (refine ae.mk ?_; try dsimp only)
 refine aT.mk (Nat × Nat) (fun (j, i) => i + j = 10 ∧ a + i ≤ s.length + 1 ∧ fi s a j i = eT s a) (fun (j, i) => ⟨26, [(0, .str s), (1, .int .i64 a), (5, .int .i64 i)], [], []⟩) (fun x => x.1) [] (10, 0) ⟨rfl, by omega, rfl⟩ ?_ (fun ⟨j, i⟩ ⟨h1, h2, h3⟩ _ _ => ?_)
 . refine Go.VG.Sub.mk rfl ?_ ?_ ?_ ?_ <;> (repeat' first | trivial)
 have hai : IntKind.i64.wrap ((a : Int) + i) = ((a + i : Nat) : Int) := by rw [bc]; omega
 repeat' ((conv => whnf); first | apply aj | (apply aw <;> intro h) | with_reducible refine jL ?_ fun hc => ?_)
 all_goals try conv => whnf
 all_goals try (refine ae.mk ?_; try dsimp only)
 all_goals (try simp only [hai, Int.toNat_natCast] at *)
 all_goals first | refine stay ?_ | omega | skip
 . obtain ⟨m, rfl⟩ : ∃ m, j = m + 1 := ⟨j - 1, by omega⟩
   rw [fi, if_pos (by omega), if_pos (by omega)] at h3
   rw [← h3]
   refine af.mk [] ?_ <;> (repeat' first | trivial | apply ax | apply aH)
   (simp (discharger := omega) only [wR]; omega)
 . obtain ⟨m, rfl⟩ : ∃ m, j = m + 1 := ⟨j - 1, by omega⟩
   rw [fi, if_pos (by omega), if_neg (by omega)] at h3
   refine ⟨[], (m, i + 1), ⟨by omega, by omega, h3⟩, ?_, by show m < m + 1; omega⟩
   refine Go.VG.Sub.mk rfl ?_ ?_ ?_ ?_ <;> (repeat' first | trivial | apply ax | apply aH)
   (simp (discharger := omega) only [wR]; omega)
 . obtain ⟨m, rfl⟩ : ∃ m, j = m + 1 := ⟨j - 1, by omega⟩
   rw [fi, if_neg (by omega)] at h3
   rw [← h3]
   refine af.mk [] ?_ <;> (repeat' first | trivial)
 . obtain rfl : j = 0 := by omega
   rw [fi] at h3
   rw [← h3]
   refine af.mk [] ?_ <;> (repeat' first | trivial)
def za : Sm := fun args σ => match args, σ with
 | [.str s, .int .i64 q], [] => some (0 ≤ q ∧ q ≤ s.length ∧ s.length ≤ 1000000000, .int .i64 (eT s q.toNat), none)
 | _, _ => none
theorem M1 : au 135 za := by
 intro args sg pre x r he hp
 unfold za at he
 split at he <;> cases he
 . exact JL (hp := hp) ..
theorem JN (q : Int) (hp : 0 ≤ q ∧ q ≤ 9) : OK 136 ([.int .i64 q]) ([]) (.int .u64 ((128 ^ q.toNat : Nat) : Int)) (none) := by
 refine al (C := cx []) (aq trivial) (fn := Tryz.f136) rfl rfl rfl rfl fun hw hs => ?_
 obtain ⟨n, rfl⟩ := Int.eq_ofNat_of_zero_le hp.1
 rw [Int.toNat_natCast]
 all_goals try conv => whnf
 all_goals try (refine ae.mk ?_; try dsimp only)
 refine aT.mk Nat (fun i => i ≤ n) (fun i => ⟨13, [(0, .int .i64 n), (3, .int .u64 ((128 ^ i : Nat) : Int)), (4, .int .i64 i)], [], []⟩) (fun i => n - i) [] 0 (Nat.zero_le _) ?_ (fun i hi _ _ => ?_)
 . refine Go.VG.Sub.mk rfl ?_ ?_ ?_ ?_ <;> (repeat' first | trivial)
 have hpw : i < n → 128 ^ i ≤ 72057594037927936 := fun h => Nat.le_trans (Nat.pow_le_pow_right (by decide) (show i ≤ 8 by omega)) (by decide)
 repeat' ((conv => whnf); (apply aw <;> intro h))
 all_goals try conv => whnf
 all_goals try (refine ae.mk ?_; try dsimp only)
 all_goals (try simp only [dc] at *)
 all_goals try refine stay ?_
 . have hpw := hpw (by omega)
   refine ⟨[], i + 1, by omega, ?_, by omega⟩
   refine Go.VG.Sub.mk rfl ?_ ?_ ?_ ?_ <;> (repeat' first | trivial | apply ax | apply aH)
   . rw [db, Nat.pow_succ]; omega
   . (simp (discharger := omega) only [wR]; omega)
 . obtain rfl : i = n := by omega
   refine af.mk [] ?_ <;> (repeat' first | trivial)
def zb : Sm := fun args σ => match args, σ with
 | [.int .i64 q], [] => some (0 ≤ q ∧ q ≤ 9, .int .u64 ((128 ^ q.toNat : Nat) : Int), none)
 | _, _ => none
theorem M3 : au 136 zb := by
 intro args sg pre x r he hp
 unfold zb at he
 split at he <;> cases he
 . exact JN (hp := hp) ..
theorem G2 {c : Cu} (h : ¬ c.c = 0) : c.aY = (0, c) := by
 unfold Cu.aY
 rw [zS h, if_neg h]
theorem G1 {c : Cu} (hc : c.c = 0) (hok : c.ok) (he : c.e = c.s.length) : c.aY =
   if c.p + 10 ≤ c.e ∧ (eT c.s c.p = 0 ∨ eT c.s c.p = 10) ∧ (c.s.getD (c.p + 9) 0).toNat > 1 then (0, ⟨c.s, c.p, c.e, 4⟩)
   else if eT c.s c.p = 0 then (0, ⟨c.s, c.p, c.e, 1⟩) else (fE c.s c.p (eT c.s c.p), ⟨c.s, c.p + eT c.s c.p, c.e, 0⟩) := by
 obtain ⟨s, p, e, cc⟩ := c
 dsimp only at hc he ⊢
 subst hc; subst he
 have hpe : p ≤ s.length := hok.1
 obtain ⟨h1, h2⟩ := F7 (s := s) (a := p) 10 0 rfl (by omega) (fun k hk => absurd hk (Nat.not_lt_zero k))
 have hvl : fi s p 10 0 = eT s p := rfl
 rw [hvl] at h1 h2
 have hvr : Cu.bg ⟨s, p, s.length, 0⟩ = eL 10 0 (fE s p 0) ⟨s, p + 0, s.length, 0⟩ := rfl
 unfold Cu.aY
 rw [hvr]
 by_cases h0 : eT s p = 0
 . have h1 := h1 h0
   rw [h1]
   by_cases h10 : p + 10 ≤ s.length
   . have hb : (s.getD (p + 9) 0).toNat > 1 := by
       -- none of ten bytes is below 128
       have : ∀ j i, i + j = 10 → fi s p j i = 0 → ∀ k, i ≤ k → k < 10 → 128 ≤ (s.getD (p + k) 0).toNat := by
        intro j
        induction j with
        | zero => intro i hi _ k h1 h2; omega
        | succ j ih =>
          intro i hi hz k h1 h2
          rw [fi, if_pos (by omega)] at hz
          split at hz
          . cases hz
          . rename_i hq
            rcases Nat.lt_or_ge i k with q | q
            . exact ih (i + 1) (by omega) hz k (by omega) h2
            . rw [show k = i by omega]; omega
       have := this 10 0 rfl h0 9 (by omega) (by omega)
       omega
     rw [if_pos h10, if_neg (by decide), if_pos ⟨h10, .inl h0, hb⟩]
   . rw [if_neg h10, if_neg (by decide), if_neg (fun q => h10 q.1), if_pos h0]
 . obtain ⟨k1, k2, k3, k4, k5⟩ := h2 h0
   by_cases hx : eT s p = 10 ∧ (s.getD (p + 9) 0).toNat > 1
   . rw [k4 hx, if_neg (by decide), if_pos ⟨by omega, .inr hx.1, hx.2⟩]
   . rw [k5 hx, if_pos rfl, if_neg (fun q => hx ⟨q.2.1.resolve_left h0, q.2.2⟩), if_neg h0]
theorem Po {s : List UInt8} {p : Nat} (hp : p ≤ s.length) : eT s p ≤ 10 ∧ p + eT s p ≤ s.length := by
 by_cases h0 : eT s p = 0
 . rw [h0]; omega
 . obtain ⟨_, h2⟩ := F7 (s := s) (a := p) 10 0 rfl (by omega) (fun k hk => absurd hk (Nat.not_lt_zero k))
   obtain ⟨k1, k2, k3, _⟩ := h2 h0
   exact ⟨k2, k3⟩
theorem vstep {s : List UInt8} {a i : Nat} (hi : i < 10) (hb : i = 9 → (s.getD (a + i) 0).toNat ≤ 1) :
   IntKind.u64.wrap ((fE s a i : Int) + IntKind.u64.wrap (IntKind.u64.wrap (((s.getD (a + i) 0).toNat : Int).tmod 128) * ((128 ^ i : Nat) : Int))) = (fE s a (i + 1) : Int) := by
 have h1 := zU s a i
 have hs : fE s a (i + 1) = fE s a i + (s.getD (a + i) 0).toNat % 128 * 128 ^ i := rfl
 have hlt : fE s a (i + 1) < 18446744073709551616 := by
  by_cases h : i = 9
  . subst h
    have := hb rfl
    have e : (128 : Nat) ^ 9 = 9223372036854775808 := by decide
    rw [hs, e] at *
    omega
  . have h2 := zU s a (i + 1)
    have h3 : 128 ^ (i + 1) ≤ 9223372036854775808 := Nat.le_trans (Nat.pow_le_pow_right (by decide) (show i + 1 ≤ 9 by omega)) (by decide)
    omega
 have e1 : IntKind.u64.wrap (((s.getD (a + i) 0).toNat : Int).tmod 128) = (((s.getD (a + i) 0).toNat % 128 : Nat) : Int) := by
  rw [Int.tmod_eq_emod_of_nonneg (by omega), db]; omega
 rw [e1, ← Int.natCast_mul]
 generalize (s.getD (a + i) 0).toNat % 128 * 128 ^ i = q at *
 rw [show IntKind.u64.wrap (q : Int) = (q : Int) by rw [db]; omega, hs, db]
 omega
theorem JM (c : Cu) (hp : c.ok ∧ c.e = c.s.length ∧ c.s.length ≤ 1000000000) : OK 94 ([dI c]) ([]) (.tuple [dI c.aY.2, .int .u64 c.aY.1]) (none) := by
 refine al (C := cx [(135, za), (136, zb)]) (aq ⟨M1, M3, trivial⟩) (fn := Tryz.f94) rfl rfl rfl rfl fun hw hs => ?_
 obtain ⟨hp, he, hl⟩ := hp
 have h1 := hp.1
 have h2 := hp.2
 have hde := fun h => G1 (c := c) h hp he
 have hdn := fun h => G2 (c := c) h
 have hvl := Po (s := c.s) (p := c.p) (by omega)
 have htk : c.s.take c.e = c.s := by rw [he, List.take_length]
 have hp9 : IntKind.i64.wrap ((c.p : Int) + 9) = ((c.p + 9 : Nat) : Int) := by rw [bc]; omega
 have hep : IntKind.i64.wrap ((c.e : Int) - c.p) = (c.e : Int) - c.p := by rw [bc]; omega
 repeat' ((conv => whnf); first | apply aj | apply aO | (apply aw <;> intro h) | with_reducible refine jL ?_ fun hc => ?_)
 all_goals try conv => whnf
 all_goals try (refine ae.mk ?_; try dsimp only)
 all_goals (try simp only [Int.toNat_natCast, htk, hp9, hep] at *)
 all_goals first | refine stay ?_ | omega | skip
 all_goals (try (exfalso; omega))
 all_goals try
  (show af _ _ _ _ _ _
   first
   | (rw [hdn (by assumption)]
      (refine af.mk [] ?_ <;> (repeat' first | trivial | rfl | exact eN _ _ | apply ax | apply dn | apply aH | apply cR | apply bo | apply cS | apply cU | apply cZ | apply cJ | apply bE))
      done)
   | (rw [hde (by assumption)]
      first | rw [if_pos ⟨by omega, by omega, by omega⟩] | (rw [if_neg (by omega)]; rw [if_pos (by omega)])
      (refine af.mk [] ?_ <;> (repeat' first | trivial | rfl | exact eN _ _ | apply ax | apply dn | apply aH | apply cR | apply bo | apply cS | apply cU | apply cZ | apply cJ | apply bE))
      done))
 all_goals
  have h0 : c.c = 0 := by assumption
  have hd := hde h0
  rw [if_neg (by omega), if_neg (by omega)] at hd
  have hb9 : eT c.s c.p = 10 → (c.s.getD (c.p + 9) 0).toNat ≤ 1 := fun q => by omega
  rw [hd]
  clear hde hdn
  refine aT.mk Nat (fun i => i ≤ eT c.s c.p) (fun i => ⟨74, [(1, .ptr 0 0), (2, .ptr 1 0), (4, .str c.s), (5, .int .i64 (eT c.s c.p)), (6, .int .u64 (fE c.s c.p i)), (7, .int .i64 i)], [.cells [.str c.s, .int .i64 c.p, .int .i64 c.e, .int .i64 c.c], .cells [.str [], .int .i64 0, .int .i64 0, .int .i64 0]], []⟩) (fun i => eT c.s c.p - i) [] 0 (Nat.zero_le _) ?_ (fun i hi _ _ => ?_)
  . (refine Go.VG.Sub.mk rfl ?_ ?_ ?_ ?_ <;> (repeat' first | trivial | rfl | exact eN _ _ | apply ax | apply dn | apply aH | apply cR | apply bo | apply cS | apply cU | apply cZ | apply cJ | apply bE))
  have hpi : IntKind.i64.wrap ((c.p : Int) + i) = ((c.p + i : Nat) : Int) := by rw [bc]; omega
  have hpn : IntKind.i64.wrap ((c.p : Int) + eT c.s c.p) = ((c.p + eT c.s c.p : Nat) : Int) := by rw [bc]; omega
  repeat' ((conv => whnf); first | apply aj | (apply aw <;> intro h) | with_reducible refine jL ?_ fun hc => ?_)
  all_goals try conv => whnf
  all_goals try (refine ae.mk ?_; try dsimp only)
  all_goals (try simp only [Int.toNat_natCast, hpi, hpn] at *)
  all_goals first | refine stay ?_ | trivial | omega | skip
  all_goals try
   (show af _ _ _ _ _ _
    obtain rfl : i = eT c.s c.p := by omega
    (refine af.mk [] ?_ <;> (repeat' first | trivial | rfl | exact eN _ _ | apply ax | apply dn | apply aH | apply cR | apply bo | apply cS | apply cU | apply cZ | apply cJ | apply bE))
    all_goals (first | rfl | assumption)
    done)
  refine ⟨[], i + 1, by omega, ?_, by omega⟩
  (refine Go.VG.Sub.mk rfl ?_ ?_ ?_ ?_ <;> (repeat' first | trivial | rfl | exact eN _ _ | apply ax | apply dn | apply aH | apply cR | apply bo | apply cS | apply cU | apply cZ | apply cJ | apply bE))
  . exact vstep (by omega) (fun q => by subst q; exact hb9 (by omega))
  . (simp (discharger := omega) only [wR]; omega)
def vb : Sm := fun args σ => match args, σ with
 | [.agg [.str s_c, .int .i64 (.ofNat a_c), .int .i64 (.ofNat e_c), .int .i64 c_c]], [] => some (True ∧ ((Cu.mk s_c a_c e_c c_c).ok ∧ (Cu.mk s_c a_c e_c c_c).e = (Cu.mk s_c a_c e_c c_c).s.length ∧ (Cu.mk s_c a_c e_c c_c).s.length ≤ 1000000000), .tuple [dI (Cu.mk s_c a_c e_c c_c).aY.2, .int .u64 (Cu.mk s_c a_c e_c c_c).aY.1], none)
 | _, _ => none
theorem Cw : au 94 vb := by
 intro args sg pre x r he hp
 unfold vb at he
 split at he <;> cases he
 . rw [ny (hp).1]; exact JM (hp := hp.2) ..
def Cu.gN (c : Cu) : List UInt8 × Cu := if c.aY.2.c = 0 ∧ (c.aY.1 : Int) > c.aY.2.left then ([], c.aY.2.fail 1) else (c.aY.2.c7 c.aY.1, c.aY.2.pass c.aY.1)
theorem mf (c : Cu) : c.aY.2.c = c.bg.2.c := by
 unfold Cu.aY
 split
 . rfl
 . rfl
theorem vZ {c : Cu} (h : c.bg.2.c = 0) : c.aY = c.bg := by unfold Cu.aY; rw [if_pos h]
theorem G4 {c : Cu} (h : ¬ c.aY.2.c = 0) : c.aY.1 = 0 := by
 rw [mf] at h
 unfold Cu.aY
 rw [if_neg h]
theorem tu {c : Cu} (h : c.ok) : c.aY.2.ok ∧ c.aY.2.s = c.s ∧ c.aY.2.e = c.e := by
 unfold Cu.aY
 split
 . exact sP h
 . exact ⟨h, rfl, rfl⟩
theorem G3 {c : Cu} : c.aY.1 ≤ 18446744073709551615 := by
 unfold Cu.aY
 split
 . exact zT
 . exact Nat.zero_le _
theorem G7 (c : Cu) : c.gN.2.c = c.text.2.c ∧ (c.text.2.c = 0 → c.gN = c.text) := by
 by_cases h : c.bg.2.c = 0
 . have := vZ h
   unfold Cu.gN Cu.text
   rw [this]
   exact ⟨rfl, fun _ => rfl⟩
 . have h1 : ¬ c.aY.2.c = 0 := by rw [mf]; exact h
   unfold Cu.gN Cu.text
   dsimp only
   rw [if_neg (fun q => h1 q.1), if_neg (fun q => h q.1), qj h1, qj h]
   exact ⟨mf c, fun q => absurd q h⟩
theorem G8 {c : Cu} (h : c.ok) : c.gN.2.ok ∧ c.gN.2.s = c.s ∧ c.gN.2.e = c.e := by
 have hv := tu h
 have hf := kD hv.1 1
 have hq := kT hv.1 c.aY.1
 unfold Cu.gN
 split
 . exact ⟨hf.1, hf.2.1.trans hv.2.1, hf.2.2.1.trans hv.2.2⟩
 . exact ⟨hq.1, hq.2.1.trans hv.2.1, hq.2.2.trans hv.2.2⟩
end Go.Proofs.YtdjolnjlhbfnmaaGreatDoor
