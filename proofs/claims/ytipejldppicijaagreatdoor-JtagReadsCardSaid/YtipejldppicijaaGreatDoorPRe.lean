/-
  A part of the proof.
-/
import Derived.Test.YtipejldppicijaaGreatDoorPRd
set_option linter.unusedSimpArgs false
set_option linter.unusedVariables false
set_option maxHeartbeats 4000000
namespace Go.Proofs.YtipejldppicijaaGreatDoor
open Go Go.VG
set_option maxRecDepth 100000
def cr (s : List UInt8) (a : Nat) : Nat → Nat → Nat
 | 0, _ => 0
 | j + 1, i => if a + i < s.length then (if (s.getD (a + i) 0).toNat < 128 then i + 1 else cr s a j (i + 1)) else 0
def bV (s : List UInt8) (a : Nat) : Nat := cr s a 10 0
def cY (s : List UInt8) (a : Nat) : Nat → Nat
 | 0 => 0
 | n + 1 => cY s a n + (s.getD (a + n) 0).toNat % 128 * 128 ^ n
theorem yn (i : Nat) : 2 ^ (7 * i) = 128 ^ i := by rw [Nat.pow_mul]
theorem zS {s : List UInt8} {a : Nat} : ∀ j i : Nat, i + j = 10 → a + i ≤ s.length → (∀ k, k < i → 128 ≤ (s.getD (a + k) 0).toNat) →
   (cr s a j i = 0 → (dn j i (cY s a i) ⟨s, a + i, s.length, 0⟩).2.c = if a + 10 ≤ s.length then 4 else 1) ∧
   (cr s a j i ≠ 0 → i < cr s a j i ∧ cr s a j i ≤ 10 ∧ a + cr s a j i ≤ s.length ∧
    ((cr s a j i = 10 ∧ (s.getD (a + 9) 0).toNat > 1 → (dn j i (cY s a i) ⟨s, a + i, s.length, 0⟩).2.c = 4) ∧
     (¬ (cr s a j i = 10 ∧ (s.getD (a + 9) 0).toNat > 1) → dn j i (cY s a i) ⟨s, a + i, s.length, 0⟩ = (cY s a (cr s a j i), ⟨s, a + cr s a j i, s.length, 0⟩)))) := by
 intro j
 induction j with
 | zero =>
   intro i hi hl _
   refine ⟨fun _ => ?_, fun h => absurd rfl h⟩
   rw [if_pos (by omega)]
   rfl
 | succ j ih =>
   intro i hi hl hk
   rw [cr, dn]
   by_cases h1 : a + i < s.length
   . rw [if_pos h1]
     have b1 : Cu.byte ⟨s, a + i, s.length, 0⟩ = ⟨s, a + (i + 1), s.length, 0⟩ := by
      unfold Cu.byte Cu.pass
      dsimp only
      rw [if_neg (by decide), if_neg (by decide), if_neg (by omega)]
      rfl
     have b2 : Cu.ao ⟨s, a + i, s.length, 0⟩ = s.getD (a + i) 0 := by
      unfold Cu.ao Cu.get
      dsimp only
      rw [if_pos ⟨rfl, h1⟩]
     rw [b1, b2, if_neg (show ¬ (Cu.mk s (a + (i + 1)) s.length 0).c ≠ 0 from fun h => h rfl)]
     have hs : cY s a (i + 1) = cY s a i + (s.getD (a + i) 0).toNat % 128 * 128 ^ i := rfl
     have h256 := (s.getD (a + i) 0).toNat_lt
     by_cases h9 : i = 9 ∧ (s.getD (a + i) 0).toNat > 1
     . rw [if_pos h9]
       obtain ⟨rfl, h9⟩ := h9
       obtain rfl : j = 0 := by omega
       by_cases h2 : (s.getD (a + 9) 0).toNat < 128
       . rw [if_pos h2]
         exact ⟨fun q => absurd q (by decide), fun _ => ⟨by omega, by omega, by omega, fun _ => rfl, fun q => absurd ⟨rfl, h9⟩ q⟩⟩
       . rw [if_neg h2]
         refine ⟨fun _ => ?_, fun q => absurd rfl q⟩
         rw [if_pos (by omega)]; rfl
     . rw [if_neg h9]
       by_cases h2 : (s.getD (a + i) 0).toNat < 128
       . rw [if_pos h2, if_pos h2]
         refine ⟨fun q => absurd q (by omega), fun _ => ⟨by omega, by omega, by omega, fun q => ?_, fun _ => ?_⟩⟩
         . exact absurd ⟨by omega, by rw [show i = 9 by omega]; exact q.2⟩ h9
         . rw [hs, yn, Nat.mod_eq_of_lt h2]
       . rw [if_neg h2, if_neg h2]
         have he : cY s a i + ((s.getD (a + i) 0).toNat - 128) * 2 ^ (7 * i) = cY s a (i + 1) := by
          rw [hs, yn, show (s.getD (a + i) 0).toNat - 128 = (s.getD (a + i) 0).toNat % 128 by omega]
         rw [he]
         obtain ⟨p1, p2⟩ := ih (i + 1) (by omega) (by omega) (fun k hk' => by
          rcases Nat.lt_or_ge k i with q | q
          . exact hk k q
          . rw [show k = i by omega]; omega)
         exact ⟨p1, fun q => ⟨by have := (p2 q).1; omega, (p2 q).2⟩⟩
   . rw [if_neg h1]
     have b1 : Cu.byte ⟨s, a + i, s.length, 0⟩ = ⟨s, a + i, s.length, 1⟩ := by
      unfold Cu.byte Cu.pass
      dsimp only
      rw [if_neg (by decide), if_neg (by decide), if_pos (by omega)]
     rw [b1, if_pos (show (Cu.mk s (a + i) s.length 1).c ≠ 0 from fun h => by cases h)]
     refine ⟨fun _ => ?_, fun q => absurd rfl q⟩
     rw [if_neg (by omega)]
def Cu.aD (c : Cu) : Nat × Cu := if c.av.2.c = 0 then c.av else (0, ⟨c.s, c.p, c.e, c.av.2.c⟩)
theorem uB (s : List UInt8) (a : Nat) : ∀ n, cY s a n < 128 ^ n
 | 0 => Nat.one_pos
 | n + 1 => by
   have := uB s a n
   have h := Nat.mul_le_mul_right (128 ^ n) (show (s.getD (a + n) 0).toNat % 128 ≤ 127 by omega)
   rw [cY, Nat.pow_succ]; omega
theorem CL (s : List UInt8) (q : Int) (hp : 0 ≤ q ∧ q ≤ s.length ∧ s.length ≤ 1000000000) : OK 126 ([.str s, .int .i64 q]) ([]) (.int .i64 (bV s q.toNat)) (none) := by
 refine ah (C := cx []) (ai trivial) (fn := Tryz.f126) rfl rfl rfl rfl fun hw hs => ?_
 obtain ⟨a, rfl⟩ := Int.eq_ofNat_of_zero_le hp.1
 rw [Int.toNat_natCast]
 all_goals try conv => whnf
 all_goals try (refine a7.mk ?_; try dsimp only)
 refine c5.mk (Nat × Nat) (fun (j, i) => i + j = 10 ∧ a + i ≤ s.length + 1 ∧ cr s a j i = bV s a) (fun (j, i) => ⟨26, [(0, .str s), (1, .int .i64 a), (5, .int .i64 i)], [], []⟩) (fun x => x.1) [] (10, 0) ⟨rfl, by omega, rfl⟩ ?_ (fun ⟨j, i⟩ ⟨h1, h2, h3⟩ _ _ => ?_)
 . refine Go.VG.Sub.mk rfl ?_ ?_ ?_ ?_ <;> (repeat' first | trivial)
 have hai : IntKind.i64.wrap ((a : Int) + i) = ((a + i : Nat) : Int) := by rw [bL]; omega
 repeat' ((conv => whnf); first | apply ab | (apply ae <;> intro h) | with_reducible refine gJ ?_ fun hc => ?_)
 all_goals try conv => whnf
 all_goals try (refine a7.mk ?_; try dsimp only)
 all_goals (try simp only [hai, Int.toNat_natCast] at *)
 all_goals first | refine stay ?_ | omega | skip
 . obtain ⟨m, rfl⟩ : ∃ m, j = m + 1 := ⟨j - 1, by omega⟩
   rw [cr, if_pos (by omega), if_pos (by omega)] at h3
   rw [← h3]
   refine a6.mk [] ?_ <;> (repeat' first | trivial | apply ak | apply az)
   (simp (discharger := omega) only [wR]; omega)
 . obtain ⟨m, rfl⟩ : ∃ m, j = m + 1 := ⟨j - 1, by omega⟩
   rw [cr, if_pos (by omega), if_neg (by omega)] at h3
   refine ⟨[], (m, i + 1), ⟨by omega, by omega, h3⟩, ?_, by show m < m + 1; omega⟩
   refine Go.VG.Sub.mk rfl ?_ ?_ ?_ ?_ <;> (repeat' first | trivial | apply ak | apply az)
   (simp (discharger := omega) only [wR]; omega)
 . obtain ⟨m, rfl⟩ : ∃ m, j = m + 1 := ⟨j - 1, by omega⟩
   rw [cr, if_neg (by omega)] at h3
   rw [← h3]
   refine a6.mk [] ?_ <;> (repeat' first | trivial)
 . obtain rfl : j = 0 := by omega
   rw [cr] at h3
   rw [← h3]
   refine a6.mk [] ?_ <;> (repeat' first | trivial)
def tY : Sm := fun args σ => match args, σ with
 | [.str s, .int .i64 q], [] => some (0 ≤ q ∧ q ≤ s.length ∧ s.length ≤ 1000000000, .int .i64 (bV s q.toNat), none)
 | _, _ => none
theorem EM : a9 126 tY := by
 intro args sg pre x r he hp
 unfold tY at he
 split at he <;> cases he
 . exact CL (hp := hp) ..
theorem CN (q : Int) (hp : 0 ≤ q ∧ q ≤ 9) : OK 127 ([.int .i64 q]) ([]) (.int .u64 ((128 ^ q.toNat : Nat) : Int)) (none) := by
 refine ah (C := cx []) (ai trivial) (fn := Tryz.f127) rfl rfl rfl rfl fun hw hs => ?_
 obtain ⟨n, rfl⟩ := Int.eq_ofNat_of_zero_le hp.1
 rw [Int.toNat_natCast]
 all_goals try conv => whnf
 all_goals try (refine a7.mk ?_; try dsimp only)
 refine c5.mk Nat (fun i => i ≤ n) (fun i => ⟨13, [(0, .int .i64 n), (3, .int .u64 ((128 ^ i : Nat) : Int)), (4, .int .i64 i)], [], []⟩) (fun i => n - i) [] 0 (Nat.zero_le _) ?_ (fun i hi _ _ => ?_)
 . refine Go.VG.Sub.mk rfl ?_ ?_ ?_ ?_ <;> (repeat' first | trivial)
 have hpw : i < n → 128 ^ i ≤ 72057594037927936 := fun h => Nat.le_trans (Nat.pow_le_pow_right (by decide) (show i ≤ 8 by omega)) (by decide)
 repeat' ((conv => whnf); (apply ae <;> intro h))
 all_goals try conv => whnf
 all_goals try (refine a7.mk ?_; try dsimp only)
 all_goals (try simp only [aU] at *)
 all_goals try refine stay ?_
 . have hpw := hpw (by omega)
   refine ⟨[], i + 1, by omega, ?_, by omega⟩
   refine Go.VG.Sub.mk rfl ?_ ?_ ?_ ?_ <;> (repeat' first | trivial | apply ak | apply az)
   . rw [cm, Nat.pow_succ]; omega
   . (simp (discharger := omega) only [wR]; omega)
 . obtain rfl : i = n := by omega
   refine a6.mk [] ?_ <;> (repeat' first | trivial)
def tZ : Sm := fun args σ => match args, σ with
 | [.int .i64 q], [] => some (0 ≤ q ∧ q ≤ 9, .int .u64 ((128 ^ q.toNat : Nat) : Int), none)
 | _, _ => none
theorem EN : a9 127 tZ := by
 intro args sg pre x r he hp
 unfold tZ at he
 split at he <;> cases he
 . exact CN (hp := hp) ..
theorem rL {c : Cu} (h : ¬ c.c = 0) : c.aD = (0, c) := by
 unfold Cu.aD
 rw [r9 h, if_neg h]
theorem rK {c : Cu} (hc : c.c = 0) (hok : c.ok) (he : c.e = c.s.length) : c.aD =
   if c.p + 10 ≤ c.e ∧ (bV c.s c.p = 0 ∨ bV c.s c.p = 10) ∧ (c.s.getD (c.p + 9) 0).toNat > 1 then (0, ⟨c.s, c.p, c.e, 4⟩)
   else if bV c.s c.p = 0 then (0, ⟨c.s, c.p, c.e, 1⟩) else (cY c.s c.p (bV c.s c.p), ⟨c.s, c.p + bV c.s c.p, c.e, 0⟩) := by
 obtain ⟨s, p, e, cc⟩ := c
 dsimp only at hc he ⊢
 subst hc; subst he
 have hpe : p ≤ s.length := hok.1
 obtain ⟨h1, h2⟩ := zS (s := s) (a := p) 10 0 rfl (by omega) (fun k hk => absurd hk (Nat.not_lt_zero k))
 have hvl : cr s p 10 0 = bV s p := rfl
 rw [hvl] at h1 h2
 have hvr : Cu.av ⟨s, p, s.length, 0⟩ = dn 10 0 (cY s p 0) ⟨s, p + 0, s.length, 0⟩ := rfl
 unfold Cu.aD
 rw [hvr]
 by_cases h0 : bV s p = 0
 . have h1 := h1 h0
   rw [h1]
   by_cases h10 : p + 10 ≤ s.length
   . have hb : (s.getD (p + 9) 0).toNat > 1 := by
       -- none of ten bytes is below 128
       have : ∀ j i, i + j = 10 → cr s p j i = 0 → ∀ k, i ≤ k → k < 10 → 128 ≤ (s.getD (p + k) 0).toNat := by
        intro j
        induction j with
        | zero => intro i hi _ k h1 h2; omega
        | succ j ih =>
          intro i hi hz k h1 h2
          rw [cr, if_pos (by omega)] at hz
          split at hz
          . cases hz
          . rename_i hq
            rcases Nat.lt_or_ge i k with q | q
            . exact ih (i + 1) (by omega) hz k (by omega) h2
            . rw [show k = i by omega]; omega
       have := this 10 0 rfl h0 9 (by omega) (by omega)
       omega
     rw [if_pos h10, if_neg (by decide), if_pos ⟨h10, .inl h0, hb⟩]
   . rw [if_neg h10, if_neg (by decide), if_neg (fun q => h10 q.1), if_pos h0]
 . obtain ⟨k1, k2, k3, k4, k5⟩ := h2 h0
   by_cases hx : bV s p = 10 ∧ (s.getD (p + 9) 0).toNat > 1
   . rw [k4 hx, if_neg (by decide), if_pos ⟨by omega, .inr hx.1, hx.2⟩]
   . rw [k5 hx, if_pos rfl, if_neg (fun q => hx ⟨q.2.1.resolve_left h0, q.2.2⟩), if_neg h0]
theorem zO {s : List UInt8} {p : Nat} (hp : p ≤ s.length) : bV s p ≤ 10 ∧ p + bV s p ≤ s.length := by
 by_cases h0 : bV s p = 0
 . rw [h0]; omega
 . obtain ⟨_, h2⟩ := zS (s := s) (a := p) 10 0 rfl (by omega) (fun k hk => absurd hk (Nat.not_lt_zero k))
   obtain ⟨k1, k2, k3, _⟩ := h2 h0
   exact ⟨k2, k3⟩
theorem vstep {s : List UInt8} {a i : Nat} (hi : i < 10) (hb : i = 9 → (s.getD (a + i) 0).toNat ≤ 1) :
   IntKind.u64.wrap ((cY s a i : Int) + IntKind.u64.wrap (IntKind.u64.wrap (((s.getD (a + i) 0).toNat : Int).tmod 128) * ((128 ^ i : Nat) : Int))) = (cY s a (i + 1) : Int) := by
 have h1 := uB s a i
 have hs : cY s a (i + 1) = cY s a i + (s.getD (a + i) 0).toNat % 128 * 128 ^ i := rfl
 have hlt : cY s a (i + 1) < 18446744073709551616 := by
  by_cases h : i = 9
  . subst h
    have := hb rfl
    have e : (128 : Nat) ^ 9 = 9223372036854775808 := by decide
    rw [hs, e] at *
    omega
  . have h2 := uB s a (i + 1)
    have h3 : 128 ^ (i + 1) ≤ 9223372036854775808 := Nat.le_trans (Nat.pow_le_pow_right (by decide) (show i + 1 ≤ 9 by omega)) (by decide)
    omega
 have e1 : IntKind.u64.wrap (((s.getD (a + i) 0).toNat : Int).tmod 128) = (((s.getD (a + i) 0).toNat % 128 : Nat) : Int) := by
  rw [Int.tmod_eq_emod_of_nonneg (by omega), cm]; omega
 rw [e1, ← Int.natCast_mul]
 generalize (s.getD (a + i) 0).toNat % 128 * 128 ^ i = q at *
 rw [show IntKind.u64.wrap (q : Int) = (q : Int) by rw [cm]; omega, hs, cm]
 omega
theorem CM (c : Cu) (hp : c.ok ∧ c.e = c.s.length ∧ c.s.length ≤ 1000000000) : OK 77 ([aY c]) ([]) (.tuple [aY c.aD.2, .int .u64 c.aD.1]) (none) := by
 refine ah (C := cx [(126, tY), (127, tZ)]) (ai ⟨EM, EN, trivial⟩) (fn := Tryz.f77) rfl rfl rfl rfl fun hw hs => ?_
 obtain ⟨hp, he, hl⟩ := hp
 have h1 := hp.1
 have h2 := hp.2
 have hde := fun h => rK (c := c) h hp he
 have hdn := fun h => rL (c := c) h
 have hvl := zO (s := c.s) (p := c.p) (by omega)
 have htk : c.s.take c.e = c.s := by rw [he, List.take_length]
 have hp9 : IntKind.i64.wrap ((c.p : Int) + 9) = ((c.p + 9 : Nat) : Int) := by rw [bL]; omega
 have hep : IntKind.i64.wrap ((c.e : Int) - c.p) = (c.e : Int) - c.p := by rw [bL]; omega
 repeat' ((conv => whnf); first | apply ab | apply ax | (apply ae <;> intro h) | with_reducible refine gJ ?_ fun hc => ?_)
 all_goals try conv => whnf
 all_goals try (refine a7.mk ?_; try dsimp only)
 all_goals (try simp only [Int.toNat_natCast, htk, hp9, hep] at *)
 all_goals first | refine stay ?_ | omega | skip
 all_goals (try (exfalso; omega))
 all_goals try
  (show a6 _ _ _ _ _ _
   first
   | (rw [hdn (by assumption)]
      (refine a6.mk [] ?_ <;> (repeat' first | trivial | rfl | exact fw _ _ | apply ak | apply dp | apply az | apply cQ | apply bI | apply dz | apply er | apply dq | apply bT | apply bo))
      done)
   | (rw [hde (by assumption)]
      first | rw [if_pos ⟨by omega, by omega, by omega⟩] | (rw [if_neg (by omega)]; rw [if_pos (by omega)])
      (refine a6.mk [] ?_ <;> (repeat' first | trivial | rfl | exact fw _ _ | apply ak | apply dp | apply az | apply cQ | apply bI | apply dz | apply er | apply dq | apply bT | apply bo))
      done))
 all_goals
  have h0 : c.c = 0 := by assumption
  have hd := hde h0
  rw [if_neg (by omega), if_neg (by omega)] at hd
  have hb9 : bV c.s c.p = 10 → (c.s.getD (c.p + 9) 0).toNat ≤ 1 := fun q => by omega
  rw [hd]
  clear hde hdn
  refine c5.mk Nat (fun i => i ≤ bV c.s c.p) (fun i => ⟨74, [(1, .ptr 0 0), (2, .ptr 1 0), (4, .str c.s), (5, .int .i64 (bV c.s c.p)), (6, .int .u64 (cY c.s c.p i)), (7, .int .i64 i)], [.cells [.str c.s, .int .i64 c.p, .int .i64 c.e, .int .i64 c.c], .cells [.str [], .int .i64 0, .int .i64 0, .int .i64 0]], []⟩) (fun i => bV c.s c.p - i) [] 0 (Nat.zero_le _) ?_ (fun i hi _ _ => ?_)
  . (refine Go.VG.Sub.mk rfl ?_ ?_ ?_ ?_ <;> (repeat' first | trivial | rfl | exact fw _ _ | apply ak | apply dp | apply az | apply cQ | apply bI | apply dz | apply er | apply dq | apply bT | apply bo))
  have hpi : IntKind.i64.wrap ((c.p : Int) + i) = ((c.p + i : Nat) : Int) := by rw [bL]; omega
  have hpn : IntKind.i64.wrap ((c.p : Int) + bV c.s c.p) = ((c.p + bV c.s c.p : Nat) : Int) := by rw [bL]; omega
  repeat' ((conv => whnf); first | apply ab | (apply ae <;> intro h) | with_reducible refine gJ ?_ fun hc => ?_)
  all_goals try conv => whnf
  all_goals try (refine a7.mk ?_; try dsimp only)
  all_goals (try simp only [Int.toNat_natCast, hpi, hpn] at *)
  all_goals first | refine stay ?_ | trivial | omega | skip
  all_goals try
   (show a6 _ _ _ _ _ _
    obtain rfl : i = bV c.s c.p := by omega
    (refine a6.mk [] ?_ <;> (repeat' first | trivial | rfl | exact fw _ _ | apply ak | apply dp | apply az | apply cQ | apply bI | apply dz | apply er | apply dq | apply bT | apply bo))
    all_goals (first | rfl | assumption)
    done)
  refine ⟨[], i + 1, by omega, ?_, by omega⟩
  (refine Go.VG.Sub.mk rfl ?_ ?_ ?_ ?_ <;> (repeat' first | trivial | rfl | exact fw _ _ | apply ak | apply dp | apply az | apply cQ | apply bI | apply dz | apply er | apply dq | apply bT | apply bo))
  . exact vstep (by omega) (fun q => by subst q; exact hb9 (by omega))
  . (simp (discharger := omega) only [wR]; omega)
def kb : Sm := fun args σ => match args, σ with
 | [.agg [.str s_c, .int .i64 (.ofNat a_c), .int .i64 (.ofNat e_c), .int .i64 c_c]], [] => some (True ∧ ((Cu.mk s_c a_c e_c c_c).ok ∧ (Cu.mk s_c a_c e_c c_c).e = (Cu.mk s_c a_c e_c c_c).s.length ∧ (Cu.mk s_c a_c e_c c_c).s.length ≤ 1000000000), .tuple [aY (Cu.mk s_c a_c e_c c_c).aD.2, .int .u64 (Cu.mk s_c a_c e_c c_c).aD.1], none)
 | _, _ => none
theorem mb : a9 77 kb := by
 intro args sg pre x r he hp
 unfold kb at he
 split at he <;> cases he
 . rw [eF (hp).1]; exact CM (hp := hp.2) ..
def Cu.dM (c : Cu) : List UInt8 × Cu := if c.aD.2.c = 0 ∧ (c.aD.1 : Int) > c.aD.2.left then ([], c.aD.2.fail 1) else (c.aD.2.bK c.aD.1, c.aD.2.pass c.aD.1)
theorem kx (c : Cu) : c.aD.2.c = c.av.2.c := by
 unfold Cu.aD
 split
 . rfl
 . rfl
theorem nc {c : Cu} (h : c.av.2.c = 0) : c.aD = c.av := by unfold Cu.aD; rw [if_pos h]
theorem vH {c : Cu} (h : ¬ c.aD.2.c = 0) : c.aD.1 = 0 := by
 rw [kx] at h
 unfold Cu.aD
 rw [if_neg h]
theorem ky {c : Cu} (h : c.ok) : c.aD.2.ok ∧ c.aD.2.s = c.s ∧ c.aD.2.e = c.e := by
 unfold Cu.aD
 split
 . exact lp h
 . exact ⟨h, rfl, rfl⟩
theorem p9 {c : Cu} : c.aD.1 ≤ 18446744073709551615 := by
 unfold Cu.aD
 split
 . exact mR
 . exact Nat.zero_le _
theorem rN (c : Cu) : c.dM.2.c = c.text.2.c ∧ (c.text.2.c = 0 → c.dM = c.text) := by
 by_cases h : c.av.2.c = 0
 . have := nc h
   unfold Cu.dM Cu.text
   rw [this]
   exact ⟨rfl, fun _ => rfl⟩
 . have h1 : ¬ c.aD.2.c = 0 := by rw [kx]; exact h
   unfold Cu.dM Cu.text
   dsimp only
   rw [if_neg (fun q => h1 q.1), if_neg (fun q => h q.1), l4 h1, l4 h]
   exact ⟨kx c, fun q => absurd q h⟩
theorem AN {c : Cu} (h : c.ok) : c.dM.2.ok ∧ c.dM.2.s = c.s ∧ c.dM.2.e = c.e := by
 have hv := ky h
 have hf := g9 hv.1 1
 have hq := gp hv.1 c.aD.1
 unfold Cu.dM
 split
 . exact ⟨hf.1, hf.2.1.trans hv.2.1, hf.2.2.1.trans hv.2.2⟩
 . exact ⟨hq.1, hq.2.1.trans hv.2.1, hq.2.2.trans hv.2.2⟩
end Go.Proofs.YtipejldppicijaaGreatDoor
