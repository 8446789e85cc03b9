/-
  The document's numbers of as many bytes as they need.
-/
import Derived.Test.YtkkfdkfopdjomaaDoorPRd
set_option linter.unusedSimpArgs false
set_option linter.unusedVariables false
set_option maxHeartbeats 4000000
namespace Go.Proofs.YtkkfdkfopdjomaaDoor
open Go Go.VG
set_option maxRecDepth 100000
def lenGo (s : List UInt8) (a : Nat) : Nat → Nat → Nat
  | 0, _ => 0
  | j + 1, i => if a + i < s.length then (if (s.getD (a + i) 0).toNat < 128 then i + 1 else lenGo s a j (i + 1)) else 0
def vlen (s : List UInt8) (a : Nat) : Nat := lenGo s a 10 0
def vsum (s : List UInt8) (a : Nat) : Nat → Nat
  | 0 => 0
  | n + 1 => vsum s a n + (s.getD (a + n) 0).toNat % 128 * 128 ^ n
theorem pow_7 (i : Nat) : 2 ^ (7 * i) = 128 ^ i := by rw [Nat.pow_mul]
theorem vr_len {s : List UInt8} {a : Nat} : ∀ j i : Nat, i + j = 10 → a + i ≤ s.length → (∀ k, k < i → 128 ≤ (s.getD (a + k) 0).toNat) →
    (lenGo s a j i = 0 → (vrGo j i (vsum s a i) ⟨s, a + i, s.length, 0⟩).2.c = if a + 10 ≤ s.length then 4 else 1) ∧
    (lenGo s a j i ≠ 0 → i < lenGo s a j i ∧ lenGo s a j i ≤ 10 ∧ a + lenGo s a j i ≤ s.length ∧
      ((lenGo s a j i = 10 ∧ (s.getD (a + 9) 0).toNat > 1 → (vrGo j i (vsum s a i) ⟨s, a + i, s.length, 0⟩).2.c = 4) ∧
       (¬ (lenGo s a j i = 10 ∧ (s.getD (a + 9) 0).toNat > 1) → vrGo j i (vsum s a i) ⟨s, a + i, s.length, 0⟩ = (vsum s a (lenGo s a j i), ⟨s, a + lenGo s a j i, s.length, 0⟩)))) := by
  intro j
  induction j with
  | zero =>
    intro i hi hl _
    refine ⟨fun _ => ?_, fun h => absurd rfl h⟩
    rw [if_pos (by omega)]
    rfl
  | succ j ih =>
    intro i hi hl hk
    rw [lenGo, vrGo]
    by_cases h1 : a + i < s.length
    · rw [if_pos h1]
      have b1 : Cu.byte ⟨s, a + i, s.length, 0⟩ = ⟨s, a + (i + 1), s.length, 0⟩ := by
        unfold Cu.byte Cu.pass
        dsimp only
        rw [if_neg (by decide), if_neg (by decide), if_neg (by omega)]
        rfl
      have b2 : Cu.byteV ⟨s, a + i, s.length, 0⟩ = s.getD (a + i) 0 := by
        unfold Cu.byteV Cu.get
        dsimp only
        rw [if_pos ⟨rfl, h1⟩]
      rw [b1, b2, if_neg (show ¬ (Cu.mk s (a + (i + 1)) s.length 0).c ≠ 0 from fun h => h rfl)]
      have hs : vsum s a (i + 1) = vsum s a i + (s.getD (a + i) 0).toNat % 128 * 128 ^ i := rfl
      have h256 := (s.getD (a + i) 0).toNat_lt
      by_cases h9 : i = 9 ∧ (s.getD (a + i) 0).toNat > 1
      · rw [if_pos h9]
        obtain ⟨rfl, h9⟩ := h9
        obtain rfl : j = 0 := by omega
        by_cases h2 : (s.getD (a + 9) 0).toNat < 128
        · rw [if_pos h2]
          exact ⟨fun q => absurd q (by decide), fun _ => ⟨by omega, by omega, by omega, fun _ => rfl, fun q => absurd ⟨rfl, h9⟩ q⟩⟩
        · rw [if_neg h2]
          refine ⟨fun _ => ?_, fun q => absurd rfl q⟩
          rw [if_pos (by omega)]; rfl
      · rw [if_neg h9]
        by_cases h2 : (s.getD (a + i) 0).toNat < 128
        · rw [if_pos h2, if_pos h2]
          refine ⟨fun q => absurd q (by omega), fun _ => ⟨by omega, by omega, by omega, fun q => ?_, fun _ => ?_⟩⟩
          · exact absurd ⟨by omega, by rw [show i = 9 by omega]; exact q.2⟩ h9
          · rw [hs, pow_7, Nat.mod_eq_of_lt h2]
        · rw [if_neg h2, if_neg h2]
          have he : vsum s a i + ((s.getD (a + i) 0).toNat - 128) * 2 ^ (7 * i) = vsum s a (i + 1) := by
            rw [hs, pow_7, show (s.getD (a + i) 0).toNat - 128 = (s.getD (a + i) 0).toNat % 128 by omega]
          rw [he]
          obtain ⟨p1, p2⟩ := ih (i + 1) (by omega) (by omega) (fun k hk' => by
            rcases Nat.lt_or_ge k i with q | q
            · exact hk k q
            · rw [show k = i by omega]; omega)
          exact ⟨p1, fun q => ⟨by have := (p2 q).1; omega, (p2 q).2⟩⟩
    · rw [if_neg h1]
      have b1 : Cu.byte ⟨s, a + i, s.length, 0⟩ = ⟨s, a + i, s.length, 1⟩ := by
        unfold Cu.byte Cu.pass
        dsimp only
        rw [if_neg (by decide), if_neg (by decide), if_pos (by omega)]
      rw [b1, if_pos (show (Cu.mk s (a + i) s.length 1).c ≠ 0 from fun h => by cases h)]
      refine ⟨fun _ => ?_, fun q => absurd rfl q⟩
      rw [if_neg (by omega)]
def Cu.dread (c : Cu) : Nat × Cu := if c.vread.2.c = 0 then c.vread else (0, ⟨c.s, c.p, c.e, c.vread.2.c⟩)
theorem vsum_lt (s : List UInt8) (a : Nat) : ∀ n, vsum s a n < 128 ^ n
  | 0 => Nat.one_pos
  | n + 1 => by
    have := vsum_lt s a n
    have h := Nat.mul_le_mul_right (128 ^ n) (show (s.getD (a + n) 0).toNat % 128 ≤ 127 by omega)
    rw [vsum, Nat.pow_succ]; omega
theorem vsum_mono (s : List UInt8) (a n : Nat) : vsum s a n ≤ vsum s a (n + 1) := Nat.le_add_right _ _
theorem f_r03Len_1 (s : List UInt8) (q : Int) (hp : 0 ≤ q ∧ q ≤ s.length ∧ s.length ≤ 1000000000) : OK 70 ([.str s, .int .i64 q]) ([]) (.int .i64 (vlen s q.toNat)) (none) := by
  refine funOK_of_vc (C := cx []) (good trivial) (fn := Tryd.f70) rfl rfl rfl rfl fun hw hs => ?_
  obtain ⟨a, rfl⟩ := Int.eq_ofNat_of_zero_le hp.1
  rw [Int.toNat_natCast]
  all_goals try conv => whnf
  all_goals try (refine Side.mk ?_; try dsimp only)
  refine LoopP.mk (Nat × Nat) (fun (j, i) => i + j = 10 ∧ a + i ≤ s.length + 1 ∧ lenGo s a j i = vlen s a) (fun (j, i) => ⟨26, [(0, .str s), (1, .int .i64 a), (5, .int .i64 i)], [], []⟩) (fun x => x.1) [] (10, 0) ⟨rfl, by omega, rfl⟩ ?_ (fun ⟨j, i⟩ ⟨h1, h2, h3⟩ _ _ => ?_)
  · refine Go.VG.Sub.mk rfl ?_ ?_ ?_ ?_ <;> (repeat' first | trivial)
  have hai : IntKind.i64.wrap ((a : Int) + i) = ((a + i : Nat) : Int) := by rw [wi64]; omega
  repeat' ((conv => whnf); first | apply go3 | (apply go6 <;> intro h) | with_reducible refine goE ?_ fun hc => ?_)
  all_goals try conv => whnf
  all_goals try (refine Side.mk ?_; try dsimp only)
  all_goals (try simp only [hai, Int.toNat_natCast] at *)
  all_goals first | refine stay ?_ | omega | skip
  · obtain ⟨m, rfl⟩ : ∃ m, j = m + 1 := ⟨j - 1, by omega⟩
    rw [lenGo, if_pos (by omega), if_pos (by omega)] at h3
    rw [← h3]
    refine EndP.mk [] ?_ <;> (repeat' first | trivial | apply andI | apply eqB)
    (simp (discharger := omega) only [wR]; omega)
  · obtain ⟨m, rfl⟩ : ∃ m, j = m + 1 := ⟨j - 1, by omega⟩
    rw [lenGo, if_pos (by omega), if_neg (by omega)] at h3
    refine ⟨[], (m, i + 1), ⟨by omega, by omega, h3⟩, ?_, by show m < m + 1; omega⟩
    refine Go.VG.Sub.mk rfl ?_ ?_ ?_ ?_ <;> (repeat' first | trivial | apply andI | apply eqB)
    (simp (discharger := omega) only [wR]; omega)
  · obtain ⟨m, rfl⟩ : ∃ m, j = m + 1 := ⟨j - 1, by omega⟩
    rw [lenGo, if_neg (by omega)] at h3
    rw [← h3]
    refine EndP.mk [] ?_ <;> (repeat' first | trivial)
  · obtain rfl : j = 0 := by omega
    rw [lenGo] at h3
    rw [← h3]
    refine EndP.mk [] ?_ <;> (repeat' first | trivial)
def sm_r03Len : Sm := fun args σ => match args, σ with
  | [.str s, .int .i64 q], [] => some (0 ≤ q ∧ q ≤ s.length ∧ s.length ≤ 1000000000, .int .i64 (vlen s q.toNat), none)
  | _, _ => none
theorem k_r03Len : SOK 70 sm_r03Len := by
  intro args sg pre x r he hp
  unfold sm_r03Len at he
  split at he <;> cases he
  · exact f_r03Len_1 (hp := hp) ..
theorem f_r03power_1 (q : Int) (hp : 0 ≤ q ∧ q ≤ 9) : OK 71 ([.int .i64 q]) ([]) (.int .u64 ((128 ^ q.toNat : Nat) : Int)) (none) := by
  refine funOK_of_vc (C := cx []) (good trivial) (fn := Tryd.f71) rfl rfl rfl rfl fun hw hs => ?_
  obtain ⟨n, rfl⟩ := Int.eq_ofNat_of_zero_le hp.1
  rw [Int.toNat_natCast]
  all_goals try conv => whnf
  all_goals try (refine Side.mk ?_; try dsimp only)
  refine LoopP.mk Nat (fun i => i ≤ n) (fun i => ⟨13, [(0, .int .i64 n), (3, .int .u64 ((128 ^ i : Nat) : Int)), (4, .int .i64 i)], [], []⟩) (fun i => n - i) [] 0 (Nat.zero_le _) ?_ (fun i hi _ _ => ?_)
  · refine Go.VG.Sub.mk rfl ?_ ?_ ?_ ?_ <;> (repeat' first | trivial)
  have hpw : i < n → 128 ^ i ≤ 72057594037927936 := fun h => Nat.le_trans (Nat.pow_le_pow_right (by decide) (show i ≤ 8 by omega)) (by decide)
  repeat' ((conv => whnf); (apply go6 <;> intro h))
  all_goals try conv => whnf
  all_goals try (refine Side.mk ?_; try dsimp only)
  all_goals (try simp only [Cu_eta] at *)
  all_goals try refine stay ?_
  · have hpw := hpw (by omega)
    refine ⟨[], i + 1, by omega, ?_, by omega⟩
    refine Go.VG.Sub.mk rfl ?_ ?_ ?_ ?_ <;> (repeat' first | trivial | apply andI | apply eqB)
    · rw [wu64, Nat.pow_succ]; omega
    · (simp (discharger := omega) only [wR]; omega)
  · obtain rfl : i = n := by omega
    refine EndP.mk [] ?_ <;> (repeat' first | trivial)
def sm_r03power : Sm := fun args σ => match args, σ with
  | [.int .i64 q], [] => some (0 ≤ q ∧ q ≤ 9, .int .u64 ((128 ^ q.toNat : Nat) : Int), none)
  | _, _ => none
theorem k_r03power : SOK 71 sm_r03power := by
  intro args sg pre x r he hp
  unfold sm_r03power at he
  split at he <;> cases he
  · exact f_r03power_1 (hp := hp) ..
theorem dread_err {c : Cu} (h : ¬ c.c = 0) : c.dread = (0, c) := by
  unfold Cu.dread
  rw [vr_err h, if_neg h]
theorem dread_eq {c : Cu} (hc : c.c = 0) (hok : c.ok) (he : c.e = c.s.length) : c.dread =
    if c.p + 10 ≤ c.e ∧ (vlen c.s c.p = 0 ∨ vlen c.s c.p = 10) ∧ (c.s.getD (c.p + 9) 0).toNat > 1 then (0, ⟨c.s, c.p, c.e, 4⟩)
    else if vlen c.s c.p = 0 then (0, ⟨c.s, c.p, c.e, 1⟩) else (vsum c.s c.p (vlen c.s c.p), ⟨c.s, c.p + vlen c.s c.p, c.e, 0⟩) := by
  obtain ⟨s, p, e, cc⟩ := c
  dsimp only at hc he ⊢
  subst hc; subst he
  have hpe : p ≤ s.length := hok.1
  obtain ⟨h1, h2⟩ := vr_len (s := s) (a := p) 10 0 rfl (by omega) (fun k hk => absurd hk (Nat.not_lt_zero k))
  have hvl : lenGo s p 10 0 = vlen s p := rfl
  rw [hvl] at h1 h2
  have hvr : Cu.vread ⟨s, p, s.length, 0⟩ = vrGo 10 0 (vsum s p 0) ⟨s, p + 0, s.length, 0⟩ := rfl
  unfold Cu.dread
  rw [hvr]
  by_cases h0 : vlen s p = 0
  · have h1 := h1 h0
    rw [h1]
    by_cases h10 : p + 10 ≤ s.length
    · have hb : (s.getD (p + 9) 0).toNat > 1 := by
        -- none of ten bytes is below 128
        have : ∀ j i, i + j = 10 → lenGo s p j i = 0 → ∀ k, i ≤ k → k < 10 → 128 ≤ (s.getD (p + k) 0).toNat := by
          intro j
          induction j with
          | zero => intro i hi _ k h1 h2; omega
          | succ j ih =>
            intro i hi hz k h1 h2
            rw [lenGo, if_pos (by omega)] at hz
            split at hz
            · cases hz
            · rename_i hq
              rcases Nat.lt_or_ge i k with q | q
              · exact ih (i + 1) (by omega) hz k (by omega) h2
              · rw [show k = i by omega]; omega
        have := this 10 0 rfl h0 9 (by omega) (by omega)
        omega
      rw [if_pos h10, if_neg (by decide), if_pos ⟨h10, .inl h0, hb⟩]
    · rw [if_neg h10, if_neg (by decide), if_neg (fun q => h10 q.1), if_pos h0]
  · obtain ⟨k1, k2, k3, k4, k5⟩ := h2 h0
    by_cases hx : vlen s p = 10 ∧ (s.getD (p + 9) 0).toNat > 1
    · rw [k4 hx, if_neg (by decide), if_pos ⟨by omega, .inr hx.1, hx.2⟩]
    · rw [k5 hx, if_pos rfl, if_neg (fun q => hx ⟨q.2.1.resolve_left h0, q.2.2⟩), if_neg h0]
theorem vlen_le {s : List UInt8} {p : Nat} (hp : p ≤ s.length) : vlen s p ≤ 10 ∧ p + vlen s p ≤ s.length := by
  by_cases h0 : vlen s p = 0
  · rw [h0]; omega
  · obtain ⟨_, h2⟩ := vr_len (s := s) (a := p) 10 0 rfl (by omega) (fun k hk => absurd hk (Nat.not_lt_zero k))
    obtain ⟨k1, k2, k3, _⟩ := h2 h0
    exact ⟨k2, k3⟩
theorem vstep {s : List UInt8} {a i : Nat} (hi : i < 10) (hb : i = 9 → (s.getD (a + i) 0).toNat ≤ 1) :
    IntKind.u64.wrap ((vsum s a i : Int) + IntKind.u64.wrap (IntKind.u64.wrap (((s.getD (a + i) 0).toNat : Int).tmod 128) * ((128 ^ i : Nat) : Int))) = (vsum s a (i + 1) : Int) := by
  have h1 := vsum_lt s a i
  have hs : vsum s a (i + 1) = vsum s a i + (s.getD (a + i) 0).toNat % 128 * 128 ^ i := rfl
  have hlt : vsum s a (i + 1) < 18446744073709551616 := by
    by_cases h : i = 9
    · subst h
      have := hb rfl
      have e : (128 : Nat) ^ 9 = 9223372036854775808 := by decide
      rw [hs, e] at *
      omega
    · have h2 := vsum_lt s a (i + 1)
      have h3 : 128 ^ (i + 1) ≤ 9223372036854775808 := Nat.le_trans (Nat.pow_le_pow_right (by decide) (show i + 1 ≤ 9 by omega)) (by decide)
      omega
  have e1 : IntKind.u64.wrap (((s.getD (a + i) 0).toNat : Int).tmod 128) = (((s.getD (a + i) 0).toNat % 128 : Nat) : Int) := by
    rw [Int.tmod_eq_emod_of_nonneg (by omega), wu64]; omega
  rw [e1, ← Int.natCast_mul]
  generalize (s.getD (a + i) 0).toNat % 128 * 128 ^ i = q at *
  rw [show IntKind.u64.wrap (q : Int) = (q : Int) by rw [wu64]; omega, hs, wu64]
  omega
theorem f_r03Read_1 (c : Cu) (hp : c.ok ∧ c.e = c.s.length ∧ c.s.length ≤ 1000000000) : OK 60 ([eCa c]) ([]) (.tuple [eCa c.dread.2, .int .u64 c.dread.1]) (none) := by
  refine funOK_of_vc (C := cx [(70, sm_r03Len), (71, sm_r03power)]) (good ⟨k_r03Len, k_r03power, trivial⟩) (fn := Tryd.f60) rfl rfl rfl rfl fun hw hs => ?_
  obtain ⟨hp, he, hl⟩ := hp
  have h1 := hp.1
  have h2 := hp.2
  have hde := fun h => dread_eq (c := c) h hp he
  have hdn := fun h => dread_err (c := c) h
  have hvl := vlen_le (s := c.s) (p := c.p) (by omega)
  have htk : c.s.take c.e = c.s := by rw [he, List.take_length]
  have hp9 : IntKind.i64.wrap ((c.p : Int) + 9) = ((c.p + 9 : Nat) : Int) := by rw [wi64]; omega
  have hep : IntKind.i64.wrap ((c.e : Int) - c.p) = (c.e : Int) - c.p := by rw [wi64]; omega
  repeat' ((conv => whnf); first | apply go3 | apply go5 | (apply go6 <;> intro h) | with_reducible refine goE ?_ fun hc => ?_)
  all_goals try conv => whnf
  all_goals try (refine Side.mk ?_; try dsimp only)
  all_goals (try simp only [Int.toNat_natCast, htk, hp9, hep] at *)
  all_goals first | refine stay ?_ | omega | skip
  all_goals (try (exfalso; omega))
  all_goals try
    (show EndP _ _ _ _ _ _
     first
     | (rw [hdn (by assumption)]
        (refine EndP.mk [] ?_ <;> (repeat' first | trivial | rfl | exact eqS _ _ | apply andI | apply eqA | apply eqB | apply eqC | apply eqD | apply eqE | apply eqF | apply eqG | apply eqH | apply eqI))
        done)
     | (rw [hde (by assumption)]
        first | rw [if_pos ⟨by omega, by omega, by omega⟩] | (rw [if_neg (by omega)]; rw [if_pos (by omega)])
        (refine EndP.mk [] ?_ <;> (repeat' first | trivial | rfl | exact eqS _ _ | apply andI | apply eqA | apply eqB | apply eqC | apply eqD | apply eqE | apply eqF | apply eqG | apply eqH | apply eqI))
        done))
  all_goals
    have h0 : c.c = 0 := by assumption
    have hd := hde h0
    rw [if_neg (by omega), if_neg (by omega)] at hd
    have hb9 : vlen c.s c.p = 10 → (c.s.getD (c.p + 9) 0).toNat ≤ 1 := fun q => by omega
    rw [hd]
    clear hde hdn
    refine LoopP.mk Nat (fun i => i ≤ vlen c.s c.p) (fun i => ⟨74, [(1, .ptr 0 0), (2, .ptr 1 0), (4, .str c.s), (5, .int .i64 (vlen c.s c.p)), (6, .int .u64 (vsum c.s c.p i)), (7, .int .i64 i)], [.cells [.str c.s, .int .i64 c.p, .int .i64 c.e, .int .i64 c.c], .cells [.str [], .int .i64 0, .int .i64 0, .int .i64 0]], []⟩) (fun i => vlen c.s c.p - i) [] 0 (Nat.zero_le _) ?_ (fun i hi _ _ => ?_)
    · (refine Go.VG.Sub.mk rfl ?_ ?_ ?_ ?_ <;> (repeat' first | trivial | rfl | exact eqS _ _ | apply andI | apply eqA | apply eqB | apply eqC | apply eqD | apply eqE | apply eqF | apply eqG | apply eqH | apply eqI))
    have hpi : IntKind.i64.wrap ((c.p : Int) + i) = ((c.p + i : Nat) : Int) := by rw [wi64]; omega
    have hpn : IntKind.i64.wrap ((c.p : Int) + vlen c.s c.p) = ((c.p + vlen c.s c.p : Nat) : Int) := by rw [wi64]; omega
    repeat' ((conv => whnf); first | apply go3 | (apply go6 <;> intro h) | with_reducible refine goE ?_ fun hc => ?_)
    all_goals try conv => whnf
    all_goals try (refine Side.mk ?_; try dsimp only)
    all_goals (try simp only [Int.toNat_natCast, hpi, hpn] at *)
    all_goals first | refine stay ?_ | trivial | omega | skip
    all_goals try
      (show EndP _ _ _ _ _ _
       obtain rfl : i = vlen c.s c.p := by omega
       (refine EndP.mk [] ?_ <;> (repeat' first | trivial | rfl | exact eqS _ _ | apply andI | apply eqA | apply eqB | apply eqC | apply eqD | apply eqE | apply eqF | apply eqG | apply eqH | apply eqI))
       all_goals (first | rfl | assumption)
       done)
    refine ⟨[], i + 1, by omega, ?_, by omega⟩
    (refine Go.VG.Sub.mk rfl ?_ ?_ ?_ ?_ <;> (repeat' first | trivial | rfl | exact eqS _ _ | apply andI | apply eqA | apply eqB | apply eqC | apply eqD | apply eqE | apply eqF | apply eqG | apply eqH | apply eqI))
    · exact vstep (by omega) (fun q => by subst q; exact hb9 (by omega))
    · (simp (discharger := omega) only [wR]; omega)
def sm_r03Read : Sm := fun args σ => match args, σ with
  | [.agg [.str s_c, .int .i64 (.ofNat a_c), .int .i64 (.ofNat e_c), .int .i64 c_c]], [] => some (True ∧ ((Cu.mk s_c a_c e_c c_c).ok ∧ (Cu.mk s_c a_c e_c c_c).e = (Cu.mk s_c a_c e_c c_c).s.length ∧ (Cu.mk s_c a_c e_c c_c).s.length ≤ 1000000000), .tuple [eCa (Cu.mk s_c a_c e_c c_c).dread.2, .int .u64 (Cu.mk s_c a_c e_c c_c).dread.1], none)
  | _, _ => none
theorem k_r03Read : SOK 60 sm_r03Read := by
  intro args sg pre x r he hp
  unfold sm_r03Read at he
  split at he <;> cases he
  · rw [viewCa (hp).1]; exact f_r03Read_1 (hp := hp.2) ..
def Cu.dtext (c : Cu) : List UInt8 × Cu := if c.dread.2.c = 0 ∧ (c.dread.1 : Int) > c.dread.2.left then ([], c.dread.2.fail 1) else (c.dread.2.takeV c.dread.1, c.dread.2.pass c.dread.1)
theorem dread_c (c : Cu) : c.dread.2.c = c.vread.2.c := by
  unfold Cu.dread
  split
  · rfl
  · rfl
theorem dread_0 {c : Cu} (h : c.vread.2.c = 0) : c.dread = c.vread := by unfold Cu.dread; rw [if_pos h]
theorem dread_z {c : Cu} (h : ¬ c.dread.2.c = 0) : c.dread.1 = 0 := by
  rw [dread_c] at h
  unfold Cu.dread
  rw [if_neg h]
theorem dread_ok {c : Cu} (h : c.ok) : c.dread.2.ok ∧ c.dread.2.s = c.s ∧ c.dread.2.e = c.e := by
  unfold Cu.dread
  split
  · exact vread_ok h
  · exact ⟨h, rfl, rfl⟩
theorem dread_lt {c : Cu} : c.dread.1 ≤ 18446744073709551615 := by
  unfold Cu.dread
  split
  · exact vread_lt
  · exact Nat.zero_le _
theorem dtext_c (c : Cu) : c.dtext.2.c = c.text.2.c ∧ (c.text.2.c = 0 → c.dtext = c.text) := by
  by_cases h : c.vread.2.c = 0
  · have := dread_0 h
    unfold Cu.dtext Cu.text
    rw [this]
    exact ⟨rfl, fun _ => rfl⟩
  · have h1 : ¬ c.dread.2.c = 0 := by rw [dread_c]; exact h
    unfold Cu.dtext Cu.text
    dsimp only
    rw [if_neg (fun q => h1 q.1), if_neg (fun q => h q.1), pass_err h1, pass_err h]
    exact ⟨dread_c c, fun q => absurd q h⟩
theorem dtext_ok {c : Cu} (h : c.ok) : c.dtext.2.ok ∧ c.dtext.2.s = c.s ∧ c.dtext.2.e = c.e := by
  have hv := dread_ok h
  have hf := fail_ok hv.1 1
  have hq := pass_ok hv.1 c.dread.1
  unfold Cu.dtext
  split
  · exact ⟨hf.1, hf.2.1.trans hv.2.1, hf.2.2.1.trans hv.2.2⟩
  · exact ⟨hq.1, hq.2.1.trans hv.2.1, hq.2.2.trans hv.2.2⟩
end Go.Proofs.YtkkfdkfopdjomaaDoor
