/-
  A text of JSON is read by the program as by the document (plain law): the end.
-/
import Derived.Test.YtgbkjecepncjoaaJRf
set_option linter.unusedSimpArgs false
set_option linter.unusedVariables false
set_option maxHeartbeats 4000000
namespace Go.Proofs.Ytgbkjecepncjoaa
open Go Go.VG
set_option maxRecDepth 100000
theorem readGo_err {n : Nat} {c : Cu} {o : List UInt8} (hn : 0 < n) (h : c.c ≠ 0) : readGo n c o = (c, []) := by
  cases n with
  | zero => omega
  | succ n => rw [readGo, if_pos h]
def Same (d : Cu) (P : Cu × List UInt8) (R : Int × Nat × List UInt8) : Prop :=
  (R.1 = 0 → P.1.c = 0 ∧ P.1.p = R.2.1 ∧ P.2 = R.2.2 ∧ P.1.s = d.s ∧ P.1.e = d.e) ∧ (R.1 ≠ 0 → P.1.c = R.1 ∧ P.2 = [])
theorem go_eq : ∀ (n m : Nat) (d : Cu) (o : List UInt8), d.ok → d.c = 0 → d.mu < n → d.txt.length - d.p + 1 ≤ m → Same d (readGo n d o) (readDGo d.txt m d.p o)
  | 0, _, _, _, _, _, h, _ => by omega
  | n + 1, 0, _, _, _, _, _, h => by omega
  | n + 1, m + 1, d, o, hk, h0, hn, hm => by
    have hl := txt_len hk
    have h1 := hk.1
    have hmu : d.mu = d.e - d.p + 1 := by unfold Cu.mu; rw [if_neg (by omega)]
    rw [readGo, readDGo, if_neg (by omega)]
    by_cases a : d.p = d.e
    · obtain ⟨b1, b2⟩ := byte_end h0 a
      have hc : d.byte.c = 1 := by rw [b1]
      rw [if_pos (by omega), if_pos (by omega), readGo_err (by omega) (by omega)]
      exact ⟨fun k => absurd k (by decide), fun _ => ⟨hc, rfl⟩⟩
    have a' : d.p < d.e := by omega
    obtain ⟨b1, b2⟩ := byte_lt h0 a'
    have on1 := On.byte h0 a'
    have hkb := byte_ok hk
    rw [if_neg (show ¬ d.byte.c ≠ 0 by rw [on1.c0]; decide), if_neg (show ¬ d.txt.length ≤ d.p by omega), b2]
    by_cases q34 : (d.txt.getD d.p 0).toNat = 34
    · rw [if_pos q34, if_pos q34]
      exact ⟨fun _ => ⟨on1.c0, on1.p, rfl, on1.s, on1.e⟩, fun k => absurd rfl k⟩
    rw [if_neg q34, if_neg q34]
    by_cases q32 : (d.txt.getD d.p 0).toNat < 32
    · have hp : partD d.txt d.p = ([], 0, 3) := by unfold partD; rw [if_neg (by omega), if_pos q32]
      have hc : (d.byte.fail 3).c = 3 := by rw [fail_c0 _ on1.c0]
      rw [if_pos q32, hp, if_pos (by decide), readGo_err (by omega) (by omega)]
      exact ⟨fun k => absurd k (by decide), fun _ => ⟨hc, rfl⟩⟩
    rw [if_neg q32]
    have step : ∀ (f : Cu) (k : Nat) (w : List UInt8), On d f k → 0 < k → f.ok → Same d (readGo n f (o ++ w)) (readDGo d.txt m (d.p + k) (o ++ w)) := fun f k w hf hk0 hfk => by
      have hfm : f.mu = f.e - f.p + 1 := by unfold Cu.mu; rw [if_neg (by have := hf.c0; omega)]
      have ih := go_eq n m f (o ++ w) hfk hf.c0 (by rw [hfm, hf.e, hf.p]; omega) (by rw [hf.txt, hf.p]; omega)
      rw [hf.txt, hf.p] at ih
      exact ⟨fun q => by obtain ⟨i1, i2, i3, i4, i5⟩ := ih.1 q; exact ⟨i1, i2, i3, i4.trans hf.s, i5.trans hf.e⟩, ih.2⟩
    by_cases q92 : (d.txt.getD d.p 0).toNat = 92
    · have hp : partD d.txt d.p = escD d.txt (d.p + 1) := by unfold partD; rw [if_pos q92]
      have ee := esc_eq hkb on1.c0
      rw [on1.txt, on1.p] at ee
      rw [if_pos q92, hp]
      by_cases e0 : (escD d.txt (d.p + 1)).2.2 ≠ 0
      · have hc := ee.2 e0
        rw [if_pos e0, readGo_err (by omega) (by rw [hc]; exact e0)]
        exact ⟨fun k => absurd k e0, fun _ => ⟨hc, rfl⟩⟩
      · rw [if_neg e0]
        obtain ⟨k, r1, r2, r3⟩ := ee.1 (by omega)
        rw [r2, r3, Int.toNat_natCast]
        have := step _ (1 + k) (escD d.txt (d.p + 1)).1 (on1.trans r1) (by omega) (escC_ok hkb)
        rw [← Nat.add_assoc] at this
        exact this
    · have ee := raw_eq hk h0 a'
      rw [if_neg q92]
      by_cases e0 : (uRune d.txt d.p).2 = 0
      · have hp : partD d.txt d.p = ([], 0, 5) := by unfold partD; rw [if_neg q92, if_neg q32, if_pos e0]
        have hc := ee.1 e0
        rw [hp, if_pos (by decide), readGo_err (by omega) (by omega)]
        exact ⟨fun k => absurd k (by decide), fun _ => ⟨hc, rfl⟩⟩
      · have hp : partD d.txt d.p = ((d.txt.take (d.p + (uRune d.txt d.p).2)).drop d.p, ((d.p + (uRune d.txt d.p).2 : Nat) : Int), 0) := by unfold partD; rw [if_neg q92, if_neg q32, if_neg e0]
        obtain ⟨r1, r2⟩ := ee.2 e0
        rw [hp, if_neg (fun k => k rfl), r2]
        exact step _ _ _ r1 (by omega) (rawC_ok hkb _)
/-- both read the same -/
theorem read_eq {c : Cu} (hk : c.ok) : c.read.2 = c.readD.2 ∧ c.read.1.c = c.readD.1.c ∧ (c.readD.1.c = 0 → c.read.1 = c.readD.1) := by
  have h1 := hk.1
  have hl := txt_len hk
  unfold Cu.read Cu.readD
  by_cases a : c.c ≠ 0
  · have hs : c.start = c := by unfold Cu.start; rw [if_neg (by omega)]
    obtain ⟨b1, _⟩ := byte_err a
    rw [hs, b1, readGo_err (by omega) a, if_pos a]
    exact ⟨rfl, rfl, fun k => absurd k a⟩
  have h0 : c.c = 0 := by omega
  rw [if_neg a]
  by_cases b : c.p = c.e
  · have hs : c.start = c := by unfold Cu.start; rw [if_neg (by omega)]
    obtain ⟨b1, _⟩ := byte_end h0 b
    have hc : c.byte.c = 1 := by rw [b1]
    rw [hs, readGo_err (by omega) (by omega), if_pos b, fail_c0 _ h0]
    exact ⟨rfl, hc, fun k => absurd k (by show (1 : Int) ≠ 0; decide)⟩
  have b' : c.p < c.e := by omega
  obtain ⟨d1, d2⟩ := byte_lt h0 b'
  have hg : c.get = c.txt.getD c.p 0 := by unfold Cu.txt; rw [getD_take b']; rfl
  rw [if_neg b]
  by_cases e : c.get.toNat ≠ 34
  · have hs : c.start = c.fail 3 := by unfold Cu.start; rw [if_pos ⟨⟨h0, b'⟩, by rw [d2, ← hg]; exact e⟩]
    have hf : (c.fail 3).c = 3 := by rw [fail_c0 _ h0]
    obtain ⟨b1, _⟩ := byte_err (c := c.fail 3) (by omega)
    rw [hs, b1, readGo_err (by omega) (by omega), if_pos e]
    exact ⟨rfl, rfl, fun k => absurd (hf.symm.trans k) (by decide)⟩
  rw [if_neg e]
  have hs : c.start = c := by unfold Cu.start; rw [if_neg (by rw [d2, ← hg]; exact fun k => k.2 (by omega))]
  have on1 := On.byte h0 b'
  rw [hs]
  have ge := go_eq (c.byte.mu + 1) (c.e - c.p) c.byte [] (byte_ok hk) on1.c0 (by omega) (by rw [on1.txt, on1.p]; omega)
  rw [on1.txt, on1.p] at ge
  have ge : Same c.byte (readGo (c.byte.mu + 1) c.byte []) (readDGo (c.s.take c.e) (c.e - c.p) (c.p + 1) []) := ge
  by_cases r : (readDGo (c.s.take c.e) (c.e - c.p) (c.p + 1) []).1 = 0
  · rw [if_pos r]
    obtain ⟨g1, g2, g3, g4, g5⟩ := ge.1 r
    refine ⟨g3, g1.trans h0.symm, fun _ => ?_⟩
    generalize (readGo (c.byte.mu + 1) c.byte []).1 = f at *
    obtain ⟨fs, fp, fe, fc⟩ := f
    simp only at g1 g2 g4 g5
    rw [g1, g2, g4, g5, on1.s, on1.e]
    obtain ⟨cs, cp, ce, cc⟩ := c
    simp only at h0
    rw [h0]
  · rw [if_neg r, fail_c0 _ h0]
    obtain ⟨g1, g2⟩ := ge.2 r
    exact ⟨g2, g1, fun k => absurd k r⟩
end Go.Proofs.Ytgbkjecepncjoaa
