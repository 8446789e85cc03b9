/-
  What is read of what was laid: numbers and texts.
-/
import Derived.Test.YtgiocgghmlmgfaaDoorCRt
set_option linter.unusedSimpArgs false
set_option linter.unusedVariables false
set_option maxHeartbeats 4000000
namespace Go.Proofs.YtgiocgghmlmgfaaDoor
open Go Go.VG
set_option maxRecDepth 100000
/-- at a place of a text stand these bytes -/
def Rd (s x : List UInt8) (p : Nat) : Prop := ∃ a b, s = a ++ (x ++ b) ∧ p = a.length
theorem Rd.cons {s x : List UInt8} {b : UInt8} {p : Nat} (h : Rd s (b :: x) p) : p < s.length ∧ s.getD p 0 = b ∧ Rd s x (p + 1) := by
  obtain ⟨u, v, rfl, rfl⟩ := h
  refine ⟨by simp, by simp, u ++ [b], v, by simp, by simp⟩
theorem Rd.app {s x y : List UInt8} {p : Nat} (h : Rd s (x ++ y) p) : Rd s x p ∧ Rd s y (p + x.length) := by
  obtain ⟨u, v, rfl, rfl⟩ := h
  exact ⟨⟨u, y ++ v, by simp, rfl⟩, ⟨u ++ x, v, by simp, by simp⟩⟩
theorem Rd.take {s x : List UInt8} {p : Nat} (h : Rd s x p) : (s.drop p).take x.length = x ∧ p + x.length ≤ s.length := by
  obtain ⟨u, v, rfl, rfl⟩ := h
  refine ⟨by simp, by simp⟩
def cu (s : List UInt8) (p : Nat) : Cu := ⟨s, p, s.length, 0⟩
theorem cu_ok {s x : List UInt8} {p : Nat} (h : Rd s x p) : (cu s p).ok := ⟨by have := h.take.2; show p ≤ s.length; omega, Nat.le_refl _⟩
theorem cu_byte {s x : List UInt8} {b : UInt8} {p : Nat} (h : Rd s (b :: x) p) : (cu s p).byte = cu s (p + 1) ∧ (cu s p).byteV = b := by
  obtain ⟨h1, h2, _⟩ := h.cons
  constructor
  · unfold Cu.byte Cu.pass cu
    dsimp only
    rw [if_neg (by decide), if_neg (by decide), if_neg (by omega)]
    rfl
  · unfold Cu.byteV cu Cu.get
    dsimp only
    rw [if_pos ⟨rfl, h1⟩, h2]
theorem cu_take {s x : List UInt8} {p : Nat} {n : Int} (h : Rd s x p) (hn : n = x.length) : (cu s p).takeV n = x ∧ (cu s p).pass n = cu s (p + x.length) := by
  subst hn
  obtain ⟨h1, h2⟩ := h.take
  constructor
  · unfold Cu.takeV Cu.may cu
    rw [if_pos (decide_eq_true ⟨rfl, by omega, by dsimp only; omega⟩)]
    exact h1
  · unfold Cu.pass cu
    dsimp only
    rw [if_neg (by decide), if_neg (by omega), if_neg (by omega)]
    rfl
theorem ofNat_toNat {n : Nat} (h : n < 256) : (UInt8.ofNat n).toNat = n := by simp; omega
theorem vr_put {s : List UInt8} : ∀ (j i u v p : Nat), i + j = 9 → v < 2 ^ (64 - 7 * i) → Rd s (vput v) p → vrGo (j + 1) i u (cu s p) = (u + v * 2 ^ (7 * i), cu s (p + (vput v).length)) := by
  intro j
  induction j with
  | zero =>
    intro i u v p hij hv hr
    obtain rfl : i = 9 := by omega
    have hv : v < 2 := hv
    rw [vput_lt (by omega)] at hr ⊢
    obtain ⟨b1, b2⟩ := cu_byte hr
    have e : (UInt8.ofNat v).toNat = v := ofNat_toNat (by omega)
    rw [vrGo, b1, b2, e, if_neg (show ¬ (cu s (p + 1)).c ≠ 0 from fun h => h rfl), if_neg (by omega), if_pos (by omega)]
    rfl
  | succ j ih =>
    intro i u v p hij hv hr
    have hvi : i = 9 → v < 2 := fun h => by omega
    by_cases c : v < 128
    · rw [vput_lt c] at hr ⊢
      obtain ⟨b1, b2⟩ := cu_byte hr
      have e : (UInt8.ofNat v).toNat = v := ofNat_toNat (by omega)
      rw [vrGo, b1, b2, e, if_neg (show ¬ (cu s (p + 1)).c ≠ 0 from fun h => h rfl), if_neg (by omega), if_pos c]
      rfl
    · rw [vput_ge (by omega)] at hr ⊢
      obtain ⟨b1, b2⟩ := cu_byte hr
      have e : (UInt8.ofNat (128 + v % 128)).toNat = 128 + v % 128 := ofNat_toNat (by omega)
      have hq : v / 128 < 2 ^ (64 - 7 * (i + 1)) := by
        refine Nat.div_lt_of_lt_mul ?_
        rw [show (128 : Nat) = 2 ^ 7 from rfl, ← Nat.pow_add, show 7 + (64 - 7 * (i + 1)) = 64 - 7 * i by omega]
        exact hv
      rw [vrGo, b1, b2, e, if_neg (show ¬ (cu s (p + 1)).c ≠ 0 from fun h => h rfl), if_neg (by omega), if_neg (by omega), ih (i + 1) _ (v / 128) (p + 1) (by omega) hq hr.cons.2.2]
      have hP : 2 ^ (7 * (i + 1)) = 128 * 2 ^ (7 * i) := by rw [show 7 * (i + 1) = 7 + 7 * i by omega, Nat.pow_add]
      have hm : v * 2 ^ (7 * i) = v % 128 * 2 ^ (7 * i) + v / 128 * (128 * 2 ^ (7 * i)) := by
        rw [← Nat.mul_assoc, ← Nat.add_mul, show v % 128 + v / 128 * 128 = v by omega]
      rw [hP, hm, show 128 + v % 128 - 128 = v % 128 by omega]
      refine Prod.ext (Nat.add_assoc _ _ _) ?_
      show cu s _ = cu s _
      rw [List.length_cons, show p + 1 + (vput (v / 128)).length = p + ((vput (v / 128)).length + 1) by omega]
theorem vread_put {s : List UInt8} {v p : Nat} (hv : v < 18446744073709551616) (hr : Rd s (vput v) p) : (cu s p).vread = (v, cu s (p + (vput v).length)) := by
  have := vr_put 9 0 0 v p rfl hv hr
  simpa [Cu.vread] using this
theorem low_read {s : List UInt8} {p u : Nat} (hu : u < 18446744073709551616) (hr : Rd s (low 8 u) p) : (cu s p).low64 = (u, cu s (p + (low 8 u).length)) := by
  obtain ⟨h1, h2⟩ := cu_take (n := 8) hr (by rw [low_length]; rfl)
  unfold Cu.low64
  rw [h1, h2, lowR_low 8 u hu]
theorem text_put {s t : List UInt8} {p : Nat} (ht : t.length < 18446744073709551616) (hr : Rd s (vput t.length ++ t) p) : (cu s p).text = (t, cu s (p + (vput t.length ++ t).length)) := by
  obtain ⟨r1, r2⟩ := hr.app
  obtain ⟨h1, h2⟩ := cu_take (n := t.length) r2 rfl
  have h3 := r2.take.2
  unfold Cu.text
  rw [vread_put ht r1]
  dsimp only
  have hl : (cu s (p + (vput t.length).length)).left = s.length - ((p + (vput t.length).length : Nat) : Int) := rfl
  rw [if_neg (by rw [hl]; omega), h1, h2, List.length_append, Nat.add_assoc]
end Go.Proofs.YtgiocgghmlmgfaaDoor
