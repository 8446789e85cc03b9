/-
  A part of the proof.
-/
import Derived.Test.YtllncocibkgjkaaGreatJTw
import Derived.Test.YtllncocibkgjkaaGreatPQuote
set_option linter.unusedSimpArgs false
set_option linter.unusedVariables false
set_option maxHeartbeats 4000000
namespace Go.Proofs.YtllncocibkgjkaaGreat
open Go Go.VG
set_option maxRecDepth 100000
abbrev vT (t : Tk) : V := .agg (eT t)
theorem Bh (s : List UInt8) : (Cu.new s).ok := ⟨Nat.zero_le _, Nat.le_refl _⟩
theorem BT (t : List UInt8) : ∀ (n i : Nat) (o : List UInt8), (bU t n i o).1 = 0 → i < (bU t n i o).2.1 ∧ (bU t n i o).2.1 ≤ t.length
 | 0, _, _, h => by rw [bU] at h; simp at h
 | n + 1, i, o, h => by
   rw [bU] at h ⊢
   by_cases a : t.length ≤ i
   . rw [if_pos a] at h; simp at h
   rw [if_neg a] at h ⊢
   by_cases b : (t.getD i 0).toNat = 34
   . rw [if_pos b]; exact ⟨by show i < i + 1; omega, by show i + 1 ≤ _; omega⟩
   rw [if_neg b] at h ⊢
   by_cases c : (bh t i).2.2 ≠ 0
   . rw [if_pos c] at h; exact absurd h c
   rw [if_neg c] at h ⊢
   have h1 := BT t n (bh t i).2.1.toNat _ h
   have h2 := By t i (by omega)
   omega
theorem vg (t : List UInt8) (i : Nat) (h : (cw t i).2 = 0) : i < (cw t i).1 := by
 revert h; unfold cw; repeat' split
 all_goals (intro h; first | (dsimp only; omega) | (exfalso; simp at h))
theorem Bk (t : List UInt8) (i : Nat) (hi : i ≤ t.length) (h : (cy t i).2 = 0) : i < (cy t i).1 := by
 have h1 := qv t i 45 45 hi
 have w : (bm t i).2 = 0 → i < (bm t i).1 ∧ (bm t i).1 ≤ t.length := by
  unfold bm; split
  . rename_i q; have := (j9.1 q).1; intro _; dsimp only; omega
  . intro h; have := vg t _ h; have := mT t _ h1.2; omega
 have b : (cj t (bm t i)).2 = 0 → i < (cj t (bm t i)).1 ∧ (cj t (bm t i)).1 ≤ t.length := by
  generalize bm t i = x at *
  unfold cj; split
  . rename_i q; intro h; have := (j9.1 q.2).1; have := w q.1; have := vg t _ h; have := mT t (x.1 + 1) (by omega); omega
  . exact w
 revert h
 unfold cy
 generalize cj t (bm t i) = x at *
 unfold ik; split
 . rename_i q; intro h; have := b q.1; have := (j9.1 q.2).1; have := qv t (x.1 + 1) 43 45 (by omega); have := vg t _ h; omega
 . exact fun h => (b h).1
theorem s8 {c : Cu} (hk : c.ok) (h : c.aN.1.c = 0) : c.aN.1.ok ∧ c.aN.1.s = c.s ∧ c.aN.1.e = c.e ∧ c.c = 0 ∧ c.p ≤ c.aN.1.p ∧ (c.aN.2.k ≠ 0 → c.p < c.aN.1.p) := by
 have hl := eA hk
 unfold Cu.aN at h ⊢
 by_cases h0 : c.c = 0
 . rw [if_neg (by omega)] at h ⊢
   have hr := qp bQ c.a9 c.p
   have hp := hk.1
   have hd : Cu.ok { c with p := cg bQ c.a9 c.p } := ⟨by show cg bQ c.a9 c.p ≤ c.e; omega, hk.2⟩
   have hr1 : c.p ≤ ({ c with p := cg bQ c.a9 c.p } : Cu).p := hr.1
   have e1 : ({ c with p := cg bQ c.a9 c.p } : Cu).s = c.s := rfl
   have e2 : ({ c with p := cg bQ c.a9 c.p } : Cu).e = c.e := rfl
   have e3 : ({ c with p := cg bQ c.a9 c.p } : Cu).c = 0 := h0
   generalize ({ c with p := cg bQ c.a9 c.p } : Cu) = d at *
   have hdl := eA hd
   have fl : ∀ k : Int, k ≠ 0 → (d.fail k).c ≠ 0 := fun k hk => by rw [fK _ e3]; exact hk
   rw [← e1, ← e2]
   unfold Cu.ez at h ⊢
   by_cases a : d.p = d.e
   . rw [if_pos a]; exact ⟨hd, rfl, rfl, h0, hr1, fun k => absurd rfl k⟩
   rw [if_neg a] at h ⊢
   have hlt : d.p < d.e := by have := hd.1; omega
   have bW : ∀ n, d.p + n ≤ d.e → 0 < n → Cu.ok { d with p := d.p + n } ∧ c.p ≤ d.p + n ∧ c.p < d.p + n := fun n hn h0 => ⟨⟨hn, hd.2⟩, by omega, by omega⟩
   by_cases b : bJ d.get = true
   . rw [if_pos b]; exact ⟨(bW 1 (by omega) (by omega)).1, rfl, rfl, h0, by show c.p ≤ d.p + 1; omega, fun _ => by show c.p < d.p + 1; omega⟩
   rw [if_neg b] at h ⊢
   by_cases g : d.get.toNat = 34
   . rw [if_pos g] at h ⊢
     unfold held Cu.dt at h ⊢
     rw [if_neg (by omega), if_neg a, if_neg (by omega)] at h ⊢
     by_cases z : (bU (d.s.take d.e) (d.e - d.p) (d.p + 1) []).1 = 0
     . rw [if_pos z]
       have := BT _ _ _ _ z
       have hlen : (d.s.take d.e).length = d.e := hdl
       generalize bU (d.s.take d.e) (d.e - d.p) (d.p + 1) [] = R at *
       refine ⟨⟨by show R.2.1 ≤ d.e; omega, hd.2⟩, rfl, rfl, h0, by show c.p ≤ R.2.1; omega, fun _ => by show c.p < R.2.1; omega⟩
     . rw [if_neg z] at h; exact absurd h (fl _ z)
   rw [if_neg g] at h ⊢
   by_cases f : d.get.toNat = 45 ∨ c8 d.get = true
   . rw [if_pos f] at h ⊢
     unfold held Cu.fj at h ⊢
     rw [if_neg (by omega)] at h ⊢
     by_cases z : (cy d.a9 d.p).2 = 0
     . rw [if_neg (by omega)]
       have q1 := Bk d.a9 d.p (by omega) z
       have q2 := sa d.a9 d.p (by omega)
       generalize cy d.a9 d.p = R at *
       refine ⟨⟨by show R.1 ≤ d.e; omega, hd.2⟩, rfl, rfl, h0, by show c.p ≤ R.1; omega, fun _ => by show c.p < R.1; omega⟩
     . rw [if_pos z] at h; exact absurd h (fl _ z)
   rw [if_neg f] at h ⊢
   have hw : ∀ k, 0 < (spell k).length → (d.cr k).1.c = 0 → (d.cr k).1.ok ∧ (d.cr k).1.s = d.s ∧ (d.cr k).1.e = d.e ∧ c.c = 0 ∧ c.p ≤ (d.cr k).1.p ∧ ((d.cr k).2.k ≠ 0 → c.p < (d.cr k).1.p) := fun k hsp h => by
    have hwe : ∀ (s : List UInt8) (i : Nat), cS d s i = 0 → s = [] ∨ d.p + i + s.length ≤ d.e := by
     intro s
     induction s with
     | nil => intro i _; exact .inl rfl
     | cons b s ih =>
       intro i hi
       unfold cS at hi
       split at hi
       . simp at hi
       . split at hi
         . simp at hi
         . right
           rcases ih (i + 1) hi with e | e
           . subst e; simp; omega
           . simp; omega
    unfold Cu.cr at h ⊢
    by_cases z : cS d (spell k) 0 = 0
    . rw [if_neg (by omega)]
      refine ⟨⟨?_, hd.2⟩, rfl, rfl, h0, by show c.p ≤ d.p + (spell k).length; omega, fun hk0 => ?_⟩
      . rcases hwe _ _ z with e | e
        . rw [e]; exact hd.1
        . show d.p + (spell k).length ≤ d.e; omega
      . show c.p < d.p + (spell k).length; omega
    . rw [if_pos z] at h; exact absurd h (fl _ z)
   by_cases w : d.get.toNat = 116 ∨ d.get.toNat = 102
   . rw [if_pos w] at h ⊢
     refine hw _ ?_ h
     unfold spell
     rcases w with w | w <;> simp [w]
   rw [if_neg w] at h ⊢
   by_cases v : d.get.toNat = 110
   . rw [if_pos v] at h ⊢; exact hw _ (by decide) h
   rw [if_neg v] at h; exact absurd h (fl 3 (by decide))
 . rw [if_pos h0] at h; exact absurd h h0
def cq (t : Tk) : List UInt8 := if t.k.toNat = 115 then quote t.t else if t.k.toNat = 110 then t.t else if bJ t.k = true then [t.k] else spell t.k
theorem Lt (t : Tk) : (cq t).length ≤ 6 * t.t.length + 5 := by
 have := sn t.t
 unfold cq spell; repeat' split
 all_goals first | omega | simp
end Go.Proofs.YtllncocibkgjkaaGreat
