/-
  A part of the proof.
-/
import Derived.Test.YtllncocibkgjkaaJTx
set_option linter.unusedSimpArgs false
set_option linter.unusedVariables false
set_option maxHeartbeats 4000000
namespace Go.Proofs.Ytllncocibkgjkaa
open Go Go.VG
set_option maxRecDepth 100000
structure Nd where
 k : UInt8
 key : List UInt8
 t : List UInt8
 sz : Int
instance : Inhabited Nd := ⟨⟨0, [], [], 0⟩⟩
abbrev eNc (n : Nd) : List V := [.int .u8 n.k.toNat, .str n.key, .str n.t, .int .i64 n.sz]
abbrev aX (n : Nd) : V := .agg (eNc n)
def Cu.aE (c : Cu) : Int := if c.next.1.c ≠ 0 then c.next.1.c else if c.next.2.k = 0 then 1 else 0
abbrev RT : Type := Int × List Nd × Cu
def eQ (k : UInt8) : Bool := decide (k.toNat = 115 ∨ k.toNat = 110 ∨ k.toNat = 116 ∨ k.toNat = 102 ∨ k.toNat = 122)
abbrev VF : Type := Tk → List UInt8 → Cu → RT
def er (v : VF) : Nat → Tk → Cu → List Nd → RT
 | 0, _, c, _ => (1, [], c)
 | n + 1, t, c, acc =>
   if (v t [] c).1 ≠ 0 then ((v t [] c).1, [], c)
   else if (v t [] c).2.2.aE ≠ 0 then ((v t [] c).2.2.aE, [], c)
   else if (v t [] c).2.2.next.2.k.toNat = 93 then (0, acc ++ (v t [] c).2.1, (v t [] c).2.2.next.1)
   else if (v t [] c).2.2.next.2.k.toNat ≠ 44 then (3, [], c)
   else if (v t [] c).2.2.next.1.aE ≠ 0 then ((v t [] c).2.2.next.1.aE, [], c)
   else er v n (v t [] c).2.2.next.1.next.2 (v t [] c).2.2.next.1.next.1 (acc ++ (v t [] c).2.1)
def aV (v : VF) (c : Cu) : RT :=
 if c.aE ≠ 0 then (c.aE, [], c) else if c.next.2.k.toNat = 93 then (0, [], c.next.1) else er v (c.next.1.e - c.next.1.p + 1) c.next.2 c.next.1 []
def cm (t : Tk) (c : Cu) (ks : List (List UInt8)) : Int :=
 if t.k.toNat ≠ 115 then 3 else if t.t ∈ ks then 8 else if c.aE ≠ 0 then c.aE else if c.next.2.k.toNat ≠ 58 then 3 else c.next.1.aE
def bQ (v : VF) (t : Tk) (c : Cu) : RT := v c.next.1.next.2 t.t c.next.1.next.1
def eP (v : VF) : Nat → Tk → Cu → List (List UInt8) → List Nd → RT
 | 0, _, c, _, _ => (1, [], c)
 | n + 1, t, c, ks, acc =>
   if cm t c ks ≠ 0 then (cm t c ks, [], c)
   else if (bQ v t c).1 ≠ 0 then ((bQ v t c).1, [], c)
   else if (bQ v t c).2.2.aE ≠ 0 then ((bQ v t c).2.2.aE, [], c)
   else if (bQ v t c).2.2.next.2.k.toNat = 125 then (0, acc ++ (bQ v t c).2.1, (bQ v t c).2.2.next.1)
   else if (bQ v t c).2.2.next.2.k.toNat ≠ 44 then (3, [], c)
   else if (bQ v t c).2.2.next.1.aE ≠ 0 then ((bQ v t c).2.2.next.1.aE, [], c)
   else eP v n (bQ v t c).2.2.next.1.next.2 (bQ v t c).2.2.next.1.next.1 (ks ++ [t.t]) (acc ++ (bQ v t c).2.1)
def aU (v : VF) (c : Cu) : RT :=
 if c.aE ≠ 0 then (c.aE, [], c) else if c.next.2.k.toNat = 125 then (0, [], c.next.1) else eP v (c.next.1.e - c.next.1.p + 1) c.next.2 c.next.1 [] []
def gv : Nat → VF
 | 0, t, key, c => if t.k.toNat = 123 ∨ t.k.toNat = 91 then (33, [], c) else if eQ t.k = true then (0, [⟨t.k, key, t.t, 1⟩], c) else (3, [], c)
 | k + 1, t, key, c =>
   if t.k.toNat = 123 then ((aU (gv k) c).1, ⟨t.k, key, t.t, (aU (gv k) c).2.1.length + 1⟩ :: (aU (gv k) c).2.1, (aU (gv k) c).2.2)
   else if t.k.toNat = 91 then ((aV (gv k) c).1, ⟨t.k, key, t.t, (aV (gv k) c).2.1.length + 1⟩ :: (aV (gv k) c).2.1, (aV (gv k) c).2.2)
   else if eQ t.k = true then (0, [⟨t.k, key, t.t, 1⟩], c) else (3, [], c)
def Cu.live (c : Cu) : Prop := c.ok ∧ c.c = 0 ∧ c.s.length ≤ 10000000
theorem bH {c : Cu} (h : c.live) (h0 : c.aE = 0) : c.next.1.live ∧ c.next.1.s = c.s ∧ c.next.1.e = c.e ∧ c.p < c.next.1.p ∧ c.next = c.bF := by
 have hs := nr h.1
 unfold Cu.aE at h0
 split at h0
 . rename_i h1; exact absurd h0 h1
 . rename_i h1
   split at h0
   . cases h0
   . rename_i h2
     have h1 : c.next.1.c = 0 := by omega
     have hd : c.bF.1.c = 0 := by rw [← hs.2.1]; exact h1
     have he : c.next = c.bF := Prod.ext (hs.2.2 hd) hs.1
     have hn := zo h.1 hd
     rw [he] at h2 ⊢
     exact ⟨⟨hn.1, hd, by rw [hn.2.1]; exact h.2.2⟩, hn.2.1, hn.2.2.1, hn.2.2.2.2.2 h2, rfl⟩
structure Fit (c : Cu) (r : RT) : Prop where
 live : r.2.2.live
 s : r.2.2.s = c.s
 e : r.2.2.e = c.e
 p : c.p ≤ r.2.2.p
 len : r.2.1.length ≤ r.2.2.p - c.p + 1
def jr (v : VF) : Prop := ∀ t key c, c.live → (v t key c).1 = 0 → Fit c (v t key c)
theorem xM {v : VF} (hv : jr v) : ∀ (n : Nat) (t : Tk) (c c0 : Cu) (acc : List Nd), c.live → c.s = c0.s → c.e = c0.e → c0.p ≤ c.p → acc.length ≤ c.p - c0.p → (er v n t c acc).1 = 0 →
   Fit c0 (er v n t c acc) ∧ (er v n t c acc).2.1.length ≤ (er v n t c acc).2.2.p - c0.p
 | 0, _, _, _, _, _, _, _, _, _, h => by rw [er] at h; cases h
 | n + 1, t, c, c0, acc, hc, hs, he, hp, ha, h => by
   rw [er] at h ⊢
   by_cases h1 : (v t [] c).1 ≠ 0
   . rw [if_pos h1] at h; exact absurd h h1
   rw [if_neg h1] at h ⊢
   have f1 := hv t [] c hc (by omega)
   by_cases h2 : (v t [] c).2.2.aE ≠ 0
   . rw [if_pos h2] at h; exact absurd h h2
   rw [if_neg h2] at h ⊢
   obtain ⟨l1, l2, l3, l4, _⟩ := bH f1.live (by omega)
   have fs := f1.s; have fe := f1.e; have fp := f1.p; have fl := f1.len
   by_cases h3 : (v t [] c).2.2.next.2.k.toNat = 93
   . rw [if_pos h3] at h ⊢
     have e : (acc ++ (v t [] c).2.1).length ≤ (v t [] c).2.2.next.1.p - c0.p := by rw [List.length_append]; omega
     exact ⟨⟨l1, by rw [l2, fs, hs], by rw [l3, fe, he], by show c0.p ≤ (v t [] c).2.2.next.1.p; omega, Nat.le_trans e (Nat.le_succ _)⟩, e⟩
   rw [if_neg h3] at h ⊢
   by_cases h4 : (v t [] c).2.2.next.2.k.toNat ≠ 44
   . rw [if_pos h4] at h; cases h
   rw [if_neg h4] at h ⊢
   by_cases h5 : (v t [] c).2.2.next.1.aE ≠ 0
   . rw [if_pos h5] at h; exact absurd h h5
   rw [if_neg h5] at h ⊢
   obtain ⟨m1, m2, m3, m4, _⟩ := bH l1 (by omega)
   exact xM hv n _ _ c0 _ m1 (by rw [m2, l2, fs, hs]) (by rw [m3, l3, fe, he]) (by omega) (by rw [List.length_append]; omega) h
theorem tg {v : VF} (hv : jr v) {c : Cu} (hc : c.live) (h : (aV v c).1 = 0) : Fit c (aV v c) ∧ (aV v c).2.1.length ≤ (aV v c).2.2.p - c.p := by
 unfold aV at h ⊢
 by_cases h1 : c.aE ≠ 0
 . rw [if_pos h1] at h; exact absurd h h1
 rw [if_neg h1] at h ⊢
 obtain ⟨l1, l2, l3, l4, _⟩ := bH hc (by omega)
 by_cases h3 : c.next.2.k.toNat = 93
 . rw [if_pos h3] at h ⊢
   exact ⟨⟨l1, l2, l3, by show c.p ≤ c.next.1.p; omega, Nat.zero_le _⟩, Nat.zero_le _⟩
 rw [if_neg h3] at h ⊢
 exact xM hv _ _ _ c _ l1 l2 l3 (by omega) (Nat.zero_le _) h
theorem tN {t : Tk} {c : Cu} {ks : List (List UInt8)} (hc : c.live) (h : cm t c ks = 0) : t.k.toNat = 115 ∧ t.t ∉ ks ∧ c.aE = 0 ∧ c.next.2.k.toNat = 58 ∧ c.next.1.aE = 0 := by
 unfold cm at h
 by_cases h1 : t.k.toNat ≠ 115
 . rw [if_pos h1] at h; cases h
 rw [if_neg h1] at h
 by_cases h2 : t.t ∈ ks
 . rw [if_pos h2] at h; cases h
 rw [if_neg h2] at h
 by_cases h3 : c.aE ≠ 0
 . rw [if_pos h3] at h; exact absurd h h3
 rw [if_neg h3] at h
 by_cases h4 : c.next.2.k.toNat ≠ 58
 . rw [if_pos h4] at h; cases h
 rw [if_neg h4] at h
 exact ⟨by omega, h2, by omega, by omega, h⟩
theorem xS {v : VF} (hv : jr v) : ∀ (n : Nat) (t : Tk) (c c0 : Cu) (ks : List (List UInt8)) (acc : List Nd), c.live → c.s = c0.s → c.e = c0.e → c0.p ≤ c.p → acc.length ≤ c.p - c0.p → (eP v n t c ks acc).1 = 0 →
   Fit c0 (eP v n t c ks acc) ∧ (eP v n t c ks acc).2.1.length ≤ (eP v n t c ks acc).2.2.p - c0.p
 | 0, _, _, _, _, _, _, _, _, _, _, h => by rw [eP] at h; cases h
 | n + 1, t, c, c0, ks, acc, hc, hs, he, hp, ha, h => by
   rw [eP] at h ⊢
   by_cases h0 : cm t c ks ≠ 0
   . rw [if_pos h0] at h; exact absurd h h0
   rw [if_neg h0] at h ⊢
   obtain ⟨_, _, q1, _, q2⟩ := tN (t := t) (ks := ks) hc (by omega)
   obtain ⟨a1, a2, a3, a4, _⟩ := bH hc q1
   obtain ⟨b1, b2, b3, b4, _⟩ := bH a1 q2
   by_cases h1 : (bQ v t c).1 ≠ 0
   . rw [if_pos h1] at h; exact absurd h h1
   rw [if_neg h1] at h ⊢
   have f1 : Fit c.next.1.next.1 (bQ v t c) := hv _ _ _ b1 (show (bQ v t c).1 = 0 by omega)
   by_cases h2 : (bQ v t c).2.2.aE ≠ 0
   . rw [if_pos h2] at h; exact absurd h h2
   rw [if_neg h2] at h ⊢
   obtain ⟨l1, l2, l3, l4, _⟩ := bH f1.live (by omega)
   have fs := f1.s; have fe := f1.e; have fp := f1.p; have fl := f1.len
   by_cases h3 : (bQ v t c).2.2.next.2.k.toNat = 125
   . rw [if_pos h3] at h ⊢
     have e : (acc ++ (bQ v t c).2.1).length ≤ (bQ v t c).2.2.next.1.p - c0.p := by rw [List.length_append]; omega
     exact ⟨⟨l1, by rw [l2, fs, b2, a2, hs], by rw [l3, fe, b3, a3, he], by show c0.p ≤ (bQ v t c).2.2.next.1.p; omega, Nat.le_trans e (Nat.le_succ _)⟩, e⟩
   rw [if_neg h3] at h ⊢
   by_cases h4 : (bQ v t c).2.2.next.2.k.toNat ≠ 44
   . rw [if_pos h4] at h; cases h
   rw [if_neg h4] at h ⊢
   by_cases h5 : (bQ v t c).2.2.next.1.aE ≠ 0
   . rw [if_pos h5] at h; exact absurd h h5
   rw [if_neg h5] at h ⊢
   obtain ⟨m1, m2, m3, m4, _⟩ := bH l1 (by omega)
   exact xS hv n _ _ c0 _ _ m1 (by rw [m2, l2, fs, b2, a2, hs]) (by rw [m3, l3, fe, b3, a3, he]) (by omega) (by rw [List.length_append]; omega) h
theorem tj {v : VF} (hv : jr v) {c : Cu} (hc : c.live) (h : (aU v c).1 = 0) : Fit c (aU v c) ∧ (aU v c).2.1.length ≤ (aU v c).2.2.p - c.p := by
 unfold aU at h ⊢
 by_cases h1 : c.aE ≠ 0
 . rw [if_pos h1] at h; exact absurd h h1
 rw [if_neg h1] at h ⊢
 obtain ⟨l1, l2, l3, l4, _⟩ := bH hc (by omega)
 by_cases h3 : c.next.2.k.toNat = 125
 . rw [if_pos h3] at h ⊢
   exact ⟨⟨l1, l2, l3, by show c.p ≤ c.next.1.p; omega, Nat.zero_le _⟩, Nat.zero_le _⟩
 rw [if_neg h3] at h ⊢
 exact xS hv _ _ _ c _ _ l1 l2 l3 (by omega) (Nat.zero_le _) h
theorem fM : ∀ k, jr (gv k)
 | 0 => fun t key c hc h => by
   rw [gv] at h ⊢
   by_cases h1 : t.k.toNat = 123 ∨ t.k.toNat = 91
   . rw [if_pos h1] at h; cases h
   rw [if_neg h1] at h ⊢
   by_cases h2 : eQ t.k = true
   . rw [if_pos h2]; exact ⟨hc, rfl, rfl, Nat.le_refl _, by simp⟩
   . rw [if_neg h2] at h; cases h
 | k + 1 => fun t key c hc h => by
   rw [gv] at h ⊢
   by_cases h1 : t.k.toNat = 123
   . rw [if_pos h1] at h ⊢
     obtain ⟨f, hl⟩ := tj (fM k) hc h
     exact ⟨f.live, f.s, f.e, f.p, by show (_ :: _ : List Nd).length ≤ _; rw [List.length_cons]; show (aU (gv k) c).2.1.length + 1 ≤ (aU (gv k) c).2.2.p - c.p + 1; omega⟩
   rw [if_neg h1] at h ⊢
   by_cases h3 : t.k.toNat = 91
   . rw [if_pos h3] at h ⊢
     obtain ⟨f, hl⟩ := tg (fM k) hc h
     exact ⟨f.live, f.s, f.e, f.p, by show (_ :: _ : List Nd).length ≤ _; rw [List.length_cons]; show (aV (gv k) c).2.1.length + 1 ≤ (aV (gv k) c).2.2.p - c.p + 1; omega⟩
   rw [if_neg h3] at h ⊢
   by_cases h2 : eQ t.k = true
   . rw [if_pos h2]; exact ⟨hc, rfl, rfl, Nat.le_refl _, by simp⟩
   . rw [if_neg h2] at h; cases h
end Go.Proofs.Ytllncocibkgjkaa
