/-
  A part of the proof.
-/
import Derived.Test.YtllncocibkgjkaaTRa
set_option linter.unusedSimpArgs false
set_option linter.unusedVariables false
set_option maxHeartbeats 4000000
namespace Go.Proofs.Ytllncocibkgjkaa
open Go Go.VG
set_option maxRecDepth 100000
abbrev Sx : Type := List Tk × Int
def fL : Nat → Cu → Sx
 | 0, _ => ([], 0)
 | n + 1, c => if c.aJ.1.c ≠ 0 then ([], c.aJ.1.c) else if c.aJ.2.k = 0 then ([], 0) else (c.aJ.2 :: (fL n c.aJ.1).1, (fL n c.aJ.1).2)
def aW (c : Cu) : Sx := fL (c.e - c.p + 1) c
def aw (s : Sx) : Int := if s.1.length > 0 then 0 else if s.2 = 0 then 1 else s.2
def af (s : Sx) : Tk := s.1.getD 0 default
def aa (s : Sx) : Sx := (s.1.drop 1, s.2)
theorem BT : ∀ (n m : Nat) (c : Cu), c.ok → c.e - c.p + 1 ≤ n → c.e - c.p + 1 ≤ m → fL n c = fL m c
 | 0, _, _, _, h, _ => absurd h (by omega)
 | _ + 1, 0, _, _, _, h => absurd h (by omega)
 | n + 1, m + 1, c, hk, hn, hm => by
   rw [fL, fL]
   by_cases h1 : c.aJ.1.c ≠ 0
   . rw [if_pos h1, if_pos h1]
   rw [if_neg h1, if_neg h1]
   by_cases h2 : c.aJ.2.k = 0
   . rw [if_pos h2, if_pos h2]
   rw [if_neg h2, if_neg h2]
   have hd := pJ hk (by omega)
   have hp := hd.2.2.2.2.2 h2
   have hp2 := hd.1.1
   rw [BT n m c.aJ.1 hd.1 (by rw [hd.2.2.1]; omega) (by rw [hd.2.2.1]; omega)]
theorem wP {c : Cu} (h : c.live) (h0 : c.av = 0) : aW c = (c.next.2 :: (aW c.next.1).1, (aW c.next.1).2) := by
 obtain ⟨l, hs, he, hp, hn⟩ := aX h h0
 have h1 : c.aJ.1.c = 0 := by rw [← hn]; exact l.2.1
 have h2 : c.aJ.2.k ≠ 0 := by
  unfold Cu.av at h0
  split at h0
  . rename_i q; exact absurd h0 q
  . split at h0
    . cases h0
    . rename_i q; rw [← hn]; exact q
 have hl := l.1.1
 conv => lhs; unfold aW; rw [fL, if_neg (by omega), if_neg h2]
 unfold aW
 rw [hn]
 rw [hn] at hl hp he
 rw [BT (c.e - c.p) (c.aJ.1.e - c.aJ.1.p + 1) c.aJ.1 (by rw [← hn]; exact l.1) (by omega) (by omega)]
theorem BE {c : Cu} (h : c.live) (h0 : c.av ≠ 0) : (aW c).1 = [] ∧ aw (aW c) = c.av := by
 have hs := mC h.1
 unfold Cu.av at h0 ⊢
 unfold aW
 rw [fL]
 by_cases h1 : c.next.1.c ≠ 0
 . have h2 : c.aJ.1.c ≠ 0 := by rw [← hs.2.1]; exact h1
   rw [if_pos h1, if_pos h2]
   refine ⟨rfl, ?_⟩
   unfold aw
   rw [if_neg (by simp), if_neg h2, hs.2.1]
 . have h2 : ¬ c.aJ.1.c ≠ 0 := by rw [← hs.2.1]; exact h1
   rw [if_neg h1] at h0 ⊢
   rw [if_neg h2]
   by_cases h3 : c.next.2.k = 0
   . rw [if_pos h3, if_pos (by rw [← hs.1]; exact h3)]
     exact ⟨rfl, rfl⟩
   . rw [if_neg h3] at h0; exact absurd rfl h0
theorem iU {c : Cu} (h : c.live) : aw (aW c) = c.av := by
 by_cases h0 : c.av = 0
 . rw [wP h h0, h0]; unfold aw; rw [if_pos (by simp)]
 . exact (BE h h0).2
theorem lI {c : Cu} (h : c.live) (h0 : c.av = 0) : af (aW c) = c.next.2 ∧ aa (aW c) = aW c.next.1 := by
 rw [wP h h0]; exact ⟨rfl, rfl⟩
abbrev RD : Type := Int × List Nd × Sx
abbrev VD : Type := List UInt8 → Sx → RD
def dR (s : Sx) (ks : List (List UInt8)) : Int := if aw s ≠ 0 then aw s else if (af s).k.toNat ≠ 115 then 3 else if (af s).t ∈ ks then 8 else 0
def fH (s : Sx) : Int := if aw s ≠ 0 then aw s else if (af s).k.toNat ≠ 58 then 3 else 0
def bC (en : Nat) (r : RD) : Int := if aw r.2.2 ≠ 0 then aw r.2.2 else if (af r.2.2).k.toNat = en then 0 else if (af r.2.2).k.toNat ≠ 44 then 3 else 0
def dM (v : VD) : Nat → Sx → List Nd → RD
 | 0, s, _ => (1, [], s)
 | n + 1, s, acc =>
   if (v [] s).1 ≠ 0 then ((v [] s).1, [], s)
   else if bC 93 (v [] s) ≠ 0 then (bC 93 (v [] s), [], aa (v [] s).2.2)
   else if (af (v [] s).2.2).k.toNat = 93 then (0, acc ++ (v [] s).2.1, aa (v [] s).2.2)
   else dM v n (aa (v [] s).2.2) (acc ++ (v [] s).2.1)
def di (v : VD) : Nat → Sx → List (List UInt8) → List Nd → RD
 | 0, s, _, _ => (1, [], s)
 | n + 1, s, ks, acc =>
   if dR s ks ≠ 0 then (dR s ks, [], s)
   else if fH (aa s) ≠ 0 then (fH (aa s), [], aa (aa s))
   else if (v (af s).t (aa (aa s))).1 ≠ 0 then ((v (af s).t (aa (aa s))).1, [], aa (aa s))
   else if bC 125 (v (af s).t (aa (aa s))) ≠ 0 then (bC 125 (v (af s).t (aa (aa s))), [], aa (v (af s).t (aa (aa s))).2.2)
   else if (af (v (af s).t (aa (aa s))).2.2).k.toNat = 125 then (0, acc ++ (v (af s).t (aa (aa s))).2.1, aa (v (af s).t (aa (aa s))).2.2)
   else di v n (aa (v (af s).t (aa (aa s))).2.2) (ks ++ [(af s).t]) (acc ++ (v (af s).t (aa (aa s))).2.1)
def aY (v : VD) (en : Nat) (s : Sx) : RD :=
 if aw s = 0 ∧ (af s).k.toNat = en then (0, [], aa s) else if en = 125 then di v (s.1.length + 1) s [] [] else dM v (s.1.length + 1) s []
def aq : Nat → VD
 | 0, key, s => if aw s ≠ 0 then (aw s, [], s) else if (af s).k.toNat = 123 ∨ (af s).k.toNat = 91 then (33, [], s) else if bB (af s).k = true then (3, [], s) else (0, [⟨(af s).k, key, (af s).t, 1⟩], aa s)
 | k + 1, key, s =>
   if aw s ≠ 0 then (aw s, [], s)
   else if (af s).k.toNat = 123 ∨ (af s).k.toNat = 91 then
    ((aY (aq k) ((af s).k.toNat + 2) (aa s)).1, ⟨(af s).k, key, [], (aY (aq k) ((af s).k.toNat + 2) (aa s)).2.1.length + 1⟩ :: (aY (aq k) ((af s).k.toNat + 2) (aa s)).2.1, (aY (aq k) ((af s).k.toNat + 2) (aa s)).2.2)
   else if bB (af s).k = true then (3, [], s) else (0, [⟨(af s).k, key, (af s).t, 1⟩], aa s)
structure cR (r : RT) (d : RD) : Prop where
 e : d.1 = r.1
 l : r.1 = 0 → d.2.1 = r.2.1
 c : r.1 = 0 → d.2.2 = aW r.2.2
theorem cR.iE {k : Int} {l l' : List Nd} {c : Cu} {s : Sx} (h : k ≠ 0) : cR (k, l, c) (k, l', s) := ⟨rfl, fun q => absurd q h, fun q => absurd q h⟩
theorem cR.err {r : RT} {d : RD} (h : d.1 = r.1) (h0 : r.1 ≠ 0) : cR r d := ⟨h, fun q => absurd q h0, fun q => absurd q h0⟩
def kF (vd : VD) : Prop := ∀ key s, (vd key s).1 = 0 → (vd key s).2.2.1.length + 1 ≤ s.1.length
theorem jQ {s : Sx} (h : aw s = 0) : 0 < s.1.length := by
 unfold aw at h
 split at h
 . assumption
 . split at h
   . cases h
   . contradiction
theorem d9 (s : Sx) : (aa s).1.length = s.1.length - 1 := by show (s.1.drop 1).length = _; rw [List.length_drop]
theorem ya {vd : VD} (hv : kF vd) : ∀ (n : Nat) (s : Sx) (acc : List Nd), (dM vd n s acc).1 = 0 → (dM vd n s acc).2.2.1.length ≤ s.1.length
 | 0, _, _, h => by rw [dM] at h; cases h
 | n + 1, s, acc, h => by
   rw [dM] at h ⊢
   by_cases h1 : (vd [] s).1 ≠ 0
   . rw [if_pos h1] at h; exact absurd h h1
   rw [if_neg h1] at h ⊢
   have q1 := hv [] s (by omega)
   by_cases h2 : bC 93 (vd [] s) ≠ 0
   . rw [if_pos h2] at h; exact absurd h h2
   rw [if_neg h2] at h ⊢
   have q2 := d9 (vd [] s).2.2
   by_cases h3 : (af (vd [] s).2.2).k.toNat = 93
   . rw [if_pos h3]; show (aa (vd [] s).2.2).1.length ≤ _; omega
   rw [if_neg h3] at h ⊢
   have := ya hv n _ _ h
   omega
theorem ye {vd : VD} (hv : kF vd) : ∀ (n : Nat) (s : Sx) (ks : List (List UInt8)) (acc : List Nd), (di vd n s ks acc).1 = 0 → (di vd n s ks acc).2.2.1.length ≤ s.1.length
 | 0, _, _, _, h => by rw [di] at h; cases h
 | n + 1, s, ks, acc, h => by
   rw [di] at h ⊢
   by_cases h0 : dR s ks ≠ 0
   . rw [if_pos h0] at h; exact absurd h h0
   rw [if_neg h0] at h ⊢
   by_cases h4 : fH (aa s) ≠ 0
   . rw [if_pos h4] at h; exact absurd h h4
   rw [if_neg h4] at h ⊢
   by_cases h1 : (vd (af s).t (aa (aa s))).1 ≠ 0
   . rw [if_pos h1] at h; exact absurd h h1
   rw [if_neg h1] at h ⊢
   have q1 := hv (af s).t (aa (aa s)) (by omega)
   have q3 := d9 s
   have q4 := d9 (aa s)
   by_cases h2 : bC 125 (vd (af s).t (aa (aa s))) ≠ 0
   . rw [if_pos h2] at h; exact absurd h h2
   rw [if_neg h2] at h ⊢
   have q2 := d9 (vd (af s).t (aa (aa s))).2.2
   by_cases h3 : (af (vd (af s).t (aa (aa s))).2.2).k.toNat = 125
   . rw [if_pos h3]; show (aa (vd (af s).t (aa (aa s))).2.2).1.length ≤ _; omega
   rw [if_neg h3] at h ⊢
   have := ye hv n _ _ _ h
   omega
theorem CU {vd : VD} (hv : kF vd) {en : Nat} {s : Sx} (h : (aY vd en s).1 = 0) : (aY vd en s).2.2.1.length ≤ s.1.length := by
 unfold aY at h ⊢
 by_cases h1 : aw s = 0 ∧ (af s).k.toNat = en
 . rw [if_pos h1]; have := d9 s; show (aa s).1.length ≤ _; omega
 rw [if_neg h1] at h ⊢
 by_cases h2 : en = 125
 . rw [if_pos h2] at h ⊢; exact ye hv _ _ _ _ h
 . rw [if_neg h2] at h ⊢; exact ya hv _ _ _ h
theorem tI : ∀ k, kF (aq k)
 | 0 => fun key s h => by
   rw [aq] at h ⊢
   by_cases h1 : aw s ≠ 0
   . rw [if_pos h1] at h; exact absurd h h1
   rw [if_neg h1] at h ⊢
   have h0 := jQ (s := s) (by omega)
   by_cases h2 : (af s).k.toNat = 123 ∨ (af s).k.toNat = 91
   . rw [if_pos h2] at h; cases h
   rw [if_neg h2] at h ⊢
   by_cases h3 : bB (af s).k = true
   . rw [if_pos h3] at h; cases h
   rw [if_neg h3]
   have := d9 s
   show (aa s).1.length + 1 ≤ _
   omega
 | k + 1 => fun key s h => by
   rw [aq] at h ⊢
   by_cases h1 : aw s ≠ 0
   . rw [if_pos h1] at h; exact absurd h h1
   rw [if_neg h1] at h ⊢
   have h0 := jQ (s := s) (by omega)
   have hr := d9 s
   by_cases h2 : (af s).k.toNat = 123 ∨ (af s).k.toNat = 91
   . rw [if_pos h2] at h ⊢
     have := CU (tI k) h
     show (aY (aq k) ((af s).k.toNat + 2) (aa s)).2.2.1.length + 1 ≤ _
     omega
   rw [if_neg h2] at h ⊢
   by_cases h3 : bB (af s).k = true
   . rw [if_pos h3] at h; cases h
   rw [if_neg h3]
   show (aa s).1.length + 1 ≤ _
   omega
def SmV (v : VF) (vd : VD) : Prop := ∀ c key, c.live → c.av = 0 → cR (v c.next.2 key c.next.1) (vd key (aW c))
def ErV (vd : VD) : Prop := ∀ key s, aw s ≠ 0 → (vd key s).1 = aw s
theorem tH : ∀ k, ErV (aq k)
 | 0 => fun key s h => by rw [aq, if_pos h]
 | k + 1 => fun key s h => by rw [aq, if_pos h]
theorem Aj {v : VF} {vd : VD} (hf : hZ v) (hl : kF vd) (he : ErV vd) (hv : SmV v vd) : ∀ (n m : Nat) (b : Cu) (acc : List Nd), b.live → b.av = 0 → b.next.1.e - b.next.1.p + 1 ≤ n → (aW b).1.length + 1 ≤ m →
   cR (dP v n b.next.2 b.next.1 acc) (dM vd m (aW b) acc)
 | 0, _, _, _, _, _, h, _ => absurd h (by omega)
 | _ + 1, 0, _, _, _, _, _, h => absurd h (by omega)
 | n + 1, m + 1, b, acc, hb, h0, hn, hm => by
   obtain ⟨a1, a2, a3, a4, _⟩ := aX hb h0
   have hs := hv b [] hb h0
   have hlen := hl [] (aW b)
   rw [dP, dM]
   by_cases h1 : (v b.next.2 [] b.next.1).1 ≠ 0
   . rw [if_pos h1, if_pos (show (vd [] (aW b)).1 ≠ 0 by rw [hs.e]; exact h1)]
     exact cR.err hs.e h1
   rw [if_neg h1, if_neg (show ¬ (vd [] (aW b)).1 ≠ 0 by rw [hs.e]; exact h1)]
   have h1' : (v b.next.2 [] b.next.1).1 = 0 := by omega
   have f := hf b.next.2 [] b.next.1 a1 h1'
   have hc := hs.c h1'
   have hll := hs.l h1'
   have hlen := hlen (by rw [hs.e]; exact h1')
   generalize v b.next.2 [] b.next.1 = r at *
   generalize vd [] (aW b) = d at *
   have hq := iU f.live
   unfold bC
   rw [hc]
   rw [hc] at hlen
   rw [hq]
   by_cases h2 : r.2.2.av ≠ 0
   . rw [if_pos h2, if_pos h2, if_pos h2]
     exact cR.iE h2
   have h2' : r.2.2.av = 0 := by omega
   obtain ⟨t1, t2⟩ := lI f.live h2'
   obtain ⟨l1, l2, l3, l4, _⟩ := aX f.live h2'
   rw [if_neg h2, if_neg h2, t1, t2]
   by_cases h3 : r.2.2.next.2.k.toNat = 93
   . rw [if_pos h3, if_pos h3, if_neg (show ¬ (0 : Int) ≠ 0 by simp), if_pos h3, hll]
     exact ⟨rfl, fun _ => rfl, fun _ => rfl⟩
   rw [if_neg h3, if_neg h3, if_neg h3]
   by_cases h4 : r.2.2.next.2.k.toNat ≠ 44
   . rw [if_pos h4, if_pos h4, if_pos (by decide)]
     exact cR.iE (by decide)
   rw [if_neg h4, if_neg h4, if_neg (show ¬ (0 : Int) ≠ 0 by simp)]
   have hsl := d9 (aW r.2.2)
   rw [t2] at hsl
   have hpos := jQ (s := aW r.2.2) (by rw [hq]; exact h2')
   have fp := f.p; have fe := f.e; have fs := f.s
   by_cases h5 : r.2.2.next.1.av ≠ 0
   . rw [if_pos h5]
     obtain ⟨m', rfl⟩ : ∃ m', m = m' + 1 := ⟨m - 1, by omega⟩
     have hx := iU l1
     have hx2 := he [] (aW r.2.2.next.1) (by rw [hx]; exact h5)
     rw [dM, if_pos (by rw [hx2, hx]; exact h5)]
     exact cR.err (by rw [hx2, hx]) h5
   rw [if_neg h5]
   rw [hll]
   obtain ⟨m1, m2, m3, m4, _⟩ := aX l1 (by omega)
   have hpe := m1.1.1
   rw [m3, l3, fe] at hpe
   exact Aj hf hl he hv n m _ _ l1 (by omega) (by rw [m3, l3, fe]; omega) (by omega)
theorem AG {v : VF} {vd : VD} (hf : hZ v) (hl : kF vd) (he : ErV vd) (hv : SmV v vd) : ∀ (n m : Nat) (b : Cu) (ks : List (List UInt8)) (acc : List Nd), b.live → b.av = 0 → b.next.1.e - b.next.1.p + 1 ≤ n → (aW b).1.length + 1 ≤ m →
   cR (ep v n b.next.2 b.next.1 ks acc) (di vd m (aW b) ks acc)
 | 0, _, _, _, _, _, _, h, _ => absurd h (by omega)
 | _ + 1, 0, _, _, _, _, _, _, h => absurd h (by omega)
 | n + 1, m + 1, b, ks, acc, hb, h0, hn, hm => by
   obtain ⟨a1, a2, a3, a4, _⟩ := aX hb h0
   obtain ⟨t1, t2⟩ := lI hb h0
   have hsb := iU hb
   have hsc := iU a1
   rw [ep, di]
   unfold d8 dR
   rw [hsb, if_neg (show ¬ b.av ≠ 0 by omega), t1, t2]
   by_cases g1 : b.next.2.k.toNat ≠ 115
   . rw [if_pos g1, if_pos g1, if_pos (by decide), if_pos (by decide)]
     exact cR.iE (by decide)
   rw [if_neg g1, if_neg g1]
   by_cases g2 : b.next.2.t ∈ ks
   . rw [if_pos g2, if_pos g2, if_pos (by decide), if_pos (by decide)]
     exact cR.iE (by decide)
   rw [if_neg g2, if_neg g2, if_neg (show ¬ (0 : Int) ≠ 0 by simp)]
   unfold fH
   rw [hsc]
   by_cases g3 : b.next.1.av ≠ 0
   . rw [if_pos g3, if_pos g3, if_pos g3, if_pos g3]
     exact cR.iE g3
   obtain ⟨u1, u2⟩ := lI a1 (by omega)
   obtain ⟨c1, c2, c3, c4, _⟩ := aX a1 (by omega)
   rw [if_neg g3, if_neg g3, u1, u2]
   by_cases g4 : b.next.1.next.2.k.toNat ≠ 58
   . rw [if_pos g4, if_pos g4, if_pos (by decide), if_pos (by decide)]
     exact cR.iE (by decide)
   rw [if_neg g4, if_neg g4, if_neg (show ¬ (0 : Int) ≠ 0 by simp)]
   have hsd := iU c1
   by_cases g5 : b.next.1.next.1.av ≠ 0
   . have hx := he b.next.2.t (aW b.next.1.next.1) (by rw [hsd]; exact g5)
     rw [if_pos g5, if_pos (by rw [hx, hsd]; exact g5)]
     exact cR.err (by rw [hx, hsd]) g5
   rw [if_neg g5]
   have hs := hv b.next.1.next.1 b.next.2.t c1 (by omega)
   have hlen := hl b.next.2.t (aW b.next.1.next.1)
   obtain ⟨d1, d2, d3, d4, _⟩ := aX c1 (by omega)
   have hk1 := d9 (aW b)
   rw [t2] at hk1
   have hk2 := d9 (aW b.next.1)
   rw [u2] at hk2
   have f : (bh v b.next.2 b.next.1).1 = 0 → Fit b.next.1.next.1.next.1 (bh v b.next.2 b.next.1) := fun h => hf _ _ _ d1 h
   have hs : cR (bh v b.next.2 b.next.1) (vd b.next.2.t (aW b.next.1.next.1)) := hs
   by_cases h1 : (bh v b.next.2 b.next.1).1 ≠ 0
   . rw [if_pos h1, if_pos (show (vd b.next.2.t (aW b.next.1.next.1)).1 ≠ 0 by rw [hs.e]; exact h1)]
     exact cR.err hs.e h1
   rw [if_neg h1, if_neg (show ¬ (vd b.next.2.t (aW b.next.1.next.1)).1 ≠ 0 by rw [hs.e]; exact h1)]
   have h1' : (bh v b.next.2 b.next.1).1 = 0 := by omega
   have f := f h1'
   have hc := hs.c h1'
   have hll := hs.l h1'
   have hlen := hlen (by rw [hs.e]; exact h1')
   generalize bh v b.next.2 b.next.1 = r at *
   generalize vd b.next.2.t (aW b.next.1.next.1) = d at *
   have hq := iU f.live
   unfold bC
   rw [hc]
   rw [hc] at hlen
   rw [hq]
   by_cases h2 : r.2.2.av ≠ 0
   . rw [if_pos h2, if_pos h2, if_pos h2]
     exact cR.iE h2
   have h2' : r.2.2.av = 0 := by omega
   obtain ⟨v1, v2⟩ := lI f.live h2'
   obtain ⟨l1, l2, l3, l4, _⟩ := aX f.live h2'
   rw [if_neg h2, if_neg h2, v1, v2]
   by_cases h3 : r.2.2.next.2.k.toNat = 125
   . rw [if_pos h3, if_pos h3, if_neg (show ¬ (0 : Int) ≠ 0 by simp), if_pos h3, hll]
     exact ⟨rfl, fun _ => rfl, fun _ => rfl⟩
   rw [if_neg h3, if_neg h3, if_neg h3]
   by_cases h4 : r.2.2.next.2.k.toNat ≠ 44
   . rw [if_pos h4, if_pos h4, if_pos (by decide)]
     exact cR.iE (by decide)
   rw [if_neg h4, if_neg h4, if_neg (show ¬ (0 : Int) ≠ 0 by simp)]
   have hsl := d9 (aW r.2.2)
   rw [v2] at hsl
   have hpos := jQ (s := aW r.2.2) (by rw [hq]; exact h2')
   have fp := f.p; have fe := f.e; have fs := f.s
   by_cases h5 : r.2.2.next.1.av ≠ 0
   . rw [if_pos h5]
     obtain ⟨m', rfl⟩ : ∃ m', m = m' + 1 := ⟨m - 1, by omega⟩
     have hx := iU l1
     rw [di]
     unfold dR
     rw [hx, if_pos h5, if_pos h5]
     exact cR.iE h5
   rw [if_neg h5]
   rw [hll]
   obtain ⟨m1, m2, m3, m4, _⟩ := aX l1 (by omega)
   have hpe := m1.1.1
   rw [m3, l3, fe, d3, c3] at hpe
   exact AG hf hl he hv n m _ _ _ l1 (by omega) (by rw [m3, l3, fe, d3, c3]; omega) (by omega)
theorem G7 {v : VF} {vd : VD} (hf : hZ v) (hl : kF vd) (he : ErV vd) (hv : SmV v vd) {c : Cu} (hc : c.live) : cR (b7 v c) (aY vd 93 (aW c)) := by
 have hs := iU hc
 unfold b7 aY
 rw [hs]
 by_cases h1 : c.av ≠ 0
 . rw [if_pos h1, if_neg (fun q => h1 q.1), if_neg (by decide)]
   have hx := he [] (aW c) (by rw [hs]; exact h1)
   rw [dM, if_pos (by rw [hx, hs]; exact h1)]
   exact cR.err (by rw [hx, hs]) h1
 obtain ⟨t1, t2⟩ := lI hc (by omega)
 rw [if_neg h1, t1, t2]
 by_cases h3 : c.next.2.k.toNat = 93
 . rw [if_pos h3, if_pos ⟨by omega, h3⟩]
   exact ⟨rfl, fun _ => rfl, fun _ => rfl⟩
 rw [if_neg h3, if_neg (fun q => h3 q.2), if_neg (by decide)]
 exact Aj hf hl he hv _ _ c [] hc (by omega) (Nat.le_refl _) (Nat.le_refl _)
theorem G8 {v : VF} {vd : VD} (hf : hZ v) (hl : kF vd) (he : ErV vd) (hv : SmV v vd) {c : Cu} (hc : c.live) : cR (b8 v c) (aY vd 125 (aW c)) := by
 have hs := iU hc
 unfold b8 aY
 rw [hs]
 by_cases h1 : c.av ≠ 0
 . rw [if_pos h1, if_neg (fun q => h1 q.1), if_pos rfl]
   rw [di]
   unfold dR
   rw [hs, if_pos h1, if_pos h1]
   exact cR.err rfl h1
 obtain ⟨t1, t2⟩ := lI hc (by omega)
 rw [if_neg h1, t1, t2]
 by_cases h3 : c.next.2.k.toNat = 125
 . rw [if_pos h3, if_pos ⟨by omega, h3⟩]
   exact ⟨rfl, fun _ => rfl, fun _ => rfl⟩
 rw [if_neg h3, if_neg (fun q => h3 q.2), if_pos rfl]
 exact AG hf hl he hv _ _ c [] [] hc (by omega) (Nat.le_refl _) (Nat.le_refl _)
theorem zn {x : CO} {k : UInt8} (h : (held x k).2.k ≠ 0) : (held x k).2.k = k := by
 unfold held at h ⊢
 dsimp only at h ⊢
 split
 . rfl
 . rename_i q; rw [if_neg q] at h; exact absurd rfl h
theorem Ce {c : Cu} {k : UInt8} (h : (c.cr k).2.k ≠ 0) : (c.cr k).2.k = k := by
 unfold Cu.cr at h ⊢
 split
 . rename_i q; rw [if_pos q] at h; exact absurd rfl h
 . rfl
theorem Kc {d : Cu} (h : d.ew.2.k ≠ 0) : (bB d.ew.2.k = true ∧ d.ew.2.t = []) ∨ (dd d.ew.2.k = true ∧ bB d.ew.2.k = false) := by
 have leaf : ∀ k : UInt8, (k = 115 ∨ k = 110 ∨ k = 116 ∨ k = 102 ∨ k = 122) → dd k = true ∧ bB k = false := by
  intro k hk
  rcases hk with rfl | rfl | rfl | rfl | rfl <;> decide
 unfold Cu.ew at h ⊢
 by_cases h1 : d.p = d.e
 . rw [if_pos h1] at h; exact absurd rfl h
 rw [if_neg h1] at h ⊢
 by_cases h2 : bB d.get = true
 . rw [if_pos h2]; exact .inl ⟨h2, rfl⟩
 rw [if_neg h2] at h ⊢
 by_cases h3 : d.get.toNat = 34
 . rw [if_pos h3] at h ⊢; rw [zn h]; exact .inr (leaf _ (.inl rfl))
 rw [if_neg h3] at h ⊢
 by_cases h4 : d.get.toNat = 45 ∨ c9 d.get = true
 . rw [if_pos h4] at h ⊢; rw [zn h]; exact .inr (leaf _ (.inr (.inl rfl)))
 rw [if_neg h4] at h ⊢
 by_cases h5 : d.get.toNat = 116 ∨ d.get.toNat = 102
 . rw [if_pos h5] at h ⊢
   rw [Ce h]
   refine .inr (leaf _ ?_)
   rcases h5 with h5 | h5
   . exact .inr (.inr (.inl (UInt8.toNat_inj.1 h5)))
   . exact .inr (.inr (.inr (.inl (UInt8.toNat_inj.1 h5))))
 rw [if_neg h5] at h ⊢
 by_cases h6 : d.get.toNat = 110
 . rw [if_pos h6] at h ⊢; rw [Ce h]; exact .inr (leaf _ (.inr (.inr (.inr (.inr rfl)))))
 rw [if_neg h6] at h; exact absurd rfl h
theorem uN {c : Cu} (hc : c.live) (h : c.av = 0) : (bB c.next.2.k = true ∧ c.next.2.t = []) ∨ (dd c.next.2.k = true ∧ bB c.next.2.k = false) := by
 obtain ⟨l, _, _, _, hn⟩ := aX hc h
 have h2 : c.aJ.2.k ≠ 0 := by
  unfold Cu.av at h
  split at h
  . rename_i q; exact absurd h q
  . split at h
    . cases h
    . rename_i q; rw [← hn]; exact q
 rw [hn]
 unfold Cu.aJ at h2 ⊢
 rw [if_neg (show ¬ c.c ≠ 0 from fun q => q hc.2.1)] at h2 ⊢
 exact Kc h2
theorem Bt {k : UInt8} (h : bB k = true) : dd k = false := by
 unfold bB at h
 have h := of_decide_eq_true h
 unfold dd
 exact decide_eq_false (by omega)
theorem vr {k : UInt8} (h : k.toNat = 123 ∨ k.toNat = 91) : bB k = true := decide_eq_true (by omega)
theorem uc : ∀ k, SmV (gv k) (aq k)
 | 0 => fun c key hc h0 => by
   have hs := iU hc
   obtain ⟨t1, t2⟩ := lI hc h0
   have hk := uN hc h0
   rw [gv, aq, hs, if_neg (show ¬ c.av ≠ 0 by omega), t1, t2]
   by_cases h1 : c.next.2.k.toNat = 123 ∨ c.next.2.k.toNat = 91
   . rw [if_pos h1, if_pos h1]; exact cR.iE (by decide)
   rw [if_neg h1, if_neg h1]
   rcases hk with ⟨q1, q2⟩ | ⟨q1, q2⟩
   . rw [if_neg (by rw [Bt q1]; decide), if_pos q1]; exact cR.iE (by decide)
   . rw [if_pos q1, if_neg (by rw [q2]; decide)]; exact ⟨rfl, fun _ => rfl, fun _ => rfl⟩
 | k + 1 => fun c key hc h0 => by
   have hs := iU hc
   obtain ⟨t1, t2⟩ := lI hc h0
   have hk := uN hc h0
   obtain ⟨a1, _⟩ := aX hc h0
   rw [gv, aq, hs, if_neg (show ¬ c.av ≠ 0 by omega), t1, t2]
   have ho := G8 (eV k) (tI k) (tH k) (uc k) a1
   have hl := G7 (eV k) (tI k) (tH k) (uc k) a1
   by_cases h1 : c.next.2.k.toNat = 123
   . rw [if_pos h1, if_pos (.inl h1), h1]
     rcases hk with ⟨_, q2⟩ | ⟨_, q2⟩
     . refine ⟨ho.e, fun h => ?_, fun h => ho.c h⟩
       show _ :: _ = _ :: _
       rw [ho.l h, q2]
     . rw [vr (.inl h1)] at q2; cases q2
   rw [if_neg h1]
   by_cases h2 : c.next.2.k.toNat = 91
   . rw [if_pos h2, if_pos (.inr h2), h2]
     rcases hk with ⟨_, q2⟩ | ⟨_, q2⟩
     . refine ⟨hl.e, fun h => ?_, fun h => hl.c h⟩
       show _ :: _ = _ :: _
       rw [hl.l h, q2]
     . rw [vr (.inr h2)] at q2; cases q2
   rw [if_neg h2, if_neg (show ¬ (c.next.2.k.toNat = 123 ∨ c.next.2.k.toNat = 91) from fun q => q.elim h1 h2)]
   rcases hk with ⟨q1, q2⟩ | ⟨q1, q2⟩
   . rw [if_neg (by rw [Bt q1]; decide), if_pos q1]; exact cR.iE (by decide)
   . rw [if_pos q1, if_neg (by rw [q2]; decide)]; exact ⟨rfl, fun _ => rfl, fun _ => rfl⟩
def bS (s : List UInt8) : Int :=
 if (Cu.new s).av ≠ 0 then (Cu.new s).av
 else if (gv 32 (Cu.new s).next.2 [] (Cu.new s).next.1).1 ≠ 0 then (gv 32 (Cu.new s).next.2 [] (Cu.new s).next.1).1
 else if (gv 32 (Cu.new s).next.2 [] (Cu.new s).next.1).2.2.next.2.k ≠ 0 ∨ (gv 32 (Cu.new s).next.2 [] (Cu.new s).next.1).2.2.next.1.c ≠ 0 then 2 else 0
def c5 (s : List UInt8) : List Nd := if bS s = 0 then (gv 32 (Cu.new s).next.2 [] (Cu.new s).next.1).2.1 else []
def fy (s : List UInt8) : Int :=
 if (aq 32 [] (aW (.new s))).1 ≠ 0 then (aq 32 [] (aW (.new s))).1
 else if (aq 32 [] (aW (.new s))).2.2.1.length > 0 ∨ (aq 32 [] (aW (.new s))).2.2.2 ≠ 0 then 2 else 0
def ia (s : List UInt8) : List Nd := if fy s = 0 then (aq 32 [] (aW (.new s))).2.1 else []
theorem BD {c : Cu} (h : c.live) : (c.next.2.k ≠ 0 ∨ c.next.1.c ≠ 0) ↔ ((aW c).1.length > 0 ∨ (aW c).2 ≠ 0) := by
 by_cases h0 : c.av = 0
 . rw [wP h h0]
   have hk : c.next.2.k ≠ 0 := by
    unfold Cu.av at h0
    split at h0
    . rename_i q; exact absurd h0 q
    . split at h0
      . cases h0
      . assumption
   exact ⟨fun _ => .inl (by simp), fun _ => .inl hk⟩
 . have hs := mC h.1
   obtain ⟨h1, _⟩ := BE h h0
   rw [h1]
   unfold Cu.av at h0
   by_cases h2 : c.next.1.c ≠ 0
   . refine ⟨fun _ => .inr ?_, fun _ => .inr h2⟩
     unfold aW
     rw [fL, if_pos (by rw [← hs.2.1]; exact h2), ← hs.2.1]
     exact h2
   . rw [if_neg h2] at h0
     have hk : c.next.2.k = 0 := by
      by_cases q : c.next.2.k = 0
      . exact q
      . rw [if_neg q] at h0; exact absurd rfl h0
     refine ⟨fun q => ?_, fun q => ?_⟩
     . rcases q with q | q
       . exact absurd hk q
       . exact absurd q h2
     . rcases q with q | q
       . simp at q
       . exfalso
         apply q
         unfold aW
         rw [fL, if_neg (by rw [← hs.2.1]; exact h2), if_pos (by rw [← hs.1]; exact hk)]
theorem mQ {s : List UInt8} (h : s.length ≤ 10000000) : fy s = bS s ∧ ia s = c5 s := by
 have hc : (Cu.new s).live := ⟨⟨Nat.zero_le _, Nat.le_refl _⟩, rfl, h⟩
 have hs := iU hc
 have key : fy s = bS s ∧ (bS s = 0 → (aq 32 [] (aW (.new s))).2.1 = (gv 32 (Cu.new s).next.2 [] (Cu.new s).next.1).2.1) := by
  unfold fy bS
  by_cases h1 : (Cu.new s).av ≠ 0
  . have hx := tH 32 [] (aW (.new s)) (by rw [hs]; exact h1)
    rw [if_pos h1, if_pos (by rw [hx, hs]; exact h1), hx, hs]
    exact ⟨rfl, fun q => absurd q h1⟩
  rw [if_neg h1]
  have hv := uc 32 (.new s) [] hc (by omega)
  obtain ⟨a1, _⟩ := aX hc (by omega)
  by_cases h2 : (gv 32 (Cu.new s).next.2 [] (Cu.new s).next.1).1 ≠ 0
  . rw [if_pos h2, if_pos (by rw [hv.e]; exact h2)]
    exact ⟨hv.e, fun q => absurd q h2⟩
  have h2' : (gv 32 (Cu.new s).next.2 [] (Cu.new s).next.1).1 = 0 := by omega
  rw [if_neg h2, if_neg (by rw [hv.e]; exact h2), hv.c h2']
  have f := eV 32 _ [] _ a1 h2'
  refine ⟨?_, fun _ => hv.l h2'⟩
  by_cases h3 : (gv 32 (Cu.new s).next.2 [] (Cu.new s).next.1).2.2.next.2.k ≠ 0 ∨ (gv 32 (Cu.new s).next.2 [] (Cu.new s).next.1).2.2.next.1.c ≠ 0
  . rw [if_pos h3, if_pos ((BD f.live).1 h3)]
  . rw [if_neg h3, if_neg (fun q => h3 ((BD f.live).2 q))]
 refine ⟨key.1, ?_⟩
 unfold ia c5
 rw [key.1]
 by_cases h0 : bS s = 0
 . rw [if_pos h0, if_pos h0, key.2 h0]
 . rw [if_neg h0, if_neg h0]
end Go.Proofs.Ytllncocibkgjkaa
