/-
  A part of the proof.
-/
import Derived.Test.YtllncocibkgjkaaGreatTRa
set_option linter.unusedSimpArgs false
set_option linter.unusedVariables false
set_option maxHeartbeats 4000000
namespace Go.Proofs.YtllncocibkgjkaaGreat
open Go Go.VG
set_option maxRecDepth 100000
abbrev Sx : Type := List Tk × Int
def fQ : Nat → Cu → Sx
 | 0, _ => ([], 0)
 | n + 1, c => if c.aN.1.c ≠ 0 then ([], c.aN.1.c) else if c.aN.2.k = 0 then ([], 0) else (c.aN.2 :: (fQ n c.aN.1).1, (fQ n c.aN.1).2)
def aW (c : Cu) : Sx := fQ (c.e - c.p + 1) c
def az (s : Sx) : Int := if s.1.length > 0 then 0 else if s.2 = 0 then 1 else s.2
def ae (s : Sx) : Tk := s.1.getD 0 default
def aa (s : Sx) : Sx := (s.1.drop 1, s.2)
theorem CB : ∀ (n m : Nat) (c : Cu), c.ok → c.e - c.p + 1 ≤ n → c.e - c.p + 1 ≤ m → fQ n c = fQ m c
 | 0, _, _, _, h, _ => absurd h (by omega)
 | _ + 1, 0, _, _, _, h => absurd h (by omega)
 | n + 1, m + 1, c, hk, hn, hm => by
   rw [fQ, fQ]
   by_cases h1 : c.aN.1.c ≠ 0
   . rw [if_pos h1, if_pos h1]
   rw [if_neg h1, if_neg h1]
   by_cases h2 : c.aN.2.k = 0
   . rw [if_pos h2, if_pos h2]
   rw [if_neg h2, if_neg h2]
   have hd := s8 hk (by omega)
   have hp := hd.2.2.2.2.2 h2
   have hp2 := hd.1.1
   rw [CB n m c.aN.1 hd.1 (by rw [hd.2.2.1]; omega) (by rw [hd.2.2.1]; omega)]
theorem xu {c : Cu} (h : c.live) (h0 : c.ax = 0) : aW c = (c.next.2 :: (aW c.next.1).1, (aW c.next.1).2) := by
 obtain ⟨l, hs, he, hp, hn⟩ := aX h h0
 have h1 : c.aN.1.c = 0 := by rw [← hn]; exact l.2.1
 have h2 : c.aN.2.k ≠ 0 := by
  unfold Cu.ax at h0
  split at h0
  . rename_i q; exact absurd h0 q
  . split at h0
    . cases h0
    . rename_i q; rw [← hn]; exact q
 have hl := l.1.1
 conv => lhs; unfold aW; rw [fQ, if_neg (by omega), if_neg h2]
 unfold aW
 rw [hn]
 rw [hn] at hl hp he
 rw [CB (c.e - c.p) (c.aN.1.e - c.aN.1.p + 1) c.aN.1 (by rw [← hn]; exact l.1) (by omega) (by omega)]
theorem Ck {c : Cu} (h : c.live) (h0 : c.ax ≠ 0) : (aW c).1 = [] ∧ az (aW c) = c.ax := by
 have hs := ou h.1
 unfold Cu.ax at h0 ⊢
 unfold aW
 rw [fQ]
 by_cases h1 : c.next.1.c ≠ 0
 . have h2 : c.aN.1.c ≠ 0 := by rw [← hs.2.1]; exact h1
   rw [if_pos h1, if_pos h2]
   refine ⟨rfl, ?_⟩
   unfold az
   rw [if_neg (by simp), if_neg h2, hs.2.1]
 . have h2 : ¬ c.aN.1.c ≠ 0 := by rw [← hs.2.1]; exact h1
   rw [if_neg h1] at h0 ⊢
   rw [if_neg h2]
   by_cases h3 : c.next.2.k = 0
   . rw [if_pos h3, if_pos (by rw [← hs.1]; exact h3)]
     exact ⟨rfl, rfl⟩
   . rw [if_neg h3] at h0; exact absurd rfl h0
theorem jf {c : Cu} (h : c.live) : az (aW c) = c.ax := by
 by_cases h0 : c.ax = 0
 . rw [xu h h0, h0]; unfold az; rw [if_pos (by simp)]
 . exact (Ck h h0).2
theorem m7 {c : Cu} (h : c.live) (h0 : c.ax = 0) : ae (aW c) = c.next.2 ∧ aa (aW c) = aW c.next.1 := by
 rw [xu h h0]; exact ⟨rfl, rfl⟩
abbrev RD : Type := Int × List Nd × Sx
abbrev VD : Type := List UInt8 → Sx → RD
def dU (s : Sx) (ks : List (List UInt8)) : Int := if az s ≠ 0 then az s else if (ae s).k.toNat ≠ 115 then 3 else if (ae s).t ∈ ks then 8 else 0
def fI (s : Sx) : Int := if az s ≠ 0 then az s else if (ae s).k.toNat ≠ 58 then 3 else 0
def bz (en : Nat) (r : RD) : Int := if az r.2.2 ≠ 0 then az r.2.2 else if (ae r.2.2).k.toNat = en then 0 else if (ae r.2.2).k.toNat ≠ 44 then 3 else 0
def dO (v : VD) : Nat → Sx → List Nd → RD
 | 0, s, _ => (1, [], s)
 | n + 1, s, acc =>
   if (v [] s).1 ≠ 0 then ((v [] s).1, [], s)
   else if bz 93 (v [] s) ≠ 0 then (bz 93 (v [] s), [], aa (v [] s).2.2)
   else if (ae (v [] s).2.2).k.toNat = 93 then (0, acc ++ (v [] s).2.1, aa (v [] s).2.2)
   else dO v n (aa (v [] s).2.2) (acc ++ (v [] s).2.1)
def dj (v : VD) : Nat → Sx → List (List UInt8) → List Nd → RD
 | 0, s, _, _ => (1, [], s)
 | n + 1, s, ks, acc =>
   if dU s ks ≠ 0 then (dU s ks, [], s)
   else if fI (aa s) ≠ 0 then (fI (aa s), [], aa (aa s))
   else if (v (ae s).t (aa (aa s))).1 ≠ 0 then ((v (ae s).t (aa (aa s))).1, [], aa (aa s))
   else if bz 125 (v (ae s).t (aa (aa s))) ≠ 0 then (bz 125 (v (ae s).t (aa (aa s))), [], aa (v (ae s).t (aa (aa s))).2.2)
   else if (ae (v (ae s).t (aa (aa s))).2.2).k.toNat = 125 then (0, acc ++ (v (ae s).t (aa (aa s))).2.1, aa (v (ae s).t (aa (aa s))).2.2)
   else dj v n (aa (v (ae s).t (aa (aa s))).2.2) (ks ++ [(ae s).t]) (acc ++ (v (ae s).t (aa (aa s))).2.1)
def aY (v : VD) (en : Nat) (s : Sx) : RD :=
 if az s = 0 ∧ (ae s).k.toNat = en then (0, [], aa s) else if en = 125 then dj v (s.1.length + 1) s [] [] else dO v (s.1.length + 1) s []
def ao : Nat → VD
 | 0, key, s => if az s ≠ 0 then (az s, [], s) else if (ae s).k.toNat = 123 ∨ (ae s).k.toNat = 91 then (33, [], s) else if bJ (ae s).k = true then (3, [], s) else (0, [⟨(ae s).k, key, (ae s).t, 1⟩], aa s)
 | k + 1, key, s =>
   if az s ≠ 0 then (az s, [], s)
   else if (ae s).k.toNat = 123 ∨ (ae s).k.toNat = 91 then
    ((aY (ao k) ((ae s).k.toNat + 2) (aa s)).1, ⟨(ae s).k, key, [], (aY (ao k) ((ae s).k.toNat + 2) (aa s)).2.1.length + 1⟩ :: (aY (ao k) ((ae s).k.toNat + 2) (aa s)).2.1, (aY (ao k) ((ae s).k.toNat + 2) (aa s)).2.2)
   else if bJ (ae s).k = true then (3, [], s) else (0, [⟨(ae s).k, key, (ae s).t, 1⟩], aa s)
structure cU (r : RT) (d : RD) : Prop where
 e : d.1 = r.1
 l : r.1 = 0 → d.2.1 = r.2.1
 c : r.1 = 0 → d.2.2 = aW r.2.2
theorem cU.iU {k : Int} {l l' : List Nd} {c : Cu} {s : Sx} (h : k ≠ 0) : cU (k, l, c) (k, l', s) := ⟨rfl, fun q => absurd q h, fun q => absurd q h⟩
theorem cU.err {r : RT} {d : RD} (h : d.1 = r.1) (h0 : r.1 ≠ 0) : cU r d := ⟨h, fun q => absurd q h0, fun q => absurd q h0⟩
def kY (vd : VD) : Prop := ∀ key s, (vd key s).1 = 0 → (vd key s).2.2.1.length + 1 ≤ s.1.length
theorem kh {s : Sx} (h : az s = 0) : 0 < s.1.length := by
 unfold az at h
 split at h
 . assumption
 . split at h
   . cases h
   . contradiction
theorem da (s : Sx) : (aa s).1.length = s.1.length - 1 := by show (s.1.drop 1).length = _; rw [List.length_drop]
theorem yF {vd : VD} (hv : kY vd) : ∀ (n : Nat) (s : Sx) (acc : List Nd), (dO vd n s acc).1 = 0 → (dO vd n s acc).2.2.1.length ≤ s.1.length
 | 0, _, _, h => by rw [dO] at h; cases h
 | n + 1, s, acc, h => by
   rw [dO] at h ⊢
   by_cases h1 : (vd [] s).1 ≠ 0
   . rw [if_pos h1] at h; exact absurd h h1
   rw [if_neg h1] at h ⊢
   have q1 := hv [] s (by omega)
   by_cases h2 : bz 93 (vd [] s) ≠ 0
   . rw [if_pos h2] at h; exact absurd h h2
   rw [if_neg h2] at h ⊢
   have q2 := da (vd [] s).2.2
   by_cases h3 : (ae (vd [] s).2.2).k.toNat = 93
   . rw [if_pos h3]; show (aa (vd [] s).2.2).1.length ≤ _; omega
   rw [if_neg h3] at h ⊢
   have := yF hv n _ _ h
   omega
theorem yI {vd : VD} (hv : kY vd) : ∀ (n : Nat) (s : Sx) (ks : List (List UInt8)) (acc : List Nd), (dj vd n s ks acc).1 = 0 → (dj vd n s ks acc).2.2.1.length ≤ s.1.length
 | 0, _, _, _, h => by rw [dj] at h; cases h
 | n + 1, s, ks, acc, h => by
   rw [dj] at h ⊢
   by_cases h0 : dU s ks ≠ 0
   . rw [if_pos h0] at h; exact absurd h h0
   rw [if_neg h0] at h ⊢
   by_cases h4 : fI (aa s) ≠ 0
   . rw [if_pos h4] at h; exact absurd h h4
   rw [if_neg h4] at h ⊢
   by_cases h1 : (vd (ae s).t (aa (aa s))).1 ≠ 0
   . rw [if_pos h1] at h; exact absurd h h1
   rw [if_neg h1] at h ⊢
   have q1 := hv (ae s).t (aa (aa s)) (by omega)
   have q3 := da s
   have q4 := da (aa s)
   by_cases h2 : bz 125 (vd (ae s).t (aa (aa s))) ≠ 0
   . rw [if_pos h2] at h; exact absurd h h2
   rw [if_neg h2] at h ⊢
   have q2 := da (vd (ae s).t (aa (aa s))).2.2
   by_cases h3 : (ae (vd (ae s).t (aa (aa s))).2.2).k.toNat = 125
   . rw [if_pos h3]; show (aa (vd (ae s).t (aa (aa s))).2.2).1.length ≤ _; omega
   rw [if_neg h3] at h ⊢
   have := yI hv n _ _ _ h
   omega
theorem DH {vd : VD} (hv : kY vd) {en : Nat} {s : Sx} (h : (aY vd en s).1 = 0) : (aY vd en s).2.2.1.length ≤ s.1.length := by
 unfold aY at h ⊢
 by_cases h1 : az s = 0 ∧ (ae s).k.toNat = en
 . rw [if_pos h1]; have := da s; show (aa s).1.length ≤ _; omega
 rw [if_neg h1] at h ⊢
 by_cases h2 : en = 125
 . rw [if_pos h2] at h ⊢; exact yI hv _ _ _ _ h
 . rw [if_neg h2] at h ⊢; exact yF hv _ _ _ h
theorem uk : ∀ k, kY (ao k)
 | 0 => fun key s h => by
   rw [ao] at h ⊢
   by_cases h1 : az s ≠ 0
   . rw [if_pos h1] at h; exact absurd h h1
   rw [if_neg h1] at h ⊢
   have h0 := kh (s := s) (by omega)
   by_cases h2 : (ae s).k.toNat = 123 ∨ (ae s).k.toNat = 91
   . rw [if_pos h2] at h; cases h
   rw [if_neg h2] at h ⊢
   by_cases h3 : bJ (ae s).k = true
   . rw [if_pos h3] at h; cases h
   rw [if_neg h3]
   have := da s
   show (aa s).1.length + 1 ≤ _
   omega
 | k + 1 => fun key s h => by
   rw [ao] at h ⊢
   by_cases h1 : az s ≠ 0
   . rw [if_pos h1] at h; exact absurd h h1
   rw [if_neg h1] at h ⊢
   have h0 := kh (s := s) (by omega)
   have hr := da s
   by_cases h2 : (ae s).k.toNat = 123 ∨ (ae s).k.toNat = 91
   . rw [if_pos h2] at h ⊢
     have := DH (uk k) h
     show (aY (ao k) ((ae s).k.toNat + 2) (aa s)).2.2.1.length + 1 ≤ _
     omega
   rw [if_neg h2] at h ⊢
   by_cases h3 : bJ (ae s).k = true
   . rw [if_pos h3] at h; cases h
   rw [if_neg h3]
   show (aa s).1.length + 1 ≤ _
   omega
def SmV (v : VF) (vd : VD) : Prop := ∀ c key, c.live → c.ax = 0 → cU (v c.next.2 key c.next.1) (vd key (aW c))
def ErV (vd : VD) : Prop := ∀ key s, az s ≠ 0 → (vd key s).1 = az s
theorem uj : ∀ k, ErV (ao k)
 | 0 => fun key s h => by rw [ao, if_pos h]
 | k + 1 => fun key s h => by rw [ao, if_pos h]
theorem AY {v : VF} {vd : VD} (hf : iy v) (hl : kY vd) (he : ErV vd) (hv : SmV v vd) : ∀ (n m : Nat) (b : Cu) (acc : List Nd), b.live → b.ax = 0 → b.next.1.e - b.next.1.p + 1 ≤ n → (aW b).1.length + 1 ≤ m →
   cU (er v n b.next.2 b.next.1 acc) (dO vd m (aW b) acc)
 | 0, _, _, _, _, _, h, _ => absurd h (by omega)
 | _ + 1, 0, _, _, _, _, _, h => absurd h (by omega)
 | n + 1, m + 1, b, acc, hb, h0, hn, hm => by
   obtain ⟨a1, a2, a3, a4, _⟩ := aX hb h0
   have hs := hv b [] hb h0
   have hlen := hl [] (aW b)
   rw [er, dO]
   by_cases h1 : (v b.next.2 [] b.next.1).1 ≠ 0
   . rw [if_pos h1, if_pos (show (vd [] (aW b)).1 ≠ 0 by rw [hs.e]; exact h1)]
     exact cU.err hs.e h1
   rw [if_neg h1, if_neg (show ¬ (vd [] (aW b)).1 ≠ 0 by rw [hs.e]; exact h1)]
   have h1' : (v b.next.2 [] b.next.1).1 = 0 := by omega
   have f := hf b.next.2 [] b.next.1 a1 h1'
   have hc := hs.c h1'
   have hll := hs.l h1'
   have hlen := hlen (by rw [hs.e]; exact h1')
   generalize v b.next.2 [] b.next.1 = r at *
   generalize vd [] (aW b) = d at *
   have hq := jf f.live
   unfold bz
   rw [hc]
   rw [hc] at hlen
   rw [hq]
   by_cases h2 : r.2.2.ax ≠ 0
   . rw [if_pos h2, if_pos h2, if_pos h2]
     exact cU.iU h2
   have h2' : r.2.2.ax = 0 := by omega
   obtain ⟨t1, t2⟩ := m7 f.live h2'
   obtain ⟨l1, l2, l3, l4, _⟩ := aX f.live h2'
   rw [if_neg h2, if_neg h2, t1, t2]
   by_cases h3 : r.2.2.next.2.k.toNat = 93
   . rw [if_pos h3, if_pos h3, if_neg (show ¬ (0 : Int) ≠ 0 by simp), if_pos h3, hll]
     exact ⟨rfl, fun _ => rfl, fun _ => rfl⟩
   rw [if_neg h3, if_neg h3, if_neg h3]
   by_cases h4 : r.2.2.next.2.k.toNat ≠ 44
   . rw [if_pos h4, if_pos h4, if_pos (by decide)]
     exact cU.iU (by decide)
   rw [if_neg h4, if_neg h4, if_neg (show ¬ (0 : Int) ≠ 0 by simp)]
   have hsl := da (aW r.2.2)
   rw [t2] at hsl
   have hpos := kh (s := aW r.2.2) (by rw [hq]; exact h2')
   have fp := f.p; have fe := f.e; have fs := f.s
   by_cases h5 : r.2.2.next.1.ax ≠ 0
   . rw [if_pos h5]
     obtain ⟨m', rfl⟩ : ∃ m', m = m' + 1 := ⟨m - 1, by omega⟩
     have hx := jf l1
     have hx2 := he [] (aW r.2.2.next.1) (by rw [hx]; exact h5)
     rw [dO, if_pos (by rw [hx2, hx]; exact h5)]
     exact cU.err (by rw [hx2, hx]) h5
   rw [if_neg h5]
   rw [hll]
   obtain ⟨m1, m2, m3, m4, _⟩ := aX l1 (by omega)
   have hpe := m1.1.1
   rw [m3, l3, fe] at hpe
   exact AY hf hl he hv n m _ _ l1 (by omega) (by rw [m3, l3, fe]; omega) (by omega)
theorem Bm {v : VF} {vd : VD} (hf : iy v) (hl : kY vd) (he : ErV vd) (hv : SmV v vd) : ∀ (n m : Nat) (b : Cu) (ks : List (List UInt8)) (acc : List Nd), b.live → b.ax = 0 → b.next.1.e - b.next.1.p + 1 ≤ n → (aW b).1.length + 1 ≤ m →
   cU (eu v n b.next.2 b.next.1 ks acc) (dj vd m (aW b) ks acc)
 | 0, _, _, _, _, _, _, h, _ => absurd h (by omega)
 | _ + 1, 0, _, _, _, _, _, _, h => absurd h (by omega)
 | n + 1, m + 1, b, ks, acc, hb, h0, hn, hm => by
   obtain ⟨a1, a2, a3, a4, _⟩ := aX hb h0
   obtain ⟨t1, t2⟩ := m7 hb h0
   have hsb := jf hb
   have hsc := jf a1
   rw [eu, dj]
   unfold d9 dU
   rw [hsb, if_neg (show ¬ b.ax ≠ 0 by omega), t1, t2]
   by_cases g1 : b.next.2.k.toNat ≠ 115
   . rw [if_pos g1, if_pos g1, if_pos (by decide), if_pos (by decide)]
     exact cU.iU (by decide)
   rw [if_neg g1, if_neg g1]
   by_cases g2 : b.next.2.t ∈ ks
   . rw [if_pos g2, if_pos g2, if_pos (by decide), if_pos (by decide)]
     exact cU.iU (by decide)
   rw [if_neg g2, if_neg g2, if_neg (show ¬ (0 : Int) ≠ 0 by simp)]
   unfold fI
   rw [hsc]
   by_cases g3 : b.next.1.ax ≠ 0
   . rw [if_pos g3, if_pos g3, if_pos g3, if_pos g3]
     exact cU.iU g3
   obtain ⟨u1, u2⟩ := m7 a1 (by omega)
   obtain ⟨c1, c2, c3, c4, _⟩ := aX a1 (by omega)
   rw [if_neg g3, if_neg g3, u1, u2]
   by_cases g4 : b.next.1.next.2.k.toNat ≠ 58
   . rw [if_pos g4, if_pos g4, if_pos (by decide), if_pos (by decide)]
     exact cU.iU (by decide)
   rw [if_neg g4, if_neg g4, if_neg (show ¬ (0 : Int) ≠ 0 by simp)]
   have hsd := jf c1
   by_cases g5 : b.next.1.next.1.ax ≠ 0
   . have hx := he b.next.2.t (aW b.next.1.next.1) (by rw [hsd]; exact g5)
     rw [if_pos g5, if_pos (by rw [hx, hsd]; exact g5)]
     exact cU.err (by rw [hx, hsd]) g5
   rw [if_neg g5]
   have hs := hv b.next.1.next.1 b.next.2.t c1 (by omega)
   have hlen := hl b.next.2.t (aW b.next.1.next.1)
   obtain ⟨d1, d2, d3, d4, _⟩ := aX c1 (by omega)
   have hk1 := da (aW b)
   rw [t2] at hk1
   have hk2 := da (aW b.next.1)
   rw [u2] at hk2
   have f : (bf v b.next.2 b.next.1).1 = 0 → Fit b.next.1.next.1.next.1 (bf v b.next.2 b.next.1) := fun h => hf _ _ _ d1 h
   have hs : cU (bf v b.next.2 b.next.1) (vd b.next.2.t (aW b.next.1.next.1)) := hs
   by_cases h1 : (bf v b.next.2 b.next.1).1 ≠ 0
   . rw [if_pos h1, if_pos (show (vd b.next.2.t (aW b.next.1.next.1)).1 ≠ 0 by rw [hs.e]; exact h1)]
     exact cU.err hs.e h1
   rw [if_neg h1, if_neg (show ¬ (vd b.next.2.t (aW b.next.1.next.1)).1 ≠ 0 by rw [hs.e]; exact h1)]
   have h1' : (bf v b.next.2 b.next.1).1 = 0 := by omega
   have f := f h1'
   have hc := hs.c h1'
   have hll := hs.l h1'
   have hlen := hlen (by rw [hs.e]; exact h1')
   generalize bf v b.next.2 b.next.1 = r at *
   generalize vd b.next.2.t (aW b.next.1.next.1) = d at *
   have hq := jf f.live
   unfold bz
   rw [hc]
   rw [hc] at hlen
   rw [hq]
   by_cases h2 : r.2.2.ax ≠ 0
   . rw [if_pos h2, if_pos h2, if_pos h2]
     exact cU.iU h2
   have h2' : r.2.2.ax = 0 := by omega
   obtain ⟨v1, v2⟩ := m7 f.live h2'
   obtain ⟨l1, l2, l3, l4, _⟩ := aX f.live h2'
   rw [if_neg h2, if_neg h2, v1, v2]
   by_cases h3 : r.2.2.next.2.k.toNat = 125
   . rw [if_pos h3, if_pos h3, if_neg (show ¬ (0 : Int) ≠ 0 by simp), if_pos h3, hll]
     exact ⟨rfl, fun _ => rfl, fun _ => rfl⟩
   rw [if_neg h3, if_neg h3, if_neg h3]
   by_cases h4 : r.2.2.next.2.k.toNat ≠ 44
   . rw [if_pos h4, if_pos h4, if_pos (by decide)]
     exact cU.iU (by decide)
   rw [if_neg h4, if_neg h4, if_neg (show ¬ (0 : Int) ≠ 0 by simp)]
   have hsl := da (aW r.2.2)
   rw [v2] at hsl
   have hpos := kh (s := aW r.2.2) (by rw [hq]; exact h2')
   have fp := f.p; have fe := f.e; have fs := f.s
   by_cases h5 : r.2.2.next.1.ax ≠ 0
   . rw [if_pos h5]
     obtain ⟨m', rfl⟩ : ∃ m', m = m' + 1 := ⟨m - 1, by omega⟩
     have hx := jf l1
     rw [dj]
     unfold dU
     rw [hx, if_pos h5, if_pos h5]
     exact cU.iU h5
   rw [if_neg h5]
   rw [hll]
   obtain ⟨m1, m2, m3, m4, _⟩ := aX l1 (by omega)
   have hpe := m1.1.1
   rw [m3, l3, fe, d3, c3] at hpe
   exact Bm hf hl he hv n m _ _ _ l1 (by omega) (by rw [m3, l3, fe, d3, c3]; omega) (by omega)
theorem Hf {v : VF} {vd : VD} (hf : iy v) (hl : kY vd) (he : ErV vd) (hv : SmV v vd) {c : Cu} (hc : c.live) : cU (b9 v c) (aY vd 93 (aW c)) := by
 have hs := jf hc
 unfold b9 aY
 rw [hs]
 by_cases h1 : c.ax ≠ 0
 . rw [if_pos h1, if_neg (fun q => h1 q.1), if_neg (by decide)]
   have hx := he [] (aW c) (by rw [hs]; exact h1)
   rw [dO, if_pos (by rw [hx, hs]; exact h1)]
   exact cU.err (by rw [hx, hs]) h1
 obtain ⟨t1, t2⟩ := m7 hc (by omega)
 rw [if_neg h1, t1, t2]
 by_cases h3 : c.next.2.k.toNat = 93
 . rw [if_pos h3, if_pos ⟨by omega, h3⟩]
   exact ⟨rfl, fun _ => rfl, fun _ => rfl⟩
 rw [if_neg h3, if_neg (fun q => h3 q.2), if_neg (by decide)]
 exact AY hf hl he hv _ _ c [] hc (by omega) (Nat.le_refl _) (Nat.le_refl _)
theorem Hg {v : VF} {vd : VD} (hf : iy v) (hl : kY vd) (he : ErV vd) (hv : SmV v vd) {c : Cu} (hc : c.live) : cU (b6 v c) (aY vd 125 (aW c)) := by
 have hs := jf hc
 unfold b6 aY
 rw [hs]
 by_cases h1 : c.ax ≠ 0
 . rw [if_pos h1, if_neg (fun q => h1 q.1), if_pos rfl]
   rw [dj]
   unfold dU
   rw [hs, if_pos h1, if_pos h1]
   exact cU.err rfl h1
 obtain ⟨t1, t2⟩ := m7 hc (by omega)
 rw [if_neg h1, t1, t2]
 by_cases h3 : c.next.2.k.toNat = 125
 . rw [if_pos h3, if_pos ⟨by omega, h3⟩]
   exact ⟨rfl, fun _ => rfl, fun _ => rfl⟩
 rw [if_neg h3, if_neg (fun q => h3 q.2), if_pos rfl]
 exact Bm hf hl he hv _ _ c [] [] hc (by omega) (Nat.le_refl _) (Nat.le_refl _)
theorem zM {x : CO} {k : UInt8} (h : (held x k).2.k ≠ 0) : (held x k).2.k = k := by
 unfold held at h ⊢
 dsimp only at h ⊢
 split
 . rfl
 . rename_i q; rw [if_neg q] at h; exact absurd rfl h
theorem CZ {c : Cu} {k : UInt8} (h : (c.cr k).2.k ≠ 0) : (c.cr k).2.k = k := by
 unfold Cu.cr at h ⊢
 split
 . rename_i q; rw [if_pos q] at h; exact absurd rfl h
 . rfl
theorem Lw {d : Cu} (h : d.ez.2.k ≠ 0) : (bJ d.ez.2.k = true ∧ d.ez.2.t = []) ∨ (dd d.ez.2.k = true ∧ bJ d.ez.2.k = false) := by
 have leaf : ∀ k : UInt8, (k = 115 ∨ k = 110 ∨ k = 116 ∨ k = 102 ∨ k = 122) → dd k = true ∧ bJ k = false := by
  intro k hk
  rcases hk with rfl | rfl | rfl | rfl | rfl <;> decide
 unfold Cu.ez at h ⊢
 by_cases h1 : d.p = d.e
 . rw [if_pos h1] at h; exact absurd rfl h
 rw [if_neg h1] at h ⊢
 by_cases h2 : bJ d.get = true
 . rw [if_pos h2]; exact .inl ⟨h2, rfl⟩
 rw [if_neg h2] at h ⊢
 by_cases h3 : d.get.toNat = 34
 . rw [if_pos h3] at h ⊢; rw [zM h]; exact .inr (leaf _ (.inl rfl))
 rw [if_neg h3] at h ⊢
 by_cases h4 : d.get.toNat = 45 ∨ c8 d.get = true
 . rw [if_pos h4] at h ⊢; rw [zM h]; exact .inr (leaf _ (.inr (.inl rfl)))
 rw [if_neg h4] at h ⊢
 by_cases h5 : d.get.toNat = 116 ∨ d.get.toNat = 102
 . rw [if_pos h5] at h ⊢
   rw [CZ h]
   refine .inr (leaf _ ?_)
   rcases h5 with h5 | h5
   . exact .inr (.inr (.inl (UInt8.toNat_inj.1 h5)))
   . exact .inr (.inr (.inr (.inl (UInt8.toNat_inj.1 h5))))
 rw [if_neg h5] at h ⊢
 by_cases h6 : d.get.toNat = 110
 . rw [if_pos h6] at h ⊢; rw [CZ h]; exact .inr (leaf _ (.inr (.inr (.inr (.inr rfl)))))
 rw [if_neg h6] at h; exact absurd rfl h
theorem vj {c : Cu} (hc : c.live) (h : c.ax = 0) : (bJ c.next.2.k = true ∧ c.next.2.t = []) ∨ (dd c.next.2.k = true ∧ bJ c.next.2.k = false) := by
 obtain ⟨l, _, _, _, hn⟩ := aX hc h
 have h2 : c.aN.2.k ≠ 0 := by
  unfold Cu.ax at h
  split at h
  . rename_i q; exact absurd h q
  . split at h
    . cases h
    . rename_i q; rw [← hn]; exact q
 rw [hn]
 unfold Cu.aN at h2 ⊢
 rw [if_neg (show ¬ c.c ≠ 0 from fun q => q hc.2.1)] at h2 ⊢
 exact Lw h2
theorem Cb {k : UInt8} (h : bJ k = true) : dd k = false := by
 unfold bJ at h
 have h := of_decide_eq_true h
 unfold dd
 exact decide_eq_false (by omega)
theorem vV {k : UInt8} (h : k.toNat = 123 ∨ k.toNat = 91) : bJ k = true := decide_eq_true (by omega)
theorem uK : ∀ k, SmV (gv k) (ao k)
 | 0 => fun c key hc h0 => by
   have hs := jf hc
   obtain ⟨t1, t2⟩ := m7 hc h0
   have hk := vj hc h0
   rw [gv, ao, hs, if_neg (show ¬ c.ax ≠ 0 by omega), t1, t2]
   by_cases h1 : c.next.2.k.toNat = 123 ∨ c.next.2.k.toNat = 91
   . rw [if_pos h1, if_pos h1]; exact cU.iU (by decide)
   rw [if_neg h1, if_neg h1]
   rcases hk with ⟨q1, q2⟩ | ⟨q1, q2⟩
   . rw [if_neg (by rw [Cb q1]; decide), if_pos q1]; exact cU.iU (by decide)
   . rw [if_pos q1, if_neg (by rw [q2]; decide)]; exact ⟨rfl, fun _ => rfl, fun _ => rfl⟩
 | k + 1 => fun c key hc h0 => by
   have hs := jf hc
   obtain ⟨t1, t2⟩ := m7 hc h0
   have hk := vj hc h0
   obtain ⟨a1, _⟩ := aX hc h0
   rw [gv, ao, hs, if_neg (show ¬ c.ax ≠ 0 by omega), t1, t2]
   have ho := Hg (eX k) (uk k) (uj k) (uK k) a1
   have hl := Hf (eX k) (uk k) (uj k) (uK k) a1
   by_cases h1 : c.next.2.k.toNat = 123
   . rw [if_pos h1, if_pos (.inl h1), h1]
     rcases hk with ⟨_, q2⟩ | ⟨_, q2⟩
     . refine ⟨ho.e, fun h => ?_, fun h => ho.c h⟩
       show _ :: _ = _ :: _
       rw [ho.l h, q2]
     . rw [vV (.inl h1)] at q2; cases q2
   rw [if_neg h1]
   by_cases h2 : c.next.2.k.toNat = 91
   . rw [if_pos h2, if_pos (.inr h2), h2]
     rcases hk with ⟨_, q2⟩ | ⟨_, q2⟩
     . refine ⟨hl.e, fun h => ?_, fun h => hl.c h⟩
       show _ :: _ = _ :: _
       rw [hl.l h, q2]
     . rw [vV (.inr h2)] at q2; cases q2
   rw [if_neg h2, if_neg (show ¬ (c.next.2.k.toNat = 123 ∨ c.next.2.k.toNat = 91) from fun q => q.elim h1 h2)]
   rcases hk with ⟨q1, q2⟩ | ⟨q1, q2⟩
   . rw [if_neg (by rw [Cb q1]; decide), if_pos q1]; exact cU.iU (by decide)
   . rw [if_pos q1, if_neg (by rw [q2]; decide)]; exact ⟨rfl, fun _ => rfl, fun _ => rfl⟩
def d6 (s : List UInt8) : Int :=
 if (Cu.new s).ax ≠ 0 then (Cu.new s).ax
 else if (gv 32 (Cu.new s).next.2 [] (Cu.new s).next.1).1 ≠ 0 then (gv 32 (Cu.new s).next.2 [] (Cu.new s).next.1).1
 else if (gv 32 (Cu.new s).next.2 [] (Cu.new s).next.1).2.2.next.2.k ≠ 0 ∨ (gv 32 (Cu.new s).next.2 [] (Cu.new s).next.1).2.2.next.1.c ≠ 0 then 2 else 0
def di (s : List UInt8) : List Nd := if d6 s = 0 then (gv 32 (Cu.new s).next.2 [] (Cu.new s).next.1).2.1 else []
def iB (s : List UInt8) : Int :=
 if (ao 32 [] (aW (.new s))).1 ≠ 0 then (ao 32 [] (aW (.new s))).1
 else if (ao 32 [] (aW (.new s))).2.2.1.length > 0 ∨ (ao 32 [] (aW (.new s))).2.2.2 ≠ 0 then 2 else 0
def jo (s : List UInt8) : List Nd := if iB s = 0 then (ao 32 [] (aW (.new s))).2.1 else []
theorem Cj {c : Cu} (h : c.live) : (c.next.2.k ≠ 0 ∨ c.next.1.c ≠ 0) ↔ ((aW c).1.length > 0 ∨ (aW c).2 ≠ 0) := by
 by_cases h0 : c.ax = 0
 . rw [xu h h0]
   have hk : c.next.2.k ≠ 0 := by
    unfold Cu.ax at h0
    split at h0
    . rename_i q; exact absurd h0 q
    . split at h0
      . cases h0
      . assumption
   exact ⟨fun _ => .inl (by simp), fun _ => .inl hk⟩
 . have hs := ou h.1
   obtain ⟨h1, _⟩ := Ck h h0
   rw [h1]
   unfold Cu.ax at h0
   by_cases h2 : c.next.1.c ≠ 0
   . refine ⟨fun _ => .inr ?_, fun _ => .inr h2⟩
     unfold aW
     rw [fQ, if_pos (by rw [← hs.2.1]; exact h2), ← hs.2.1]
     exact h2
   . rw [if_neg h2] at h0
     have hk : c.next.2.k = 0 := by
      by_cases q : c.next.2.k = 0
      . exact q
      . rw [if_neg q] at h0; exact absurd rfl h0
     refine ⟨fun q => ?_, fun q => ?_⟩
     . rcases q with q | q
       . exact absurd hk q
       . exact absurd q h2
     . rcases q with q | q
       . simp at q
       . exfalso
         apply q
         unfold aW
         rw [fQ, if_neg (by rw [← hs.2.1]; exact h2), if_pos (by rw [← hs.1]; exact hk)]
theorem CE {s : List UInt8} (h : s.length ≤ 10000000) : iB s = d6 s ∧ jo s = di s := by
 have hc : (Cu.new s).live := ⟨⟨Nat.zero_le _, Nat.le_refl _⟩, rfl, h⟩
 have hs := jf hc
 have key : iB s = d6 s ∧ (d6 s = 0 → (ao 32 [] (aW (.new s))).2.1 = (gv 32 (Cu.new s).next.2 [] (Cu.new s).next.1).2.1) := by
  unfold iB d6
  by_cases h1 : (Cu.new s).ax ≠ 0
  . have hx := uj 32 [] (aW (.new s)) (by rw [hs]; exact h1)
    rw [if_pos h1, if_pos (by rw [hx, hs]; exact h1), hx, hs]
    exact ⟨rfl, fun q => absurd q h1⟩
  rw [if_neg h1]
  have hv := uK 32 (.new s) [] hc (by omega)
  obtain ⟨a1, _⟩ := aX hc (by omega)
  by_cases h2 : (gv 32 (Cu.new s).next.2 [] (Cu.new s).next.1).1 ≠ 0
  . rw [if_pos h2, if_pos (by rw [hv.e]; exact h2)]
    exact ⟨hv.e, fun q => absurd q h2⟩
  have h2' : (gv 32 (Cu.new s).next.2 [] (Cu.new s).next.1).1 = 0 := by omega
  rw [if_neg h2, if_neg (by rw [hv.e]; exact h2), hv.c h2']
  have f := eX 32 _ [] _ a1 h2'
  refine ⟨?_, fun _ => hv.l h2'⟩
  by_cases h3 : (gv 32 (Cu.new s).next.2 [] (Cu.new s).next.1).2.2.next.2.k ≠ 0 ∨ (gv 32 (Cu.new s).next.2 [] (Cu.new s).next.1).2.2.next.1.c ≠ 0
  . rw [if_pos h3, if_pos ((Cj f.live).1 h3)]
  . rw [if_neg h3, if_neg (fun q => h3 ((Cj f.live).2 q))]
 refine ⟨key.1, ?_⟩
 unfold jo di
 rw [key.1]
 by_cases h0 : d6 s = 0
 . rw [if_pos h0, if_pos h0, key.2 h0]
 . rw [if_neg h0, if_neg h0]
end Go.Proofs.YtllncocibkgjkaaGreat
