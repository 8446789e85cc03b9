/-
  A part of the proof.
-/
import Derived.Test.YtllncocibkgjkaaGreatTRa
set_option linter.unusedSimpArgs false
set_option linter.unusedVariables false
set_option maxHeartbeats 4000000
namespace Go.Proofs.YtllncocibkgjkaaGreat
open Go Go.VG
set_option maxRecDepth 100000
abbrev Sx : Type := List Tk × Int
def fT : Nat → Cu → Sx
 | 0, _ => ([], 0)
 | n + 1, c => if c.aX.1.c ≠ 0 then ([], c.aX.1.c) else if c.aX.2.k = 0 then ([], 0) else (c.aX.2 :: (fT n c.aX.1).1, (fT n c.aX.1).2)
def b6 (c : Cu) : Sx := fT (c.e - c.p + 1) c
def az (s : Sx) : Int := if s.1.length > 0 then 0 else if s.2 = 0 then 1 else s.2
def af (s : Sx) : Tk := s.1.getD 0 default
def ab (s : Sx) : Sx := (s.1.drop 1, s.2)
theorem CV : ∀ (n m : Nat) (c : Cu), c.ok → c.e - c.p + 1 ≤ n → c.e - c.p + 1 ≤ m → fT n c = fT m c
 | 0, _, _, _, h, _ => absurd h (by omega)
 | _ + 1, 0, _, _, _, h => absurd h (by omega)
 | n + 1, m + 1, c, hk, hn, hm => by
   rw [fT, fT]
   by_cases h1 : c.aX.1.c ≠ 0
   . rw [if_pos h1, if_pos h1]
   rw [if_neg h1, if_neg h1]
   by_cases h2 : c.aX.2.k = 0
   . rw [if_pos h2, if_pos h2]
   rw [if_neg h2, if_neg h2]
   have hd := sy hk (by omega)
   have hp := hd.2.2.2.2.2 h2
   have hp2 := hd.1.1
   rw [CV n m c.aX.1 hd.1 (by rw [hd.2.2.1]; omega) (by rw [hd.2.2.1]; omega)]
theorem xX {c : Cu} (h : c.live) (h0 : c.ay = 0) : b6 c = (c.next.2 :: (b6 c.next.1).1, (b6 c.next.1).2) := by
 obtain ⟨l, hs, he, hp, hn⟩ := b8 h h0
 have h1 : c.aX.1.c = 0 := by rw [← hn]; exact l.2.1
 have h2 : c.aX.2.k ≠ 0 := by
  unfold Cu.ay at h0
  split at h0
  . rename_i q; exact absurd h0 q
  . split at h0
    . cases h0
    . rename_i q; rw [← hn]; exact q
 have hl := l.1.1
 conv => lhs; unfold b6; rw [fT, if_neg (by omega), if_neg h2]
 unfold b6
 rw [hn]
 rw [hn] at hl hp he
 rw [CV (c.e - c.p) (c.aX.1.e - c.aX.1.p + 1) c.aX.1 (by rw [← hn]; exact l.1) (by omega) (by omega)]
theorem CE {c : Cu} (h : c.live) (h0 : c.ay ≠ 0) : (b6 c).1 = [] ∧ az (b6 c) = c.ay := by
 have hs := sD h.1
 unfold Cu.ay at h0 ⊢
 unfold b6
 rw [fT]
 by_cases h1 : c.next.1.c ≠ 0
 . have h2 : c.aX.1.c ≠ 0 := by rw [← hs.2.1]; exact h1
   rw [if_pos h1, if_pos h2]
   refine ⟨rfl, ?_⟩
   unfold az
   rw [if_neg (by simp), if_neg h2, hs.2.1]
 . have h2 : ¬ c.aX.1.c ≠ 0 := by rw [← hs.2.1]; exact h1
   rw [if_neg h1] at h0 ⊢
   rw [if_neg h2]
   by_cases h3 : c.next.2.k = 0
   . rw [if_pos h3, if_pos (by rw [← hs.1]; exact h3)]
     exact ⟨rfl, rfl⟩
   . rw [if_neg h3] at h0; exact absurd rfl h0
theorem ja {c : Cu} (h : c.live) : az (b6 c) = c.ay := by
 by_cases h0 : c.ay = 0
 . rw [xX h h0, h0]; unfold az; rw [if_pos (by simp)]
 . exact (CE h h0).2
theorem mg {c : Cu} (h : c.live) (h0 : c.ay = 0) : af (b6 c) = c.next.2 ∧ ab (b6 c) = b6 c.next.1 := by
 rw [xX h h0]; exact ⟨rfl, rfl⟩
abbrev RD : Type := Int × List Nd × Sx
abbrev VD : Type := List UInt8 → Sx → RD
def dY (s : Sx) (ks : List (List UInt8)) : Int := if az s ≠ 0 then az s else if (af s).k.toNat ≠ 115 then 3 else if (af s).t ∈ ks then 8 else 0
def fN (s : Sx) : Int := if az s ≠ 0 then az s else if (af s).k.toNat ≠ 58 then 3 else 0
def bE (en : Nat) (r : RD) : Int := if az r.2.2 ≠ 0 then az r.2.2 else if (af r.2.2).k.toNat = en then 0 else if (af r.2.2).k.toNat ≠ 44 then 3 else 0
def dU (v : VD) : Nat → Sx → List Nd → RD
 | 0, s, _ => (1, [], s)
 | n + 1, s, acc =>
   if (v [] s).1 ≠ 0 then ((v [] s).1, [], s)
   else if bE 93 (v [] s) ≠ 0 then (bE 93 (v [] s), [], ab (v [] s).2.2)
   else if (af (v [] s).2.2).k.toNat = 93 then (0, acc ++ (v [] s).2.1, ab (v [] s).2.2)
   else dU v n (ab (v [] s).2.2) (acc ++ (v [] s).2.1)
def dr (v : VD) : Nat → Sx → List (List UInt8) → List Nd → RD
 | 0, s, _, _ => (1, [], s)
 | n + 1, s, ks, acc =>
   if dY s ks ≠ 0 then (dY s ks, [], s)
   else if fN (ab s) ≠ 0 then (fN (ab s), [], ab (ab s))
   else if (v (af s).t (ab (ab s))).1 ≠ 0 then ((v (af s).t (ab (ab s))).1, [], ab (ab s))
   else if bE 125 (v (af s).t (ab (ab s))) ≠ 0 then (bE 125 (v (af s).t (ab (ab s))), [], ab (v (af s).t (ab (ab s))).2.2)
   else if (af (v (af s).t (ab (ab s))).2.2).k.toNat = 125 then (0, acc ++ (v (af s).t (ab (ab s))).2.1, ab (v (af s).t (ab (ab s))).2.2)
   else dr v n (ab (v (af s).t (ab (ab s))).2.2) (ks ++ [(af s).t]) (acc ++ (v (af s).t (ab (ab s))).2.1)
def b7 (v : VD) (en : Nat) (s : Sx) : RD :=
 if az s = 0 ∧ (af s).k.toNat = en then (0, [], ab s) else if en = 125 then dr v (s.1.length + 1) s [] [] else dU v (s.1.length + 1) s []
def ar : Nat → VD
 | 0, key, s => if az s ≠ 0 then (az s, [], s) else if (af s).k.toNat = 123 ∨ (af s).k.toNat = 91 then (33, [], s) else if cj (af s).k = true then (3, [], s) else (0, [⟨(af s).k, key, (af s).t, 1⟩], ab s)
 | k + 1, key, s =>
   if az s ≠ 0 then (az s, [], s)
   else if (af s).k.toNat = 123 ∨ (af s).k.toNat = 91 then
    ((b7 (ar k) ((af s).k.toNat + 2) (ab s)).1, ⟨(af s).k, key, [], (b7 (ar k) ((af s).k.toNat + 2) (ab s)).2.1.length + 1⟩ :: (b7 (ar k) ((af s).k.toNat + 2) (ab s)).2.1, (b7 (ar k) ((af s).k.toNat + 2) (ab s)).2.2)
   else if cj (af s).k = true then (3, [], s) else (0, [⟨(af s).k, key, (af s).t, 1⟩], ab s)
structure cZ (r : RT) (d : RD) : Prop where
 e : d.1 = r.1
 l : r.1 = 0 → d.2.1 = r.2.1
 c : r.1 = 0 → d.2.2 = b6 r.2.2
theorem cZ.iQ {k : Int} {l l' : List Nd} {c : Cu} {s : Sx} (h : k ≠ 0) : cZ (k, l, c) (k, l', s) := ⟨rfl, fun q => absurd q h, fun q => absurd q h⟩
theorem cZ.err {r : RT} {d : RD} (h : d.1 = r.1) (h0 : r.1 ≠ 0) : cZ r d := ⟨h, fun q => absurd q h0, fun q => absurd q h0⟩
def kX (vd : VD) : Prop := ∀ key s, (vd key s).1 = 0 → (vd key s).2.2.1.length + 1 ≤ s.1.length
theorem kd {s : Sx} (h : az s = 0) : 0 < s.1.length := by
 unfold az at h
 split at h
 . assumption
 . split at h
   . cases h
   . contradiction
theorem di (s : Sx) : (ab s).1.length = s.1.length - 1 := by show (s.1.drop 1).length = _; rw [List.length_drop]
theorem zg {vd : VD} (hv : kX vd) : ∀ (n : Nat) (s : Sx) (acc : List Nd), (dU vd n s acc).1 = 0 → (dU vd n s acc).2.2.1.length ≤ s.1.length
 | 0, _, _, h => by rw [dU] at h; cases h
 | n + 1, s, acc, h => by
   rw [dU] at h ⊢
   by_cases h1 : (vd [] s).1 ≠ 0
   . rw [if_pos h1] at h; exact absurd h h1
   rw [if_neg h1] at h ⊢
   have q1 := hv [] s (by omega)
   by_cases h2 : bE 93 (vd [] s) ≠ 0
   . rw [if_pos h2] at h; exact absurd h h2
   rw [if_neg h2] at h ⊢
   have q2 := di (vd [] s).2.2
   by_cases h3 : (af (vd [] s).2.2).k.toNat = 93
   . rw [if_pos h3]; show (ab (vd [] s).2.2).1.length ≤ _; omega
   rw [if_neg h3] at h ⊢
   have := zg hv n _ _ h
   omega
theorem zj {vd : VD} (hv : kX vd) : ∀ (n : Nat) (s : Sx) (ks : List (List UInt8)) (acc : List Nd), (dr vd n s ks acc).1 = 0 → (dr vd n s ks acc).2.2.1.length ≤ s.1.length
 | 0, _, _, _, h => by rw [dr] at h; cases h
 | n + 1, s, ks, acc, h => by
   rw [dr] at h ⊢
   by_cases h0 : dY s ks ≠ 0
   . rw [if_pos h0] at h; exact absurd h h0
   rw [if_neg h0] at h ⊢
   by_cases h4 : fN (ab s) ≠ 0
   . rw [if_pos h4] at h; exact absurd h h4
   rw [if_neg h4] at h ⊢
   by_cases h1 : (vd (af s).t (ab (ab s))).1 ≠ 0
   . rw [if_pos h1] at h; exact absurd h h1
   rw [if_neg h1] at h ⊢
   have q1 := hv (af s).t (ab (ab s)) (by omega)
   have q3 := di s
   have q4 := di (ab s)
   by_cases h2 : bE 125 (vd (af s).t (ab (ab s))) ≠ 0
   . rw [if_pos h2] at h; exact absurd h h2
   rw [if_neg h2] at h ⊢
   have q2 := di (vd (af s).t (ab (ab s))).2.2
   by_cases h3 : (af (vd (af s).t (ab (ab s))).2.2).k.toNat = 125
   . rw [if_pos h3]; show (ab (vd (af s).t (ab (ab s))).2.2).1.length ≤ _; omega
   rw [if_neg h3] at h ⊢
   have := zj hv n _ _ _ h
   omega
theorem E7 {vd : VD} (hv : kX vd) {en : Nat} {s : Sx} (h : (b7 vd en s).1 = 0) : (b7 vd en s).2.2.1.length ≤ s.1.length := by
 unfold b7 at h ⊢
 by_cases h1 : az s = 0 ∧ (af s).k.toNat = en
 . rw [if_pos h1]; have := di s; show (ab s).1.length ≤ _; omega
 rw [if_neg h1] at h ⊢
 by_cases h2 : en = 125
 . rw [if_pos h2] at h ⊢; exact zj hv _ _ _ _ h
 . rw [if_neg h2] at h ⊢; exact zg hv _ _ _ h
theorem uy : ∀ k, kX (ar k)
 | 0 => fun key s h => by
   rw [ar] at h ⊢
   by_cases h1 : az s ≠ 0
   . rw [if_pos h1] at h; exact absurd h h1
   rw [if_neg h1] at h ⊢
   have h0 := kd (s := s) (by omega)
   by_cases h2 : (af s).k.toNat = 123 ∨ (af s).k.toNat = 91
   . rw [if_pos h2] at h; cases h
   rw [if_neg h2] at h ⊢
   by_cases h3 : cj (af s).k = true
   . rw [if_pos h3] at h; cases h
   rw [if_neg h3]
   have := di s
   show (ab s).1.length + 1 ≤ _
   omega
 | k + 1 => fun key s h => by
   rw [ar] at h ⊢
   by_cases h1 : az s ≠ 0
   . rw [if_pos h1] at h; exact absurd h h1
   rw [if_neg h1] at h ⊢
   have h0 := kd (s := s) (by omega)
   have hr := di s
   by_cases h2 : (af s).k.toNat = 123 ∨ (af s).k.toNat = 91
   . rw [if_pos h2] at h ⊢
     have := E7 (uy k) h
     show (b7 (ar k) ((af s).k.toNat + 2) (ab s)).2.2.1.length + 1 ≤ _
     omega
   rw [if_neg h2] at h ⊢
   by_cases h3 : cj (af s).k = true
   . rw [if_pos h3] at h; cases h
   rw [if_neg h3]
   show (ab s).1.length + 1 ≤ _
   omega
def SmV (v : VF) (vd : VD) : Prop := ∀ c key, c.live → c.ay = 0 → cZ (v c.next.2 key c.next.1) (vd key (b6 c))
def ErV (vd : VD) : Prop := ∀ key s, az s ≠ 0 → (vd key s).1 = az s
theorem ux : ∀ k, ErV (ar k)
 | 0 => fun key s h => by rw [ar, if_pos h]
 | k + 1 => fun key s h => by rw [ar, if_pos h]
theorem Bj {v : VF} {vd : VD} (hf : iv v) (hl : kX vd) (he : ErV vd) (hv : SmV v vd) : ∀ (n m : Nat) (b : Cu) (acc : List Nd), b.live → b.ay = 0 → b.next.1.e - b.next.1.p + 1 ≤ n → (b6 b).1.length + 1 ≤ m →
   cZ (fi v n b.next.2 b.next.1 acc) (dU vd m (b6 b) acc)
 | 0, _, _, _, _, _, h, _ => absurd h (by omega)
 | _ + 1, 0, _, _, _, _, _, h => absurd h (by omega)
 | n + 1, m + 1, b, acc, hb, h0, hn, hm => by
   obtain ⟨a1, a2, a3, a4, _⟩ := b8 hb h0
   have hs := hv b [] hb h0
   have hlen := hl [] (b6 b)
   rw [fi, dU]
   by_cases h1 : (v b.next.2 [] b.next.1).1 ≠ 0
   . rw [if_pos h1, if_pos (show (vd [] (b6 b)).1 ≠ 0 by rw [hs.e]; exact h1)]
     exact cZ.err hs.e h1
   rw [if_neg h1, if_neg (show ¬ (vd [] (b6 b)).1 ≠ 0 by rw [hs.e]; exact h1)]
   have h1' : (v b.next.2 [] b.next.1).1 = 0 := by omega
   have f := hf b.next.2 [] b.next.1 a1 h1'
   have hc := hs.c h1'
   have hll := hs.l h1'
   have hlen := hlen (by rw [hs.e]; exact h1')
   generalize v b.next.2 [] b.next.1 = r at *
   generalize vd [] (b6 b) = d at *
   have hq := ja f.live
   unfold bE
   rw [hc]
   rw [hc] at hlen
   rw [hq]
   by_cases h2 : r.2.2.ay ≠ 0
   . rw [if_pos h2, if_pos h2, if_pos h2]
     exact cZ.iQ h2
   have h2' : r.2.2.ay = 0 := by omega
   obtain ⟨t1, t2⟩ := mg f.live h2'
   obtain ⟨l1, l2, l3, l4, _⟩ := b8 f.live h2'
   rw [if_neg h2, if_neg h2, t1, t2]
   by_cases h3 : r.2.2.next.2.k.toNat = 93
   . rw [if_pos h3, if_pos h3, if_neg (show ¬ (0 : Int) ≠ 0 by simp), if_pos h3, hll]
     exact ⟨rfl, fun _ => rfl, fun _ => rfl⟩
   rw [if_neg h3, if_neg h3, if_neg h3]
   by_cases h4 : r.2.2.next.2.k.toNat ≠ 44
   . rw [if_pos h4, if_pos h4, if_pos (by decide)]
     exact cZ.iQ (by decide)
   rw [if_neg h4, if_neg h4, if_neg (show ¬ (0 : Int) ≠ 0 by simp)]
   have hsl := di (b6 r.2.2)
   rw [t2] at hsl
   have hpos := kd (s := b6 r.2.2) (by rw [hq]; exact h2')
   have fp := f.p; have fe := f.e; have fs := f.s
   by_cases h5 : r.2.2.next.1.ay ≠ 0
   . rw [if_pos h5]
     obtain ⟨m', rfl⟩ : ∃ m', m = m' + 1 := ⟨m - 1, by omega⟩
     have hx := ja l1
     have hx2 := he [] (b6 r.2.2.next.1) (by rw [hx]; exact h5)
     rw [dU, if_pos (by rw [hx2, hx]; exact h5)]
     exact cZ.err (by rw [hx2, hx]) h5
   rw [if_neg h5]
   rw [hll]
   obtain ⟨m1, m2, m3, m4, _⟩ := b8 l1 (by omega)
   have hpe := m1.1.1
   rw [m3, l3, fe] at hpe
   exact Bj hf hl he hv n m _ _ l1 (by omega) (by rw [m3, l3, fe]; omega) (by omega)
theorem BJ {v : VF} {vd : VD} (hf : iv v) (hl : kX vd) (he : ErV vd) (hv : SmV v vd) : ∀ (n m : Nat) (b : Cu) (ks : List (List UInt8)) (acc : List Nd), b.live → b.ay = 0 → b.next.1.e - b.next.1.p + 1 ≤ n → (b6 b).1.length + 1 ≤ m →
   cZ (fj v n b.next.2 b.next.1 ks acc) (dr vd m (b6 b) ks acc)
 | 0, _, _, _, _, _, _, h, _ => absurd h (by omega)
 | _ + 1, 0, _, _, _, _, _, _, h => absurd h (by omega)
 | n + 1, m + 1, b, ks, acc, hb, h0, hn, hm => by
   obtain ⟨a1, a2, a3, a4, _⟩ := b8 hb h0
   obtain ⟨t1, t2⟩ := mg hb h0
   have hsb := ja hb
   have hsc := ja a1
   rw [fj, dr]
   unfold du dY
   rw [hsb, if_neg (show ¬ b.ay ≠ 0 by omega), t1, t2]
   by_cases g1 : b.next.2.k.toNat ≠ 115
   . rw [if_pos g1, if_pos g1, if_pos (by decide), if_pos (by decide)]
     exact cZ.iQ (by decide)
   rw [if_neg g1, if_neg g1]
   by_cases g2 : b.next.2.t ∈ ks
   . rw [if_pos g2, if_pos g2, if_pos (by decide), if_pos (by decide)]
     exact cZ.iQ (by decide)
   rw [if_neg g2, if_neg g2, if_neg (show ¬ (0 : Int) ≠ 0 by simp)]
   unfold fN
   rw [hsc]
   by_cases g3 : b.next.1.ay ≠ 0
   . rw [if_pos g3, if_pos g3, if_pos g3, if_pos g3]
     exact cZ.iQ g3
   obtain ⟨u1, u2⟩ := mg a1 (by omega)
   obtain ⟨c1, c2, c3, c4, _⟩ := b8 a1 (by omega)
   rw [if_neg g3, if_neg g3, u1, u2]
   by_cases g4 : b.next.1.next.2.k.toNat ≠ 58
   . rw [if_pos g4, if_pos g4, if_pos (by decide), if_pos (by decide)]
     exact cZ.iQ (by decide)
   rw [if_neg g4, if_neg g4, if_neg (show ¬ (0 : Int) ≠ 0 by simp)]
   have hsd := ja c1
   by_cases g5 : b.next.1.next.1.ay ≠ 0
   . have hx := he b.next.2.t (b6 b.next.1.next.1) (by rw [hsd]; exact g5)
     rw [if_pos g5, if_pos (by rw [hx, hsd]; exact g5)]
     exact cZ.err (by rw [hx, hsd]) g5
   rw [if_neg g5]
   have hs := hv b.next.1.next.1 b.next.2.t c1 (by omega)
   have hlen := hl b.next.2.t (b6 b.next.1.next.1)
   obtain ⟨d1, d2, d3, d4, _⟩ := b8 c1 (by omega)
   have hk1 := di (b6 b)
   rw [t2] at hk1
   have hk2 := di (b6 b.next.1)
   rw [u2] at hk2
   have f : (bp v b.next.2 b.next.1).1 = 0 → Fit b.next.1.next.1.next.1 (bp v b.next.2 b.next.1) := fun h => hf _ _ _ d1 h
   have hs : cZ (bp v b.next.2 b.next.1) (vd b.next.2.t (b6 b.next.1.next.1)) := hs
   by_cases h1 : (bp v b.next.2 b.next.1).1 ≠ 0
   . rw [if_pos h1, if_pos (show (vd b.next.2.t (b6 b.next.1.next.1)).1 ≠ 0 by rw [hs.e]; exact h1)]
     exact cZ.err hs.e h1
   rw [if_neg h1, if_neg (show ¬ (vd b.next.2.t (b6 b.next.1.next.1)).1 ≠ 0 by rw [hs.e]; exact h1)]
   have h1' : (bp v b.next.2 b.next.1).1 = 0 := by omega
   have f := f h1'
   have hc := hs.c h1'
   have hll := hs.l h1'
   have hlen := hlen (by rw [hs.e]; exact h1')
   generalize bp v b.next.2 b.next.1 = r at *
   generalize vd b.next.2.t (b6 b.next.1.next.1) = d at *
   have hq := ja f.live
   unfold bE
   rw [hc]
   rw [hc] at hlen
   rw [hq]
   by_cases h2 : r.2.2.ay ≠ 0
   . rw [if_pos h2, if_pos h2, if_pos h2]
     exact cZ.iQ h2
   have h2' : r.2.2.ay = 0 := by omega
   obtain ⟨v1, v2⟩ := mg f.live h2'
   obtain ⟨l1, l2, l3, l4, _⟩ := b8 f.live h2'
   rw [if_neg h2, if_neg h2, v1, v2]
   by_cases h3 : r.2.2.next.2.k.toNat = 125
   . rw [if_pos h3, if_pos h3, if_neg (show ¬ (0 : Int) ≠ 0 by simp), if_pos h3, hll]
     exact ⟨rfl, fun _ => rfl, fun _ => rfl⟩
   rw [if_neg h3, if_neg h3, if_neg h3]
   by_cases h4 : r.2.2.next.2.k.toNat ≠ 44
   . rw [if_pos h4, if_pos h4, if_pos (by decide)]
     exact cZ.iQ (by decide)
   rw [if_neg h4, if_neg h4, if_neg (show ¬ (0 : Int) ≠ 0 by simp)]
   have hsl := di (b6 r.2.2)
   rw [v2] at hsl
   have hpos := kd (s := b6 r.2.2) (by rw [hq]; exact h2')
   have fp := f.p; have fe := f.e; have fs := f.s
   by_cases h5 : r.2.2.next.1.ay ≠ 0
   . rw [if_pos h5]
     obtain ⟨m', rfl⟩ : ∃ m', m = m' + 1 := ⟨m - 1, by omega⟩
     have hx := ja l1
     rw [dr]
     unfold dY
     rw [hx, if_pos h5, if_pos h5]
     exact cZ.iQ h5
   rw [if_neg h5]
   rw [hll]
   obtain ⟨m1, m2, m3, m4, _⟩ := b8 l1 (by omega)
   have hpe := m1.1.1
   rw [m3, l3, fe, d3, c3] at hpe
   exact BJ hf hl he hv n m _ _ _ l1 (by omega) (by rw [m3, l3, fe, d3, c3]; omega) (by omega)
theorem HI {v : VF} {vd : VD} (hf : iv v) (hl : kX vd) (he : ErV vd) (hv : SmV v vd) {c : Cu} (hc : c.live) : cZ (bm v c) (b7 vd 93 (b6 c)) := by
 have hs := ja hc
 unfold bm b7
 rw [hs]
 by_cases h1 : c.ay ≠ 0
 . rw [if_pos h1, if_neg (fun q => h1 q.1), if_neg (by decide)]
   have hx := he [] (b6 c) (by rw [hs]; exact h1)
   rw [dU, if_pos (by rw [hx, hs]; exact h1)]
   exact cZ.err (by rw [hx, hs]) h1
 obtain ⟨t1, t2⟩ := mg hc (by omega)
 rw [if_neg h1, t1, t2]
 by_cases h3 : c.next.2.k.toNat = 93
 . rw [if_pos h3, if_pos ⟨by omega, h3⟩]
   exact ⟨rfl, fun _ => rfl, fun _ => rfl⟩
 rw [if_neg h3, if_neg (fun q => h3 q.2), if_neg (by decide)]
 exact Bj hf hl he hv _ _ c [] hc (by omega) (Nat.le_refl _) (Nat.le_refl _)
theorem HJ {v : VF} {vd : VD} (hf : iv v) (hl : kX vd) (he : ErV vd) (hv : SmV v vd) {c : Cu} (hc : c.live) : cZ (bf v c) (b7 vd 125 (b6 c)) := by
 have hs := ja hc
 unfold bf b7
 rw [hs]
 by_cases h1 : c.ay ≠ 0
 . rw [if_pos h1, if_neg (fun q => h1 q.1), if_pos rfl]
   rw [dr]
   unfold dY
   rw [hs, if_pos h1, if_pos h1]
   exact cZ.err rfl h1
 obtain ⟨t1, t2⟩ := mg hc (by omega)
 rw [if_neg h1, t1, t2]
 by_cases h3 : c.next.2.k.toNat = 125
 . rw [if_pos h3, if_pos ⟨by omega, h3⟩]
   exact ⟨rfl, fun _ => rfl, fun _ => rfl⟩
 rw [if_neg h3, if_neg (fun q => h3 q.2), if_pos rfl]
 exact BJ hf hl he hv _ _ c [] [] hc (by omega) (Nat.le_refl _) (Nat.le_refl _)
theorem Am {x : CO} {k : UInt8} (h : (held x k).2.k ≠ 0) : (held x k).2.k = k := by
 unfold held at h ⊢
 dsimp only at h ⊢
 split
 . rfl
 . rename_i q; rw [if_neg q] at h; exact absurd rfl h
theorem Dm {c : Cu} {k : UInt8} (h : (c.cF k).2.k ≠ 0) : (c.cF k).2.k = k := by
 unfold Cu.cF at h ⊢
 split
 . rename_i q; rw [if_pos q] at h; exact absurd rfl h
 . rfl
theorem M1 {d : Cu} (h : d.fK.2.k ≠ 0) : (cj d.fK.2.k = true ∧ d.fK.2.t = []) ∨ (ez d.fK.2.k = true ∧ cj d.fK.2.k = false) := by
 have leaf : ∀ k : UInt8, (k = 115 ∨ k = 110 ∨ k = 116 ∨ k = 102 ∨ k = 122) → ez k = true ∧ cj k = false := by
  intro k hk
  rcases hk with rfl | rfl | rfl | rfl | rfl <;> decide
 unfold Cu.fK at h ⊢
 by_cases h1 : d.p = d.e
 . rw [if_pos h1] at h; exact absurd rfl h
 rw [if_neg h1] at h ⊢
 by_cases h2 : cj d.get = true
 . rw [if_pos h2]; exact .inl ⟨h2, rfl⟩
 rw [if_neg h2] at h ⊢
 by_cases h3 : d.get.toNat = 34
 . rw [if_pos h3] at h ⊢; rw [Am h]; exact .inr (leaf _ (.inl rfl))
 rw [if_neg h3] at h ⊢
 by_cases h4 : d.get.toNat = 45 ∨ aN d.get = true
 . rw [if_pos h4] at h ⊢; rw [Am h]; exact .inr (leaf _ (.inr (.inl rfl)))
 rw [if_neg h4] at h ⊢
 by_cases h5 : d.get.toNat = 116 ∨ d.get.toNat = 102
 . rw [if_pos h5] at h ⊢
   rw [Dm h]
   refine .inr (leaf _ ?_)
   rcases h5 with h5 | h5
   . exact .inr (.inr (.inl (UInt8.toNat_inj.1 h5)))
   . exact .inr (.inr (.inr (.inl (UInt8.toNat_inj.1 h5))))
 rw [if_neg h5] at h ⊢
 by_cases h6 : d.get.toNat = 110
 . rw [if_pos h6] at h ⊢; rw [Dm h]; exact .inr (leaf _ (.inr (.inr (.inr (.inr rfl)))))
 rw [if_neg h6] at h; exact absurd rfl h
theorem vG {c : Cu} (hc : c.live) (h : c.ay = 0) : (cj c.next.2.k = true ∧ c.next.2.t = []) ∨ (ez c.next.2.k = true ∧ cj c.next.2.k = false) := by
 obtain ⟨l, _, _, _, hn⟩ := b8 hc h
 have h2 : c.aX.2.k ≠ 0 := by
  unfold Cu.ay at h
  split at h
  . rename_i q; exact absurd h q
  . split at h
    . cases h
    . rename_i q; rw [← hn]; exact q
 rw [hn]
 unfold Cu.aX at h2 ⊢
 rw [if_neg (show ¬ c.c ≠ 0 from fun q => q hc.2.1)] at h2 ⊢
 exact M1 h2
theorem Cw {k : UInt8} (h : cj k = true) : ez k = false := by
 unfold cj at h
 have h := of_decide_eq_true h
 unfold ez
 exact decide_eq_false (by omega)
theorem wo {k : UInt8} (h : k.toNat = 123 ∨ k.toNat = 91) : cj k = true := decide_eq_true (by omega)
theorem uY : ∀ k, SmV (gv k) (ar k)
 | 0 => fun c key hc h0 => by
   have hs := ja hc
   obtain ⟨t1, t2⟩ := mg hc h0
   have hk := vG hc h0
   rw [gv, ar, hs, if_neg (show ¬ c.ay ≠ 0 by omega), t1, t2]
   by_cases h1 : c.next.2.k.toNat = 123 ∨ c.next.2.k.toNat = 91
   . rw [if_pos h1, if_pos h1]; exact cZ.iQ (by decide)
   rw [if_neg h1, if_neg h1]
   rcases hk with ⟨q1, q2⟩ | ⟨q1, q2⟩
   . rw [if_neg (by rw [Cw q1]; decide), if_pos q1]; exact cZ.iQ (by decide)
   . rw [if_pos q1, if_neg (by rw [q2]; decide)]; exact ⟨rfl, fun _ => rfl, fun _ => rfl⟩
 | k + 1 => fun c key hc h0 => by
   have hs := ja hc
   obtain ⟨t1, t2⟩ := mg hc h0
   have hk := vG hc h0
   obtain ⟨a1, _⟩ := b8 hc h0
   rw [gv, ar, hs, if_neg (show ¬ c.ay ≠ 0 by omega), t1, t2]
   have ho := HJ (fA k) (uy k) (ux k) (uY k) a1
   have hl := HI (fA k) (uy k) (ux k) (uY k) a1
   by_cases h1 : c.next.2.k.toNat = 123
   . rw [if_pos h1, if_pos (.inl h1), h1]
     rcases hk with ⟨_, q2⟩ | ⟨_, q2⟩
     . refine ⟨ho.e, fun h => ?_, fun h => ho.c h⟩
       show _ :: _ = _ :: _
       rw [ho.l h, q2]
     . rw [wo (.inl h1)] at q2; cases q2
   rw [if_neg h1]
   by_cases h2 : c.next.2.k.toNat = 91
   . rw [if_pos h2, if_pos (.inr h2), h2]
     rcases hk with ⟨_, q2⟩ | ⟨_, q2⟩
     . refine ⟨hl.e, fun h => ?_, fun h => hl.c h⟩
       show _ :: _ = _ :: _
       rw [hl.l h, q2]
     . rw [wo (.inr h2)] at q2; cases q2
   rw [if_neg h2, if_neg (show ¬ (c.next.2.k.toNat = 123 ∨ c.next.2.k.toNat = 91) from fun q => q.elim h1 h2)]
   rcases hk with ⟨q1, q2⟩ | ⟨q1, q2⟩
   . rw [if_neg (by rw [Cw q1]; decide), if_pos q1]; exact cZ.iQ (by decide)
   . rw [if_pos q1, if_neg (by rw [q2]; decide)]; exact ⟨rfl, fun _ => rfl, fun _ => rfl⟩
def cQ (s : List UInt8) : Int :=
 if (Cu.new s).ay ≠ 0 then (Cu.new s).ay
 else if (gv 32 (Cu.new s).next.2 [] (Cu.new s).next.1).1 ≠ 0 then (gv 32 (Cu.new s).next.2 [] (Cu.new s).next.1).1
 else if (gv 32 (Cu.new s).next.2 [] (Cu.new s).next.1).2.2.next.2.k ≠ 0 ∨ (gv 32 (Cu.new s).next.2 [] (Cu.new s).next.1).2.2.next.1.c ≠ 0 then 2 else 0
def d9 (s : List UInt8) : List Nd := if cQ s = 0 then (gv 32 (Cu.new s).next.2 [] (Cu.new s).next.1).2.1 else []
def hJ (s : List UInt8) : Int :=
 if (ar 32 [] (b6 (.new s))).1 ≠ 0 then (ar 32 [] (b6 (.new s))).1
 else if (ar 32 [] (b6 (.new s))).2.2.1.length > 0 ∨ (ar 32 [] (b6 (.new s))).2.2.2 ≠ 0 then 2 else 0
def iO (s : List UInt8) : List Nd := if hJ s = 0 then (ar 32 [] (b6 (.new s))).2.1 else []
theorem CD {c : Cu} (h : c.live) : (c.next.2.k ≠ 0 ∨ c.next.1.c ≠ 0) ↔ ((b6 c).1.length > 0 ∨ (b6 c).2 ≠ 0) := by
 by_cases h0 : c.ay = 0
 . rw [xX h h0]
   have hk : c.next.2.k ≠ 0 := by
    unfold Cu.ay at h0
    split at h0
    . rename_i q; exact absurd h0 q
    . split at h0
      . cases h0
      . assumption
   exact ⟨fun _ => .inl (by simp), fun _ => .inl hk⟩
 . have hs := sD h.1
   obtain ⟨h1, _⟩ := CE h h0
   rw [h1]
   unfold Cu.ay at h0
   by_cases h2 : c.next.1.c ≠ 0
   . refine ⟨fun _ => .inr ?_, fun _ => .inr h2⟩
     unfold b6
     rw [fT, if_pos (by rw [← hs.2.1]; exact h2), ← hs.2.1]
     exact h2
   . rw [if_neg h2] at h0
     have hk : c.next.2.k = 0 := by
      by_cases q : c.next.2.k = 0
      . exact q
      . rw [if_neg q] at h0; exact absurd rfl h0
     refine ⟨fun q => ?_, fun q => ?_⟩
     . rcases q with q | q
       . exact absurd hk q
       . exact absurd q h2
     . rcases q with q | q
       . simp at q
       . exfalso
         apply q
         unfold b6
         rw [fT, if_neg (by rw [← hs.2.1]; exact h2), if_pos (by rw [← hs.1]; exact hk)]
theorem tH {s : List UInt8} (h : s.length ≤ 10000000) : hJ s = cQ s ∧ iO s = d9 s := by
 have hc : (Cu.new s).live := ⟨⟨Nat.zero_le _, Nat.le_refl _⟩, rfl, h⟩
 have hs := ja hc
 have key : hJ s = cQ s ∧ (cQ s = 0 → (ar 32 [] (b6 (.new s))).2.1 = (gv 32 (Cu.new s).next.2 [] (Cu.new s).next.1).2.1) := by
  unfold hJ cQ
  by_cases h1 : (Cu.new s).ay ≠ 0
  . have hx := ux 32 [] (b6 (.new s)) (by rw [hs]; exact h1)
    rw [if_pos h1, if_pos (by rw [hx, hs]; exact h1), hx, hs]
    exact ⟨rfl, fun q => absurd q h1⟩
  rw [if_neg h1]
  have hv := uY 32 (.new s) [] hc (by omega)
  obtain ⟨a1, _⟩ := b8 hc (by omega)
  by_cases h2 : (gv 32 (Cu.new s).next.2 [] (Cu.new s).next.1).1 ≠ 0
  . rw [if_pos h2, if_pos (by rw [hv.e]; exact h2)]
    exact ⟨hv.e, fun q => absurd q h2⟩
  have h2' : (gv 32 (Cu.new s).next.2 [] (Cu.new s).next.1).1 = 0 := by omega
  rw [if_neg h2, if_neg (by rw [hv.e]; exact h2), hv.c h2']
  have f := fA 32 _ [] _ a1 h2'
  refine ⟨?_, fun _ => hv.l h2'⟩
  by_cases h3 : (gv 32 (Cu.new s).next.2 [] (Cu.new s).next.1).2.2.next.2.k ≠ 0 ∨ (gv 32 (Cu.new s).next.2 [] (Cu.new s).next.1).2.2.next.1.c ≠ 0
  . rw [if_pos h3, if_pos ((CD f.live).1 h3)]
  . rw [if_neg h3, if_neg (fun q => h3 ((CD f.live).2 q))]
 refine ⟨key.1, ?_⟩
 unfold iO d9
 rw [key.1]
 by_cases h0 : cQ s = 0
 . rw [if_pos h0, if_pos h0, key.2 h0]
 . rw [if_neg h0, if_neg h0]
end Go.Proofs.YtllncocibkgjkaaGreat
