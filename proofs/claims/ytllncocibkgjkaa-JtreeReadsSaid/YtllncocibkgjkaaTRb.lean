/-
  A tree of JSON: the document's reading, as a function; it is the program's.
-/
import Derived.Test.YtllncocibkgjkaaTRa
set_option linter.unusedSimpArgs false
set_option linter.unusedVariables false
set_option maxHeartbeats 4000000
namespace Go.Proofs.Ytllncocibkgjkaa
open Go Go.VG
set_option maxRecDepth 100000
abbrev Sx : Type := List Tk × Int
def aez : Nat → Cu → Sx
  | 0, _ => ([], 0)
  | n + 1, c => if c.aan.1.c ≠ 0 then ([], c.aan.1.c) else if c.aan.2.k = 0 then ([], 0) else (c.aan.2 :: (aez n c.aan.1).1, (aez n c.aan.1).2)
def aeb (c : Cu) : Sx := aez (c.e - c.p + 1) c
def stE (s : Sx) : Int := if s.1.length > 0 then 0 else if s.2 = 0 then 1 else s.2
def stT (s : Sx) : Tk := s.1.getD 0 default
def stR (s : Sx) : Sx := (s.1.drop 1, s.2)
theorem axs : ∀ (n m : Nat) (c : Cu), c.ok → c.e - c.p + 1 ≤ n → c.e - c.p + 1 ≤ m → aez n c = aez m c
  | 0, _, _, _, h, _ => absurd h (by omega)
  | _ + 1, 0, _, _, _, h => absurd h (by omega)
  | n + 1, m + 1, c, hk, hn, hm => by
    rw [aez, aez]
    by_cases h1 : c.aan.1.c ≠ 0
    · rw [if_pos h1, if_pos h1]
    rw [if_neg h1, if_neg h1]
    by_cases h2 : c.aan.2.k = 0
    · rw [if_pos h2, if_pos h2]
    rw [if_neg h2, if_neg h2]
    have hd := ali hk (by omega)
    have hp := hd.2.2.2.2.2 h2
    have hp2 := hd.1.1
    rw [axs n m c.aan.1 hd.1 (by rw [hd.2.2.1]; omega) (by rw [hd.2.2.1]; omega)]
theorem a09 {c : Cu} (h : c.live) (h0 : c.tkE = 0) : aeb c = (c.next.2 :: (aeb c.next.1).1, (aeb c.next.1).2) := by
  obtain ⟨l, hs, he, hp, hn⟩ := abi h h0
  have h1 : c.aan.1.c = 0 := by rw [← hn]; exact l.2.1
  have h2 : c.aan.2.k ≠ 0 := by
    unfold Cu.tkE at h0
    split at h0
    · rename_i q; exact absurd h0 q
    · split at h0
      · cases h0
      · rename_i q; rw [← hn]; exact q
  have hl := l.1.1
  conv => lhs; unfold aeb; rw [aez, if_neg (by omega), if_neg h2]
  unfold aeb
  rw [hn]
  rw [hn] at hl hp he
  rw [axs (c.e - c.p) (c.aan.1.e - c.aan.1.p + 1) c.aan.1 (by rw [← hn]; exact l.1) (by omega) (by omega)]
theorem a1t {c : Cu} (h : c.live) (h0 : c.tkE ≠ 0) : (aeb c).1 = [] ∧ stE (aeb c) = c.tkE := by
  have hs := apy h.1
  unfold Cu.tkE at h0 ⊢
  unfold aeb
  rw [aez]
  by_cases h1 : c.next.1.c ≠ 0
  · have h2 : c.aan.1.c ≠ 0 := by rw [← hs.2.1]; exact h1
    rw [if_pos h1, if_pos h2]
    refine ⟨rfl, ?_⟩
    unfold stE
    rw [if_neg (by simp), if_neg h2, hs.2.1]
  · have h2 : ¬ c.aan.1.c ≠ 0 := by rw [← hs.2.1]; exact h1
    rw [if_neg h1] at h0 ⊢
    rw [if_neg h2]
    by_cases h3 : c.next.2.k = 0
    · rw [if_pos h3, if_pos (by rw [← hs.1]; exact h3)]
      exact ⟨rfl, rfl⟩
    · rw [if_neg h3] at h0; exact absurd rfl h0
theorem aia {c : Cu} (h : c.live) : stE (aeb c) = c.tkE := by
  by_cases h0 : c.tkE = 0
  · rw [a09 h h0, h0]; unfold stE; rw [if_pos (by simp)]
  · exact (a1t h h0).2
theorem ao8 {c : Cu} (h : c.live) (h0 : c.tkE = 0) : stT (aeb c) = c.next.2 ∧ stR (aeb c) = aeb c.next.1 := by
  rw [a09 h h0]; exact ⟨rfl, rfl⟩
abbrev RD : Type := Int × List Nd × Sx
abbrev VD : Type := List UInt8 → Sx → RD
def apq (s : Sx) (ks : List (List UInt8)) : Int := if stE s ≠ 0 then stE s else if (stT s).k.toNat ≠ 115 then 3 else if (stT s).t ∈ ks then 8 else 0
def avm (s : Sx) : Int := if stE s ≠ 0 then stE s else if (stT s).k.toNat ≠ 58 then 3 else 0
def bhD (en : Nat) (r : RD) : Int := if stE r.2.2 ≠ 0 then stE r.2.2 else if (stT r.2.2).k.toNat = en then 0 else if (stT r.2.2).k.toNat ≠ 44 then 3 else 0
def ad2 (v : VD) : Nat → Sx → List Nd → RD
  | 0, s, _ => (1, [], s)
  | n + 1, s, acc =>
    if (v [] s).1 ≠ 0 then ((v [] s).1, [], s)
    else if bhD 93 (v [] s) ≠ 0 then (bhD 93 (v [] s), [], stR (v [] s).2.2)
    else if (stT (v [] s).2.2).k.toNat = 93 then (0, acc ++ (v [] s).2.1, stR (v [] s).2.2)
    else ad2 v n (stR (v [] s).2.2) (acc ++ (v [] s).2.1)
def ack (v : VD) : Nat → Sx → List (List UInt8) → List Nd → RD
  | 0, s, _, _ => (1, [], s)
  | n + 1, s, ks, acc =>
    if apq s ks ≠ 0 then (apq s ks, [], s)
    else if avm (stR s) ≠ 0 then (avm (stR s), [], stR (stR s))
    else if (v (stT s).t (stR (stR s))).1 ≠ 0 then ((v (stT s).t (stR (stR s))).1, [], stR (stR s))
    else if bhD 125 (v (stT s).t (stR (stR s))) ≠ 0 then (bhD 125 (v (stT s).t (stR (stR s))), [], stR (v (stT s).t (stR (stR s))).2.2)
    else if (stT (v (stT s).t (stR (stR s))).2.2).k.toNat = 125 then (0, acc ++ (v (stT s).t (stR (stR s))).2.1, stR (v (stT s).t (stR (stR s))).2.2)
    else ack v n (stR (v (stT s).t (stR (stR s))).2.2) (ks ++ [(stT s).t]) (acc ++ (v (stT s).t (stR (stR s))).2.1)
def aec (v : VD) (en : Nat) (s : Sx) : RD :=
  if stE s = 0 ∧ (stT s).k.toNat = en then (0, [], stR s) else if en = 125 then ack v (s.1.length + 1) s [] [] else ad2 v (s.1.length + 1) s []
def aay : Nat → VD
  | 0, key, s => if stE s ≠ 0 then (stE s, [], s) else if (stT s).k.toNat = 123 ∨ (stT s).k.toNat = 91 then (33, [], s) else if ach (stT s).k = true then (3, [], s) else (0, [⟨(stT s).k, key, (stT s).t, 1⟩], stR s)
  | k + 1, key, s =>
    if stE s ≠ 0 then (stE s, [], s)
    else if (stT s).k.toNat = 123 ∨ (stT s).k.toNat = 91 then
      ((aec (aay k) ((stT s).k.toNat + 2) (stR s)).1, ⟨(stT s).k, key, [], (aec (aay k) ((stT s).k.toNat + 2) (stR s)).2.1.length + 1⟩ :: (aec (aay k) ((stT s).k.toNat + 2) (stR s)).2.1, (aec (aay k) ((stT s).k.toNat + 2) (stR s)).2.2)
    else if ach (stT s).k = true then (3, [], s) else (0, [⟨(stT s).k, key, (stT s).t, 1⟩], stR s)
structure Sm2 (r : RT) (d : RD) : Prop where
  e : d.1 = r.1
  l : r.1 = 0 → d.2.1 = r.2.1
  c : r.1 = 0 → d.2.2 = aeb r.2.2
theorem Sm2.a4y {k : Int} {l l' : List Nd} {c : Cu} {s : Sx} (h : k ≠ 0) : Sm2 (k, l, c) (k, l', s) := ⟨rfl, fun q => absurd q h, fun q => absurd q h⟩
theorem Sm2.err {r : RT} {d : RD} (h : d.1 = r.1) (h0 : r.1 ≠ 0) : Sm2 r d := ⟨h, fun q => absurd q h0, fun q => absurd q h0⟩
def bc3 (vd : VD) : Prop := ∀ key s, (vd key s).1 = 0 → (vd key s).2.2.1.length + 1 ≤ s.1.length
theorem agy {s : Sx} (h : stE s = 0) : 0 < s.1.length := by
  unfold stE at h
  split at h
  · assumption
  · split at h
    · cases h
    · contradiction
theorem ab5 (s : Sx) : (stR s).1.length = s.1.length - 1 := by show (s.1.drop 1).length = _; rw [List.length_drop]
theorem a0k {vd : VD} (hv : bc3 vd) : ∀ (n : Nat) (s : Sx) (acc : List Nd), (ad2 vd n s acc).1 = 0 → (ad2 vd n s acc).2.2.1.length ≤ s.1.length
  | 0, _, _, h => by rw [ad2] at h; cases h
  | n + 1, s, acc, h => by
    rw [ad2] at h ⊢
    by_cases h1 : (vd [] s).1 ≠ 0
    · rw [if_pos h1] at h; exact absurd h h1
    rw [if_neg h1] at h ⊢
    have q1 := hv [] s (by omega)
    by_cases h2 : bhD 93 (vd [] s) ≠ 0
    · rw [if_pos h2] at h; exact absurd h h2
    rw [if_neg h2] at h ⊢
    have q2 := ab5 (vd [] s).2.2
    by_cases h3 : (stT (vd [] s).2.2).k.toNat = 93
    · rw [if_pos h3]; show (stR (vd [] s).2.2).1.length ≤ _; omega
    rw [if_neg h3] at h ⊢
    have := a0k hv n _ _ h
    omega
theorem a0l {vd : VD} (hv : bc3 vd) : ∀ (n : Nat) (s : Sx) (ks : List (List UInt8)) (acc : List Nd), (ack vd n s ks acc).1 = 0 → (ack vd n s ks acc).2.2.1.length ≤ s.1.length
  | 0, _, _, _, h => by rw [ack] at h; cases h
  | n + 1, s, ks, acc, h => by
    rw [ack] at h ⊢
    by_cases h0 : apq s ks ≠ 0
    · rw [if_pos h0] at h; exact absurd h h0
    rw [if_neg h0] at h ⊢
    by_cases h4 : avm (stR s) ≠ 0
    · rw [if_pos h4] at h; exact absurd h h4
    rw [if_neg h4] at h ⊢
    by_cases h1 : (vd (stT s).t (stR (stR s))).1 ≠ 0
    · rw [if_pos h1] at h; exact absurd h h1
    rw [if_neg h1] at h ⊢
    have q1 := hv (stT s).t (stR (stR s)) (by omega)
    have q3 := ab5 s
    have q4 := ab5 (stR s)
    by_cases h2 : bhD 125 (vd (stT s).t (stR (stR s))) ≠ 0
    · rw [if_pos h2] at h; exact absurd h h2
    rw [if_neg h2] at h ⊢
    have q2 := ab5 (vd (stT s).t (stR (stR s))).2.2
    by_cases h3 : (stT (vd (stT s).t (stR (stR s))).2.2).k.toNat = 125
    · rw [if_pos h3]; show (stR (vd (stT s).t (stR (stR s))).2.2).1.length ≤ _; omega
    rw [if_neg h3] at h ⊢
    have := a0l hv n _ _ _ h
    omega
theorem a9i {vd : VD} (hv : bc3 vd) {en : Nat} {s : Sx} (h : (aec vd en s).1 = 0) : (aec vd en s).2.2.1.length ≤ s.1.length := by
  unfold aec at h ⊢
  by_cases h1 : stE s = 0 ∧ (stT s).k.toNat = en
  · rw [if_pos h1]; have := ab5 s; show (stR s).1.length ≤ _; omega
  rw [if_neg h1] at h ⊢
  by_cases h2 : en = 125
  · rw [if_pos h2] at h ⊢; exact a0l hv _ _ _ _ h
  · rw [if_neg h2] at h ⊢; exact a0k hv _ _ _ h
theorem atc : ∀ k, bc3 (aay k)
  | 0 => fun key s h => by
    rw [aay] at h ⊢
    by_cases h1 : stE s ≠ 0
    · rw [if_pos h1] at h; exact absurd h h1
    rw [if_neg h1] at h ⊢
    have h0 := agy (s := s) (by omega)
    by_cases h2 : (stT s).k.toNat = 123 ∨ (stT s).k.toNat = 91
    · rw [if_pos h2] at h; cases h
    rw [if_neg h2] at h ⊢
    by_cases h3 : ach (stT s).k = true
    · rw [if_pos h3] at h; cases h
    rw [if_neg h3]
    have := ab5 s
    show (stR s).1.length + 1 ≤ _
    omega
  | k + 1 => fun key s h => by
    rw [aay] at h ⊢
    by_cases h1 : stE s ≠ 0
    · rw [if_pos h1] at h; exact absurd h h1
    rw [if_neg h1] at h ⊢
    have h0 := agy (s := s) (by omega)
    have hr := ab5 s
    by_cases h2 : (stT s).k.toNat = 123 ∨ (stT s).k.toNat = 91
    · rw [if_pos h2] at h ⊢
      have := a9i (atc k) h
      show (aec (aay k) ((stT s).k.toNat + 2) (stR s)).2.2.1.length + 1 ≤ _
      omega
    rw [if_neg h2] at h ⊢
    by_cases h3 : ach (stT s).k = true
    · rw [if_pos h3] at h; cases h
    rw [if_neg h3]
    show (stR s).1.length + 1 ≤ _
    omega
def SmV (v : VF) (vd : VD) : Prop := ∀ c key, c.live → c.tkE = 0 → Sm2 (v c.next.2 key c.next.1) (vd key (aeb c))
def ErV (vd : VD) : Prop := ∀ key s, stE s ≠ 0 → (vd key s).1 = stE s
theorem ayd : ∀ k, ErV (aay k)
  | 0 => fun key s h => by rw [aay, if_pos h]
  | k + 1 => fun key s h => by rw [aay, if_pos h]
theorem a16 {v : VF} {vd : VD} (hf : a2a v) (hl : bc3 vd) (he : ErV vd) (hv : SmV v vd) : ∀ (n m : Nat) (b : Cu) (acc : List Nd), b.live → b.tkE = 0 → b.next.1.e - b.next.1.p + 1 ≤ n → (aeb b).1.length + 1 ≤ m →
    Sm2 (af7 v n b.next.2 b.next.1 acc) (ad2 vd m (aeb b) acc)
  | 0, _, _, _, _, _, h, _ => absurd h (by omega)
  | _ + 1, 0, _, _, _, _, _, h => absurd h (by omega)
  | n + 1, m + 1, b, acc, hb, h0, hn, hm => by
    obtain ⟨a1, a2, a3, a4, _⟩ := abi hb h0
    have hs := hv b [] hb h0
    have hlen := hl [] (aeb b)
    rw [af7, ad2]
    by_cases h1 : (v b.next.2 [] b.next.1).1 ≠ 0
    · rw [if_pos h1, if_pos (show (vd [] (aeb b)).1 ≠ 0 by rw [hs.e]; exact h1)]
      exact Sm2.err hs.e h1
    rw [if_neg h1, if_neg (show ¬ (vd [] (aeb b)).1 ≠ 0 by rw [hs.e]; exact h1)]
    have h1' : (v b.next.2 [] b.next.1).1 = 0 := by omega
    have f := hf b.next.2 [] b.next.1 a1 h1'
    have hc := hs.c h1'
    have hll := hs.l h1'
    have hlen := hlen (by rw [hs.e]; exact h1')
    generalize v b.next.2 [] b.next.1 = r at *
    generalize vd [] (aeb b) = d at *
    have hq := aia f.live
    unfold bhD
    rw [hc]
    rw [hc] at hlen
    rw [hq]
    by_cases h2 : r.2.2.tkE ≠ 0
    · rw [if_pos h2, if_pos h2, if_pos h2]
      exact Sm2.a4y h2
    have h2' : r.2.2.tkE = 0 := by omega
    obtain ⟨t1, t2⟩ := ao8 f.live h2'
    obtain ⟨l1, l2, l3, l4, _⟩ := abi f.live h2'
    rw [if_neg h2, if_neg h2, t1, t2]
    by_cases h3 : r.2.2.next.2.k.toNat = 93
    · rw [if_pos h3, if_pos h3, if_neg (show ¬ (0 : Int) ≠ 0 by simp), if_pos h3, hll]
      exact ⟨rfl, fun _ => rfl, fun _ => rfl⟩
    rw [if_neg h3, if_neg h3, if_neg h3]
    by_cases h4 : r.2.2.next.2.k.toNat ≠ 44
    · rw [if_pos h4, if_pos h4, if_pos (by decide)]
      exact Sm2.a4y (by decide)
    rw [if_neg h4, if_neg h4, if_neg (show ¬ (0 : Int) ≠ 0 by simp)]
    have hsl := ab5 (aeb r.2.2)
    rw [t2] at hsl
    have hpos := agy (s := aeb r.2.2) (by rw [hq]; exact h2')
    have fp := f.p; have fe := f.e; have fs := f.s
    by_cases h5 : r.2.2.next.1.tkE ≠ 0
    · rw [if_pos h5]
      obtain ⟨m', rfl⟩ : ∃ m', m = m' + 1 := ⟨m - 1, by omega⟩
      have hx := aia l1
      have hx2 := he [] (aeb r.2.2.next.1) (by rw [hx]; exact h5)
      rw [ad2, if_pos (by rw [hx2, hx]; exact h5)]
      exact Sm2.err (by rw [hx2, hx]) h5
    rw [if_neg h5]
    rw [hll]
    obtain ⟨m1, m2, m3, m4, _⟩ := abi l1 (by omega)
    have hpe := m1.1.1
    rw [m3, l3, fe] at hpe
    exact a16 hf hl he hv n m _ _ l1 (by omega) (by rw [m3, l3, fe]; omega) (by omega)
theorem a1d {v : VF} {vd : VD} (hf : a2a v) (hl : bc3 vd) (he : ErV vd) (hv : SmV v vd) : ∀ (n m : Nat) (b : Cu) (ks : List (List UInt8)) (acc : List Nd), b.live → b.tkE = 0 → b.next.1.e - b.next.1.p + 1 ≤ n → (aeb b).1.length + 1 ≤ m →
    Sm2 (af9 v n b.next.2 b.next.1 ks acc) (ack vd m (aeb b) ks acc)
  | 0, _, _, _, _, _, _, h, _ => absurd h (by omega)
  | _ + 1, 0, _, _, _, _, _, _, h => absurd h (by omega)
  | n + 1, m + 1, b, ks, acc, hb, h0, hn, hm => by
    obtain ⟨a1, a2, a3, a4, _⟩ := abi hb h0
    obtain ⟨t1, t2⟩ := ao8 hb h0
    have hsb := aia hb
    have hsc := aia a1
    rw [af9, ack]
    unfold aop apq
    rw [hsb, if_neg (show ¬ b.tkE ≠ 0 by omega), t1, t2]
    by_cases g1 : b.next.2.k.toNat ≠ 115
    · rw [if_pos g1, if_pos g1, if_pos (by decide), if_pos (by decide)]
      exact Sm2.a4y (by decide)
    rw [if_neg g1, if_neg g1]
    by_cases g2 : b.next.2.t ∈ ks
    · rw [if_pos g2, if_pos g2, if_pos (by decide), if_pos (by decide)]
      exact Sm2.a4y (by decide)
    rw [if_neg g2, if_neg g2, if_neg (show ¬ (0 : Int) ≠ 0 by simp)]
    unfold avm
    rw [hsc]
    by_cases g3 : b.next.1.tkE ≠ 0
    · rw [if_pos g3, if_pos g3, if_pos g3, if_pos g3]
      exact Sm2.a4y g3
    obtain ⟨u1, u2⟩ := ao8 a1 (by omega)
    obtain ⟨c1, c2, c3, c4, _⟩ := abi a1 (by omega)
    rw [if_neg g3, if_neg g3, u1, u2]
    by_cases g4 : b.next.1.next.2.k.toNat ≠ 58
    · rw [if_pos g4, if_pos g4, if_pos (by decide), if_pos (by decide)]
      exact Sm2.a4y (by decide)
    rw [if_neg g4, if_neg g4, if_neg (show ¬ (0 : Int) ≠ 0 by simp)]
    have hsd := aia c1
    by_cases g5 : b.next.1.next.1.tkE ≠ 0
    · have hx := he b.next.2.t (aeb b.next.1.next.1) (by rw [hsd]; exact g5)
      rw [if_pos g5, if_pos (by rw [hx, hsd]; exact g5)]
      exact Sm2.err (by rw [hx, hsd]) g5
    rw [if_neg g5]
    have hs := hv b.next.1.next.1 b.next.2.t c1 (by omega)
    have hlen := hl b.next.2.t (aeb b.next.1.next.1)
    obtain ⟨d1, d2, d3, d4, _⟩ := abi c1 (by omega)
    have hk1 := ab5 (aeb b)
    rw [t2] at hk1
    have hk2 := ab5 (aeb b.next.1)
    rw [u2] at hk2
    have f : (ai7 v b.next.2 b.next.1).1 = 0 → Fit b.next.1.next.1.next.1 (ai7 v b.next.2 b.next.1) := fun h => hf _ _ _ d1 h
    have hs : Sm2 (ai7 v b.next.2 b.next.1) (vd b.next.2.t (aeb b.next.1.next.1)) := hs
    by_cases h1 : (ai7 v b.next.2 b.next.1).1 ≠ 0
    · rw [if_pos h1, if_pos (show (vd b.next.2.t (aeb b.next.1.next.1)).1 ≠ 0 by rw [hs.e]; exact h1)]
      exact Sm2.err hs.e h1
    rw [if_neg h1, if_neg (show ¬ (vd b.next.2.t (aeb b.next.1.next.1)).1 ≠ 0 by rw [hs.e]; exact h1)]
    have h1' : (ai7 v b.next.2 b.next.1).1 = 0 := by omega
    have f := f h1'
    have hc := hs.c h1'
    have hll := hs.l h1'
    have hlen := hlen (by rw [hs.e]; exact h1')
    generalize ai7 v b.next.2 b.next.1 = r at *
    generalize vd b.next.2.t (aeb b.next.1.next.1) = d at *
    have hq := aia f.live
    unfold bhD
    rw [hc]
    rw [hc] at hlen
    rw [hq]
    by_cases h2 : r.2.2.tkE ≠ 0
    · rw [if_pos h2, if_pos h2, if_pos h2]
      exact Sm2.a4y h2
    have h2' : r.2.2.tkE = 0 := by omega
    obtain ⟨v1, v2⟩ := ao8 f.live h2'
    obtain ⟨l1, l2, l3, l4, _⟩ := abi f.live h2'
    rw [if_neg h2, if_neg h2, v1, v2]
    by_cases h3 : r.2.2.next.2.k.toNat = 125
    · rw [if_pos h3, if_pos h3, if_neg (show ¬ (0 : Int) ≠ 0 by simp), if_pos h3, hll]
      exact ⟨rfl, fun _ => rfl, fun _ => rfl⟩
    rw [if_neg h3, if_neg h3, if_neg h3]
    by_cases h4 : r.2.2.next.2.k.toNat ≠ 44
    · rw [if_pos h4, if_pos h4, if_pos (by decide)]
      exact Sm2.a4y (by decide)
    rw [if_neg h4, if_neg h4, if_neg (show ¬ (0 : Int) ≠ 0 by simp)]
    have hsl := ab5 (aeb r.2.2)
    rw [v2] at hsl
    have hpos := agy (s := aeb r.2.2) (by rw [hq]; exact h2')
    have fp := f.p; have fe := f.e; have fs := f.s
    by_cases h5 : r.2.2.next.1.tkE ≠ 0
    · rw [if_pos h5]
      obtain ⟨m', rfl⟩ : ∃ m', m = m' + 1 := ⟨m - 1, by omega⟩
      have hx := aia l1
      rw [ack]
      unfold apq
      rw [hx, if_pos h5, if_pos h5]
      exact Sm2.a4y h5
    rw [if_neg h5]
    rw [hll]
    obtain ⟨m1, m2, m3, m4, _⟩ := abi l1 (by omega)
    have hpe := m1.1.1
    rw [m3, l3, fe, d3, c3] at hpe
    exact a1d hf hl he hv n m _ _ _ l1 (by omega) (by rw [m3, l3, fe, d3, c3]; omega) (by omega)
theorem bdk {v : VF} {vd : VD} (hf : a2a v) (hl : bc3 vd) (he : ErV vd) (hv : SmV v vd) {c : Cu} (hc : c.live) : Sm2 (aff v c) (aec vd 93 (aeb c)) := by
  have hs := aia hc
  unfold aff aec
  rw [hs]
  by_cases h1 : c.tkE ≠ 0
  · rw [if_pos h1, if_neg (fun q => h1 q.1), if_neg (by decide)]
    have hx := he [] (aeb c) (by rw [hs]; exact h1)
    rw [ad2, if_pos (by rw [hx, hs]; exact h1)]
    exact Sm2.err (by rw [hx, hs]) h1
  obtain ⟨t1, t2⟩ := ao8 hc (by omega)
  rw [if_neg h1, t1, t2]
  by_cases h3 : c.next.2.k.toNat = 93
  · rw [if_pos h3, if_pos ⟨by omega, h3⟩]
    exact ⟨rfl, fun _ => rfl, fun _ => rfl⟩
  rw [if_neg h3, if_neg (fun q => h3 q.2), if_neg (by decide)]
  exact a16 hf hl he hv _ _ c [] hc (by omega) (Nat.le_refl _) (Nat.le_refl _)
theorem bdl {v : VF} {vd : VD} (hf : a2a v) (hl : bc3 vd) (he : ErV vd) (hv : SmV v vd) {c : Cu} (hc : c.live) : Sm2 (af8 v c) (aec vd 125 (aeb c)) := by
  have hs := aia hc
  unfold af8 aec
  rw [hs]
  by_cases h1 : c.tkE ≠ 0
  · rw [if_pos h1, if_neg (fun q => h1 q.1), if_pos rfl]
    rw [ack]
    unfold apq
    rw [hs, if_pos h1, if_pos h1]
    exact Sm2.err rfl h1
  obtain ⟨t1, t2⟩ := ao8 hc (by omega)
  rw [if_neg h1, t1, t2]
  by_cases h3 : c.next.2.k.toNat = 125
  · rw [if_pos h3, if_pos ⟨by omega, h3⟩]
    exact ⟨rfl, fun _ => rfl, fun _ => rfl⟩
  rw [if_neg h3, if_neg (fun q => h3 q.2), if_pos rfl]
  exact a1d hf hl he hv _ _ c [] [] hc (by omega) (Nat.le_refl _) (Nat.le_refl _)
theorem awj {x : CO} {k : UInt8} (h : (held x k).2.k ≠ 0) : (held x k).2.k = k := by
  unfold held at h ⊢
  dsimp only at h ⊢
  split
  · rfl
  · rename_i q; rw [if_neg q] at h; exact absurd rfl h
theorem at4 {c : Cu} {k : UInt8} (h : (c.afk k).2.k ≠ 0) : (c.afk k).2.k = k := by
  unfold Cu.afk at h ⊢
  split
  · rename_i q; rw [if_pos q] at h; exact absurd rfl h
  · rfl
theorem a8w {d : Cu} (h : d.a1z.2.k ≠ 0) : (ach d.a1z.2.k = true ∧ d.a1z.2.t = []) ∨ (aib d.a1z.2.k = true ∧ ach d.a1z.2.k = false) := by
  have leaf : ∀ k : UInt8, (k = 115 ∨ k = 110 ∨ k = 116 ∨ k = 102 ∨ k = 122) → aib k = true ∧ ach k = false := by
    intro k hk
    rcases hk with rfl | rfl | rfl | rfl | rfl <;> decide
  unfold Cu.a1z at h ⊢
  by_cases h1 : d.p = d.e
  · rw [if_pos h1] at h; exact absurd rfl h
  rw [if_neg h1] at h ⊢
  by_cases h2 : ach d.get = true
  · rw [if_pos h2]; exact .inl ⟨h2, rfl⟩
  rw [if_neg h2] at h ⊢
  by_cases h3 : d.get.toNat = 34
  · rw [if_pos h3] at h ⊢; rw [awj h]; exact .inr (leaf _ (.inl rfl))
  rw [if_neg h3] at h ⊢
  by_cases h4 : d.get.toNat = 45 ∨ anu d.get = true
  · rw [if_pos h4] at h ⊢; rw [awj h]; exact .inr (leaf _ (.inr (.inl rfl)))
  rw [if_neg h4] at h ⊢
  by_cases h5 : d.get.toNat = 116 ∨ d.get.toNat = 102
  · rw [if_pos h5] at h ⊢
    rw [at4 h]
    refine .inr (leaf _ ?_)
    rcases h5 with h5 | h5
    · exact .inr (.inr (.inl (UInt8.toNat_inj.1 h5)))
    · exact .inr (.inr (.inr (.inl (UInt8.toNat_inj.1 h5))))
  rw [if_neg h5] at h ⊢
  by_cases h6 : d.get.toNat = 110
  · rw [if_pos h6] at h ⊢; rw [at4 h]; exact .inr (leaf _ (.inr (.inr (.inr (.inr rfl)))))
  rw [if_neg h6] at h; exact absurd rfl h
theorem ax2 {c : Cu} (hc : c.live) (h : c.tkE = 0) : (ach c.next.2.k = true ∧ c.next.2.t = []) ∨ (aib c.next.2.k = true ∧ ach c.next.2.k = false) := by
  obtain ⟨l, _, _, _, hn⟩ := abi hc h
  have h2 : c.aan.2.k ≠ 0 := by
    unfold Cu.tkE at h
    split at h
    · rename_i q; exact absurd h q
    · split at h
      · cases h
      · rename_i q; rw [← hn]; exact q
  rw [hn]
  unfold Cu.aan at h2 ⊢
  rw [if_neg (show ¬ c.c ≠ 0 from fun q => q hc.2.1)] at h2 ⊢
  exact a8w h2
theorem a1r {k : UInt8} (h : ach k = true) : aib k = false := by
  unfold ach at h
  have h := of_decide_eq_true h
  unfold aib
  exact decide_eq_false (by omega)
theorem a8m {k : UInt8} (h : k.toNat = 123 ∨ k.toNat = 91) : ach k = true := decide_eq_true (by omega)
theorem az7 : ∀ k, SmV (gv k) (aay k)
  | 0 => fun c key hc h0 => by
    have hs := aia hc
    obtain ⟨t1, t2⟩ := ao8 hc h0
    have hk := ax2 hc h0
    rw [gv, aay, hs, if_neg (show ¬ c.tkE ≠ 0 by omega), t1, t2]
    by_cases h1 : c.next.2.k.toNat = 123 ∨ c.next.2.k.toNat = 91
    · rw [if_pos h1, if_pos h1]; exact Sm2.a4y (by decide)
    rw [if_neg h1, if_neg h1]
    rcases hk with ⟨q1, q2⟩ | ⟨q1, q2⟩
    · rw [if_neg (by rw [a1r q1]; decide), if_pos q1]; exact Sm2.a4y (by decide)
    · rw [if_pos q1, if_neg (by rw [q2]; decide)]; exact ⟨rfl, fun _ => rfl, fun _ => rfl⟩
  | k + 1 => fun c key hc h0 => by
    have hs := aia hc
    obtain ⟨t1, t2⟩ := ao8 hc h0
    have hk := ax2 hc h0
    obtain ⟨a1, _⟩ := abi hc h0
    rw [gv, aay, hs, if_neg (show ¬ c.tkE ≠ 0 by omega), t1, t2]
    have ho := bdl (aev k) (atc k) (ayd k) (az7 k) a1
    have hl := bdk (aev k) (atc k) (ayd k) (az7 k) a1
    by_cases h1 : c.next.2.k.toNat = 123
    · rw [if_pos h1, if_pos (.inl h1), h1]
      rcases hk with ⟨_, q2⟩ | ⟨_, q2⟩
      · refine ⟨ho.e, fun h => ?_, fun h => ho.c h⟩
        show _ :: _ = _ :: _
        rw [ho.l h, q2]
      · rw [a8m (.inl h1)] at q2; cases q2
    rw [if_neg h1]
    by_cases h2 : c.next.2.k.toNat = 91
    · rw [if_pos h2, if_pos (.inr h2), h2]
      rcases hk with ⟨_, q2⟩ | ⟨_, q2⟩
      · refine ⟨hl.e, fun h => ?_, fun h => hl.c h⟩
        show _ :: _ = _ :: _
        rw [hl.l h, q2]
      · rw [a8m (.inr h2)] at q2; cases q2
    rw [if_neg h2, if_neg (show ¬ (c.next.2.k.toNat = 123 ∨ c.next.2.k.toNat = 91) from fun q => q.elim h1 h2)]
    rcases hk with ⟨q1, q2⟩ | ⟨q1, q2⟩
    · rw [if_neg (by rw [a1r q1]; decide), if_pos q1]; exact Sm2.a4y (by decide)
    · rw [if_pos q1, if_neg (by rw [q2]; decide)]; exact ⟨rfl, fun _ => rfl, fun _ => rfl⟩
def af0 (s : List UInt8) : Int :=
  if (Cu.new s).tkE ≠ 0 then (Cu.new s).tkE
  else if (gv 32 (Cu.new s).next.2 [] (Cu.new s).next.1).1 ≠ 0 then (gv 32 (Cu.new s).next.2 [] (Cu.new s).next.1).1
  else if (gv 32 (Cu.new s).next.2 [] (Cu.new s).next.1).2.2.next.2.k ≠ 0 ∨ (gv 32 (Cu.new s).next.2 [] (Cu.new s).next.1).2.2.next.1.c ≠ 0 then 2 else 0
def ajv (s : List UInt8) : List Nd := if af0 s = 0 then (gv 32 (Cu.new s).next.2 [] (Cu.new s).next.1).2.1 else []
def aeh (s : List UInt8) : Int :=
  if (aay 32 [] (aeb (.new s))).1 ≠ 0 then (aay 32 [] (aeb (.new s))).1
  else if (aay 32 [] (aeb (.new s))).2.2.1.length > 0 ∨ (aay 32 [] (aeb (.new s))).2.2.2 ≠ 0 then 2 else 0
def ah4 (s : List UInt8) : List Nd := if aeh s = 0 then (aay 32 [] (aeb (.new s))).2.1 else []
theorem a1s {c : Cu} (h : c.live) : (c.next.2.k ≠ 0 ∨ c.next.1.c ≠ 0) ↔ ((aeb c).1.length > 0 ∨ (aeb c).2 ≠ 0) := by
  by_cases h0 : c.tkE = 0
  · rw [a09 h h0]
    have hk : c.next.2.k ≠ 0 := by
      unfold Cu.tkE at h0
      split at h0
      · rename_i q; exact absurd h0 q
      · split at h0
        · cases h0
        · assumption
    exact ⟨fun _ => .inl (by simp), fun _ => .inl hk⟩
  · have hs := apy h.1
    obtain ⟨h1, _⟩ := a1t h h0
    rw [h1]
    unfold Cu.tkE at h0
    by_cases h2 : c.next.1.c ≠ 0
    · refine ⟨fun _ => .inr ?_, fun _ => .inr h2⟩
      unfold aeb
      rw [aez, if_pos (by rw [← hs.2.1]; exact h2), ← hs.2.1]
      exact h2
    · rw [if_neg h2] at h0
      have hk : c.next.2.k = 0 := by
        by_cases q : c.next.2.k = 0
        · exact q
        · rw [if_neg q] at h0; exact absurd rfl h0
      refine ⟨fun q => ?_, fun q => ?_⟩
      · rcases q with q | q
        · exact absurd hk q
        · exact absurd q h2
      · rcases q with q | q
        · simp at q
        · exfalso
          apply q
          unfold aeb
          rw [aez, if_neg (by rw [← hs.2.1]; exact h2), if_pos (by rw [← hs.1]; exact hk)]
theorem ag9 {s : List UInt8} (h : s.length ≤ 10000000) : aeh s = af0 s ∧ ah4 s = ajv s := by
  have hc : (Cu.new s).live := ⟨⟨Nat.zero_le _, Nat.le_refl _⟩, rfl, h⟩
  have hs := aia hc
  have key : aeh s = af0 s ∧ (af0 s = 0 → (aay 32 [] (aeb (.new s))).2.1 = (gv 32 (Cu.new s).next.2 [] (Cu.new s).next.1).2.1) := by
    unfold aeh af0
    by_cases h1 : (Cu.new s).tkE ≠ 0
    · have hx := ayd 32 [] (aeb (.new s)) (by rw [hs]; exact h1)
      rw [if_pos h1, if_pos (by rw [hx, hs]; exact h1), hx, hs]
      exact ⟨rfl, fun q => absurd q h1⟩
    rw [if_neg h1]
    have hv := az7 32 (.new s) [] hc (by omega)
    obtain ⟨a1, _⟩ := abi hc (by omega)
    by_cases h2 : (gv 32 (Cu.new s).next.2 [] (Cu.new s).next.1).1 ≠ 0
    · rw [if_pos h2, if_pos (by rw [hv.e]; exact h2)]
      exact ⟨hv.e, fun q => absurd q h2⟩
    have h2' : (gv 32 (Cu.new s).next.2 [] (Cu.new s).next.1).1 = 0 := by omega
    rw [if_neg h2, if_neg (by rw [hv.e]; exact h2), hv.c h2']
    have f := aev 32 _ [] _ a1 h2'
    refine ⟨?_, fun _ => hv.l h2'⟩
    by_cases h3 : (gv 32 (Cu.new s).next.2 [] (Cu.new s).next.1).2.2.next.2.k ≠ 0 ∨ (gv 32 (Cu.new s).next.2 [] (Cu.new s).next.1).2.2.next.1.c ≠ 0
    · rw [if_pos h3, if_pos ((a1s f.live).1 h3)]
    · rw [if_neg h3, if_neg (fun q => h3 ((a1s f.live).2 q))]
  refine ⟨key.1, ?_⟩
  unfold ah4 ajv
  rw [key.1]
  by_cases h0 : af0 s = 0
  · rw [if_pos h0, if_pos h0, key.2 h0]
  · rw [if_neg h0, if_neg h0]
end Go.Proofs.Ytllncocibkgjkaa
