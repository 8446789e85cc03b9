/-
  A part of the proof.
-/
import Derived.Test.YtllncocibkgjkaaTRy
set_option linter.unusedSimpArgs false
set_option linter.unusedVariables false
set_option maxHeartbeats 4000000
namespace Go.Proofs.Ytllncocibkgjkaa
open Go Go.VG
set_option maxRecDepth 100000
theorem wV {c : Cu} (hc : c.live) (h : c.av = 0) : jo c.next.2 ∧ c.next.2.t.length ≤ 4 * c.s.length := by
 obtain ⟨_, _, _, _, hn⟩ := aX hc h
 have h2 : c.aJ.2.k ≠ 0 := by
  unfold Cu.av at h
  split at h
  . rename_i q; exact absurd h q
  . split at h
    . cases h
    . rename_i q; rw [← hn]; exact q
 rw [hn]
 exact ⟨HO hc.1 h2, HN hc.1⟩
structure i7 (d m : Nat) (x : It) : Prop where
 t : TT d x.1 x.2
 n : NbL m x.1
def VTT (d : Nat) : Prop := ∀ (m : Nat) (c : Cu) (key : List UInt8), c.live → c.av = 0 → 4 * c.s.length ≤ m → key.length ≤ m → (gv d c.next.2 key c.next.1).1 = 0 → ∃ x, i7 d m ((gv d c.next.2 key c.next.1).2.1, x) ∧ bV ((gv d c.next.2 key c.next.1).2.1, x) = key
theorem zd {d : Nat} (hv : VTT d) {m : Nat} : ∀ (n : Nat) (c : Cu) (acc : List Nd) (its : List It), c.live → c.av = 0 → 4 * c.s.length ≤ m → acc = aK its → (∀ x ∈ its, i7 d m x ∧ bV x = []) → (dP (gv d) n c.next.2 c.next.1 acc).1 = 0 →
   ∃ l, (dP (gv d) n c.next.2 c.next.1 acc).2.1 = aK l ∧ ∀ x ∈ l, i7 d m x ∧ bV x = []
 | 0, _, _, _, _, _, _, _, _, h => by rw [dP] at h; cases h
 | n + 1, c, acc, its, hc, h0, hm, ha, hi, h => by
   rw [dP] at h ⊢
   obtain ⟨t1, t2, _⟩ := aX hc h0
   by_cases h1 : (gv d c.next.2 [] c.next.1).1 ≠ 0
   . rw [if_pos h1] at h; exact absurd h h1
   rw [if_neg h1] at h ⊢
   have f1 := eV d c.next.2 [] c.next.1 t1 (by omega)
   obtain ⟨x, hx, hk⟩ := hv m c [] hc h0 hm (Nat.zero_le _) (by omega)
   have hi2 : ∀ y ∈ its ++ [((gv d c.next.2 [] c.next.1).2.1, x)], i7 d m y ∧ bV y = [] := fun y hy => by
    rcases List.mem_append.1 hy with hy | hy
    . exact hi y hy
    . rw [List.mem_singleton] at hy; rw [hy]; exact ⟨hx, hk⟩
   have ha2 : acc ++ (gv d c.next.2 [] c.next.1).2.1 = aK (its ++ [((gv d c.next.2 [] c.next.1).2.1, x)]) := by
    rw [tR, ha]; show _ = _ ++ (_ ++ []); rw [List.append_nil]
   by_cases h2 : (gv d c.next.2 [] c.next.1).2.2.av ≠ 0
   . rw [if_pos h2] at h; exact absurd h h2
   rw [if_neg h2] at h ⊢
   obtain ⟨l1, l2, _⟩ := aX f1.live (by omega)
   have fs := f1.s
   by_cases h3 : (gv d c.next.2 [] c.next.1).2.2.next.2.k.toNat = 93
   . rw [if_pos h3]
     exact ⟨_, ha2, hi2⟩
   rw [if_neg h3] at h ⊢
   by_cases h4 : (gv d c.next.2 [] c.next.1).2.2.next.2.k.toNat ≠ 44
   . rw [if_pos h4] at h; cases h
   rw [if_neg h4] at h ⊢
   by_cases h5 : (gv d c.next.2 [] c.next.1).2.2.next.1.av ≠ 0
   . rw [if_pos h5] at h; exact absurd h h5
   rw [if_neg h5] at h ⊢
   exact zd hv n _ _ _ l1 (by omega) (by rw [l2, fs, t2]; exact hm) ha2 hi2 h
theorem zl {d : Nat} (hv : VTT d) {m : Nat} : ∀ (n : Nat) (c : Cu) (ks : List (List UInt8)) (acc : List Nd) (its : List It), c.live → c.av = 0 → 4 * c.s.length ≤ m → acc = aK its → ks = its.map bV → ks.Nodup → (∀ x ∈ its, i7 d m x ∧ cK (bV x)) → (ep (gv d) n c.next.2 c.next.1 ks acc).1 = 0 →
   ∃ l, (ep (gv d) n c.next.2 c.next.1 ks acc).2.1 = aK l ∧ (l.map bV).Nodup ∧ ∀ x ∈ l, i7 d m x ∧ cK (bV x)
 | 0, _, _, _, _, _, _, _, _, _, _, _, h => by rw [ep] at h; cases h
 | n + 1, c, ks, acc, its, hc, h0, hm, ha, hks, hnd, hi, h => by
   rw [ep] at h ⊢
   obtain ⟨t1, t2, _⟩ := aX hc h0
   by_cases a0 : d8 c.next.2 c.next.1 ks ≠ 0
   . rw [if_pos a0] at h; exact absurd h a0
   rw [if_neg a0] at h ⊢
   obtain ⟨m1, m2, m3, m4, m5⟩ := rL (t := c.next.2) (ks := ks) t1 (by omega)
   obtain ⟨a1, a2, _⟩ := aX t1 m3
   obtain ⟨b1, b2, _⟩ := aX a1 m5
   by_cases h1 : (bh (gv d) c.next.2 c.next.1).1 ≠ 0
   . rw [if_pos h1] at h; exact absurd h h1
   rw [if_neg h1] at h ⊢
   obtain ⟨r1, r2⟩ := wV hc h0
   have f1 : Fit c.next.1.next.1.next.1 (bh (gv d) c.next.2 c.next.1) := eV d _ _ _ b1 (show (bh (gv d) c.next.2 c.next.1).1 = 0 by omega)
   obtain ⟨x, hx, hk⟩ := hv m c.next.1.next.1 c.next.2.t a1 m5 (by rw [a2, t2]; exact hm) (by omega) (show (bh (gv d) c.next.2 c.next.1).1 = 0 by omega)
   have hx : i7 d m ((bh (gv d) c.next.2 c.next.1).2.1, x) := hx
   have hk : bV ((bh (gv d) c.next.2 c.next.1).2.1, x) = c.next.2.t := hk
   have htx : cK c.next.2.t := by
    rcases r1 with ⟨_, q⟩ | ⟨q, _⟩ | ⟨q, _⟩ | ⟨q, _⟩
    . exact q
    . rw [q] at m1; exact absurd m1 (by decide)
    . have q : c.next.2.k.toNat = 123 ∨ c.next.2.k.toNat = 125 ∨ c.next.2.k.toNat = 91 ∨ c.next.2.k.toNat = 93 ∨ c.next.2.k.toNat = 58 ∨ c.next.2.k.toNat = 44 := of_decide_eq_true q
      omega
    . rcases q with q | q | q <;> (rw [q] at m1; exact absurd m1 (by decide))
   have hi2 : ∀ y ∈ its ++ [((bh (gv d) c.next.2 c.next.1).2.1, x)], i7 d m y ∧ cK (bV y) := fun y hy => by
    rcases List.mem_append.1 hy with hy | hy
    . exact hi y hy
    . rw [List.mem_singleton] at hy; rw [hy]; exact ⟨hx, by rw [hk]; exact htx⟩
   have ha2 : acc ++ (bh (gv d) c.next.2 c.next.1).2.1 = aK (its ++ [((bh (gv d) c.next.2 c.next.1).2.1, x)]) := by
    rw [tR, ha]; show _ = _ ++ (_ ++ []); rw [List.append_nil]
   have hks2 : ks ++ [c.next.2.t] = (its ++ [((bh (gv d) c.next.2 c.next.1).2.1, x)]).map bV := by
    rw [List.map_append, hks]; show _ = _ ++ [bV _]; rw [hk]
   have hnd2 : (ks ++ [c.next.2.t]).Nodup := by
    refine List.nodup_append.2 ⟨hnd, by simp, ?_⟩
    intro a ha b hb e
    rw [List.mem_singleton] at hb
    rw [← hb, ← e] at m2
    exact m2 ha
   by_cases h2 : (bh (gv d) c.next.2 c.next.1).2.2.av ≠ 0
   . rw [if_pos h2] at h; exact absurd h h2
   rw [if_neg h2] at h ⊢
   obtain ⟨l1, l2, _⟩ := aX f1.live (by omega)
   have fs := f1.s
   by_cases h3 : (bh (gv d) c.next.2 c.next.1).2.2.next.2.k.toNat = 125
   . rw [if_pos h3]
     exact ⟨_, ha2, by rw [← hks2]; exact hnd2, hi2⟩
   rw [if_neg h3] at h ⊢
   by_cases h4 : (bh (gv d) c.next.2 c.next.1).2.2.next.2.k.toNat ≠ 44
   . rw [if_pos h4] at h; cases h
   rw [if_neg h4] at h ⊢
   by_cases h5 : (bh (gv d) c.next.2 c.next.1).2.2.next.1.av ≠ 0
   . rw [if_pos h5] at h; exact absurd h h5
   rw [if_neg h5] at h ⊢
   exact zl hv n _ _ _ _ l1 (by omega) (by rw [l2, fs, b2, a2, t2]; exact hm) ha2 hks2 hnd2 hi2 h
theorem Ax {m : Nat} {l : List It} (h : ∀ x ∈ l, NbL m x.1) : NbL m (aK l) := fun z hz => by
 obtain ⟨x, hx, hz⟩ := tS hz
 exact h x hx z hz
theorem A6 {d m : Nat} {t : Tk} {key : List UInt8} (h : jo t) (hl : dd t.k = true) (h1 : t.t.length ≤ m) (h2 : key.length ≤ m) : ∃ x, i7 d m ([⟨t.k, key, t.t, 1⟩], x) ∧ bV (([⟨t.k, key, t.t, 1⟩] : List Nd), x) = key :=
 ⟨_, ⟨.leaf d t.k key t.t h hl, fun z hz => by rw [List.mem_singleton] at hz; rw [hz]; exact ⟨h2, h1⟩⟩, rfl⟩
theorem ua : ∀ d, VTT d
 | 0 => fun m c key hc h0 hm hk h => by
   obtain ⟨r1, r2⟩ := wV hc h0
   rw [gv] at h ⊢
   by_cases h1 : c.next.2.k.toNat = 123 ∨ c.next.2.k.toNat = 91
   . rw [if_pos h1] at h; cases h
   rw [if_neg h1] at h ⊢
   by_cases h2 : dd c.next.2.k = true
   . rw [if_pos h2]; exact A6 r1 h2 (by omega) hk
   . rw [if_neg h2] at h; cases h
 | d + 1 => fun m c key hc h0 hm hk h => by
   obtain ⟨r1, r2⟩ := wV hc h0
   obtain ⟨t1, t2, _⟩ := aX hc h0
   have hnk := uN hc h0
   have hsg : c.next.2.k.toNat = 123 ∨ c.next.2.k.toNat = 91 → c.next.2.t = [] := fun q => by
    rcases hnk with ⟨_, e⟩ | ⟨_, e⟩
    . exact e
    . rw [vr q] at e; cases e
   rw [gv] at h ⊢
   by_cases h1 : c.next.2.k.toNat = 123
   . rw [if_pos h1] at h ⊢
     have e1 : c.next.2.k = 123 := UInt8.toNat_inj.1 (by rw [h1]; rfl)
     rw [hsg (.inl h1), e1]
     have key1 : ∃ l, (b8 (gv d) c.next.1).2.1 = aK l ∧ (l.map bV).Nodup ∧ ∀ x ∈ l, i7 d m x ∧ cK (bV x) := by
      have h : (b8 (gv d) c.next.1).1 = 0 := h
      unfold b8 at h ⊢
      by_cases a1 : c.next.1.av ≠ 0
      . rw [if_pos a1] at h; exact absurd h a1
      rw [if_neg a1] at h ⊢
      by_cases a2 : c.next.1.next.2.k.toNat = 125
      . rw [if_pos a2]; exact ⟨[], rfl, by simp, fun _ hx => by cases hx⟩
      rw [if_neg a2] at h ⊢
      exact zl (ua d) _ _ [] [] [] t1 (by omega) (by rw [t2]; exact hm) rfl rfl (by simp) (fun _ hx => by cases hx) h
     obtain ⟨l, q1, q2, q3⟩ := key1
     show ∃ x, i7 (d + 1) m (⟨123, key, [], ((b8 (gv d) c.next.1).2.1.length : Int) + 1⟩ :: (b8 (gv d) c.next.1).2.1, x) ∧ key = key
     rw [q1]
     refine ⟨_, ⟨.obj d key l (fun x hx => (q3 x hx).1.t) q2 (fun x hx => (q3 x hx).2), fun z hz => ?_⟩, rfl⟩
     rcases List.mem_cons.1 hz with rfl | hz
     . exact ⟨hk, Nat.zero_le _⟩
     . exact Ax (fun x hx => (q3 x hx).1.n) z hz
   rw [if_neg h1] at h ⊢
   by_cases h2 : c.next.2.k.toNat = 91
   . rw [if_pos h2] at h ⊢
     have e1 : c.next.2.k = 91 := UInt8.toNat_inj.1 (by rw [h2]; rfl)
     rw [hsg (.inr h2), e1]
     have key1 : ∃ l, (b7 (gv d) c.next.1).2.1 = aK l ∧ ∀ x ∈ l, i7 d m x ∧ bV x = [] := by
      have h : (b7 (gv d) c.next.1).1 = 0 := h
      unfold b7 at h ⊢
      by_cases a1 : c.next.1.av ≠ 0
      . rw [if_pos a1] at h; exact absurd h a1
      rw [if_neg a1] at h ⊢
      by_cases a2 : c.next.1.next.2.k.toNat = 93
      . rw [if_pos a2]; exact ⟨[], rfl, fun _ hx => by cases hx⟩
      rw [if_neg a2] at h ⊢
      exact zd (ua d) _ _ [] [] t1 (by omega) (by rw [t2]; exact hm) rfl (fun _ hx => by cases hx) h
     obtain ⟨l, q1, q3⟩ := key1
     show ∃ x, i7 (d + 1) m (⟨91, key, [], ((b7 (gv d) c.next.1).2.1.length : Int) + 1⟩ :: (b7 (gv d) c.next.1).2.1, x) ∧ key = key
     rw [q1]
     refine ⟨_, ⟨.lst d key l (fun x hx => (q3 x hx).1.t) (fun x hx => (q3 x hx).2), fun z hz => ?_⟩, rfl⟩
     rcases List.mem_cons.1 hz with rfl | hz
     . exact ⟨hk, Nat.zero_le _⟩
     . exact Ax (fun x hx => (q3 x hx).1.n) z hz
   rw [if_neg h2] at h ⊢
   by_cases h3 : dd c.next.2.k = true
   . rw [if_pos h3]; exact A6 r1 h3 (by omega) hk
   . rw [if_neg h3] at h; cases h
theorem Kh {s : List UInt8} (hl : s.length ≤ 10000000) (h : bS s = 0) : ∃ x, TT 32 (c5 s) x ∧ NbL (4 * s.length) (c5 s) ∧ (ig (c5 s)).key = [] := by
 have hc : (Cu.new s).live := ⟨⟨Nat.zero_le _, Nat.le_refl _⟩, rfl, hl⟩
 have e : c5 s = (gv 32 (Cu.new s).next.2 [] (Cu.new s).next.1).2.1 := by unfold c5; rw [if_pos h]
 unfold bS at h
 by_cases h1 : (Cu.new s).av ≠ 0
 . rw [if_pos h1] at h; exact absurd h h1
 rw [if_neg h1] at h
 by_cases h2 : (gv 32 (Cu.new s).next.2 [] (Cu.new s).next.1).1 ≠ 0
 . rw [if_pos h2] at h; exact absurd h h2
 obtain ⟨x, hx, hk⟩ := ua 32 (4 * s.length) (.new s) [] hc (by omega) (Nat.le_refl _) (Nat.zero_le _) (by omega)
 rw [e]
 exact ⟨x, hx.t, hx.n, hk⟩
theorem Bg (n : Nat) (x : UInt8) : List.replicate (n + 1) x = List.replicate n x ++ [x] := by rw [List.replicate_succ']
theorem xZ : ∀ (k d : Nat), k ≤ d → ∃ L, TT d L (List.replicate k 91 ++ (49 :: List.replicate k 93)) ∧ L.length = k + 1 ∧ (ig L).key = []
 | 0, d, _ => ⟨_, .leaf d 110 [] [49] (.inr (.inl ⟨rfl, by decide +kernel, by decide +kernel, by decide⟩)) rfl, rfl, rfl⟩
 | k + 1, d, h => by
   obtain ⟨d, rfl⟩ : ∃ e, d = e + 1 := ⟨d - 1, by omega⟩
   obtain ⟨L, h1, h2, h3⟩ := xZ k d (by omega)
   have ht := TT.lst d [] [(L, List.replicate k 91 ++ (49 :: List.replicate k 93))] (fun x hx => by rw [List.mem_singleton] at hx; rw [hx]; exact h1) (fun x hx => by rw [List.mem_singleton] at hx; rw [hx]; exact h3)
   have e : (91 :: (bc cO [(L, List.replicate k 91 ++ (49 :: List.replicate k 93))] 0 ++ [93]) : List UInt8) = List.replicate (k + 1) 91 ++ (49 :: List.replicate (k + 1) 93) := by
    show 91 :: (([] ++ ((List.replicate k 91 ++ (49 :: List.replicate k 93)) ++ [])) ++ [93]) = _
    rw [List.nil_append, List.append_nil, Bg k 93, List.append_assoc, List.replicate_succ]
    rfl
   rw [e] at ht
   refine ⟨_, ht, ?_, rfl⟩
   show (L ++ []).length + 1 = _
   rw [List.append_nil, h2]
theorem y0 : ∀ (d : Nat) (c : Cu) (r key : List UInt8), At c (List.replicate (d + 1) 91 ++ r) → c.av = 0 ∧ c.next.2.k.toNat = 91 ∧ (gv d c.next.2 key c.next.1).1 = 33
 | 0, c, r, key, h => by
   obtain ⟨a1, a2, a3⟩ := At.sign (k := 91) (r := r) h (by decide) rfl
   refine ⟨a1, by rw [a2]; rfl, ?_⟩
   rw [a2, gv]
   dsimp only
   rw [if_pos (by decide)]
 | d + 1, c, r, key, h => by
   obtain ⟨a1, a2, a3⟩ := At.sign (k := 91) (r := List.replicate (d + 1) 91 ++ r) h (by decide) rfl
   obtain ⟨b1, b2, b3⟩ := y0 d _ r [] a3
   refine ⟨a1, by rw [a2]; rfl, ?_⟩
   rw [a2, gv]
   dsimp only
   rw [if_neg (by decide), if_pos (by decide)]
   unfold b7
   rw [if_neg (fun q => q b1), if_neg (by omega), dP, if_pos (by rw [b3]; decide)]
   exact b3
theorem CR {k : Nat} {r : List UInt8} (hk : 32 < k) (hl : (List.replicate k (91 : UInt8) ++ r).length ≤ 10000000) : bS (List.replicate k 91 ++ r) = 33 ∧ c5 (List.replicate k 91 ++ r) = [] := by
 have hat := At.new hl
 have e : List.replicate k (91 : UInt8) ++ r = List.replicate (32 + 1) 91 ++ (List.replicate (k - 33) 91 ++ r) := by
  rw [← List.append_assoc, List.replicate_append_replicate]
  congr 2
  omega
 have hat2 : At (.new (List.replicate k 91 ++ r)) (List.replicate (32 + 1) 91 ++ (List.replicate (k - 33) 91 ++ r)) := by rw [← e]; exact hat
 obtain ⟨a1, a2, a3⟩ := y0 32 _ _ [] hat2
 have h : bS (List.replicate k 91 ++ r) = 33 := by
  unfold bS
  rw [if_neg (fun q => q a1), if_pos (by rw [a3]; decide), a3]
 refine ⟨h, ?_⟩
 unfold c5
 rw [if_neg (by rw [h]; decide)]
theorem CS {k : Nat} (hk : k ≤ 32) : bS (List.replicate k 91 ++ (49 :: List.replicate k 93)) = 0 ∧ (c5 (List.replicate k 91 ++ (49 :: List.replicate k 93))).length = k + 1 := by
 obtain ⟨L, h1, h2, h3⟩ := xZ k 32 hk
 obtain ⟨a, b⟩ := BV h1 h3 (by simp only [List.length_append, List.length_cons, List.length_replicate]; omega)
 exact ⟨a, by rw [b, h2]⟩
end Go.Proofs.Ytllncocibkgjkaa
