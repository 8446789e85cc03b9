/-
  A part of the proof.
-/
import Derived.Test.YtllncocibkgjkaaDoorJRe
import Derived.Test.YtllncocibkgjkaaDoorJTu
set_option linter.unusedSimpArgs false
set_option linter.unusedVariables false
set_option maxHeartbeats 4000000
namespace Go.Proofs.YtllncocibkgjkaaDoor
open Go Go.VG
set_option maxRecDepth 100000
def kj (x : List UInt8) : Prop := 0 < x.length ∧ (bI x 0).2 = x.length
inductive dN : List UInt8 → Prop where
 | nil : dN []
 | cons (x r : List UInt8) (h : kj x) (k : dN r) : dN (x ++ r)
theorem dN.append {x y : List UInt8} (h : dN x) (k : dN y) : dN (x ++ y) := by
 induction h with
 | nil => exact k
 | cons x r h _ ih => rw [List.append_assoc]; exact .cons x _ h ih
theorem dN.one {x : List UInt8} (h : kj x) : dN x := by have := dN.cons x [] h .nil; simpa using this
theorem FT (t : List UInt8) (i k : Nat) : (t.drop i).getD k 0 = t.getD (i + k) 0 := by
 rw [List.getD_eq_getElem?_getD, List.getD_eq_getElem?_getD, List.getElem?_drop]
theorem pP {x r : List UInt8} {k : Nat} (h : k < x.length) : (x ++ r).getD k 0 = x.getD k 0 := by
 rw [List.getD_eq_getElem?_getD, List.getD_eq_getElem?_getD, List.getElem?_append_left h]
theorem tU {x : List UInt8} (h : kj x) : bE (x.getD 0 0).toNat = x.length ∧ ∀ j, 1 ≤ j → j < x.length → cont (x.getD j 0) = true := by
 obtain ⟨h1, h2⟩ := h
 rw [← kX] at h2
 rcases sL x h1 with k | ⟨k1, k2, k3, k4⟩
 . omega
 . exact ⟨by omega, fun j a b => k4 j a (by omega)⟩
theorem yh {x r t : List UInt8} {i : Nat} (h : kj x) (e : t.drop i = x ++ r) : bI t i = bI x 0 := by
 have hl := congrArg List.length e
 rw [List.length_drop, List.length_append] at hl
 have h1 := h.1
 rw [sO, if_neg (by omega), e, ← kX, ← kX]
 have hn := (tU h).1
 have := sM (x ++ r) x.length (by rw [pP h1]; omega) h1 (by simp)
 rw [List.take_left] at this
 exact this.symm
theorem Da {t : List UInt8} {i : Nat} (hi : i < t.length) (h : (bI t i).2 ≠ 0) : kj ((t.drop i).take (bI t i).2) ∧ ((t.drop i).take (bI t i).2).length = (bI t i).2 := by
 have hr := qT t i
 have hl : ((t.drop i).take (bI t i).2).length = (bI t i).2 := by rw [List.length_take, List.length_drop]; omega
 refine ⟨⟨by omega, ?_⟩, hl⟩
 rw [hl]
 have e := sO t i
 rw [if_neg (by omega)] at e
 rw [e] at h ⊢
 generalize t.drop i = x at *
 rw [← kX] at h ⊢
 have hx : 0 < x.length := by
  rcases Nat.lt_or_ge 0 x.length with q | q
  . exact q
  . exact absurd (by unfold dd; rw [if_pos (by omega)]) h
 rcases sL x hx with k | ⟨k1, k2, k3, k4⟩
 . exact absurd k h
 . rw [← kX, sM x _ (by omega) (by omega) (by omega)]
theorem Cw (s : List UInt8) : ∀ (k i c : Nat), s.length - i ≤ k → i ≤ s.length → (dC s i c).1 = s.length → dN (s.drop i)
  | k, i, c, hk, hi, h => by
    rw [dC] at h
    by_cases a : s.length ≤ i
    . rw [List.drop_eq_nil_of_le a]; exact .nil
    . rw [if_neg a] at h
      split at h
      . exact absurd h (by omega)
      . rename_i q
        have hr := qT s i
        match k with
        | 0 => omega
        | k + 1 =>
          have ih := Cw s k (i + (bI s i).2) (c + 1) (by omega) (by omega) h
          have e : s.drop i = (s.drop i).take (bI s i).2 ++ s.drop (i + (bI s i).2) := by
           rw [← List.drop_drop]; exact (List.take_append_drop _ _).symm
          rw [e]
          exact .cons _ _ (Da (by omega) q).1 ih
theorem Cj (s : List UInt8) : ∀ (k i c : Nat), s.length - i ≤ k → i ≤ s.length → dN (s.drop i) → (dC s i c).1 = s.length
 | k, i, c, hk, hi, h => by
   rw [dC]
   by_cases a : s.length ≤ i
   . rw [if_pos a]; show i = _; omega
   . rw [if_neg a]
     generalize hd : s.drop i = d at h
     cases h with
     | nil => have := congrArg List.length hd; rw [List.length_drop] at this; simp at this; omega
     | cons x r h kr =>
       have e := yh h hd
       have e2 := h.2
       have h1 := h.1
       have hl := congrArg List.length hd
       rw [List.length_drop, List.length_append] at hl
       rw [dif_neg (by rw [e]; omega)]
       match k with
       | 0 => omega
       | k + 1 =>
         refine Cj s k _ _ (by rw [e]; omega) (by rw [e]; omega) ?_
         rw [e, e2, ← List.drop_drop, hd, List.drop_left]; exact kr
theorem D5 {s : List UInt8} : ¬ (0 ≤ fi s) ↔ dN s := by
 unfold fi
 constructor
 . intro h
   split at h
   . rename_i q
     have := Cw s s.length 0 0 (by omega) (by omega) q
     simpa using this
   . omega
 . intro h
   rw [if_pos (Cj s s.length 0 0 (by omega) (by omega) (by simpa using h))]; omega
end Go.Proofs.YtllncocibkgjkaaDoor
namespace Go.Proofs.YtllncocibkgjkaaDoor
open Go Go.VG
set_option maxRecDepth 100000
theorem fY {t : List UInt8} {i : Nat} {y : List UInt8} (e : t.drop i = y) (k : Nat) : t.getD (i + k) 0 = y.getD k 0 := by rw [← e, FT]
theorem xV (b : UInt8) : byte (b.toNat : Int) = b := dx b
theorem Df : ∀ b : Nat, b < 32 → g8 (dF (gz (b / 16))) = true ∧ g8 (dF (gz (b % 16))) = true ∧ 16 * fF (dF (gz (b / 16))) + fF (dF (gz (b % 16))) = b := by decide
theorem xq : g8 (dF 48) = true ∧ fF (dF 48) = 0 := by decide
theorem IA {t r : List UInt8} {i : Nat} {b : UInt8} (hb : b.toNat < 32) (e : t.drop i = [92, 117, 48, 48, gz (b.toNat / 16), gz (b.toNat % 16)] ++ r) : dn t i = ([b], (i : Int) + 6, 0) := by
 have g0 : t.getD i 0 = 92 := fY e 0
 have g1 : t.getD (i + 1) 0 = 117 := fY e 1
 have g2 : t.getD (i + 2) 0 = 48 := fY e 2
 have g3 : t.getD (i + 3) 0 = 48 := fY e 3
 have g4 : t.getD (i + 4) 0 = gz (b.toNat / 16) := fY e 4
 have g5 : t.getD (i + 5) 0 = gz (b.toNat % 16) := fY e 5
 have hl := congrArg List.length e
 rw [List.length_drop] at hl
 simp at hl
 obtain ⟨k1, k2, k3⟩ := Df b.toNat hb
 have hd : cA t 4 (i + 2) 0 = ((b.toNat : Int), 0) := by
  rw [cA, if_neg (by omega), g2, if_pos xq.1, cA, if_neg (by omega), show i + 2 + 1 = i + 3 from rfl, g3, if_pos xq.1, cA, if_neg (by omega), show i + 3 + 1 = i + 4 from rfl, g4, if_pos k1,
   cA, if_neg (by omega), show i + 4 + 1 = i + 5 from rfl, g5, if_pos k2, cA, xq.2]
  refine Prod.ext ?_ rfl
  show (16 * (16 * (16 * (16 * 0 + ((0 : Nat) : Int)) + ((0 : Nat) : Int)) + ((fF (dF (gz (b.toNat / 16))) : Nat) : Int)) + ((fF (dF (gz (b.toNat % 16))) : Nat) : Int)) = _
  omega
 unfold dn
 rw [g0, if_pos (by decide)]
 unfold fL
 rw [if_neg (by omega), g1, if_neg (by decide), hd, if_neg (by simp), if_neg (by simp; omega), if_neg (by simp; omega)]
 refine Prod.ext ?_ (Prod.ext (by show ((i + 1 : Nat) : Int) + 5 = (i : Int) + 6; omega) rfl)
 show bQ (b.toNat : Int) = [b]
 unfold bQ
 rw [if_pos (by omega), xV]
theorem IB {t r : List UInt8} {i : Nat} {b : UInt8} (hb : b.toNat = 34 ∨ b.toNat = 92) (e : t.drop i = [92, b] ++ r) : dn t i = ([b], (i : Int) + 2, 0) := by
 have g0 : t.getD i 0 = 92 := fY e 0
 have g1 : t.getD (i + 1) 0 = b := fY e 1
 have hl := congrArg List.length e
 rw [List.length_drop] at hl
 simp at hl
 have hp : iJ b = true := by unfold iJ; rw [decide_eq_true_eq]; omega
 have hv : n8 b = b.toNat := by unfold n8; rw [if_pos (by omega)]
 unfold dn
 rw [g0, if_pos (by decide)]
 unfold fL
 rw [if_neg (by omega), g1, if_pos (by omega), if_pos hp]
 refine Prod.ext ?_ (Prod.ext (by show ((i + 1 : Nat) : Int) + 1 = (i : Int) + 2; omega) rfl)
 show nj b = [b]
 unfold nj
 rw [if_pos hp, hv, xV]
theorem ID {t r x : List UInt8} {i : Nat} (h : kj x) (h1 : (x.getD 0 0).toNat ≠ 92) (h2 : 32 ≤ (x.getD 0 0).toNat) (e : t.drop i = x ++ r) : dn t i = (x, ((i + x.length : Nat) : Int), 0) := by
 have g0 : t.getD i 0 = x.getD 0 0 := (fY e 0).trans (pP h.1)
 have hr := (yh h e)
 have hn := h.2
 have hp := h.1
 unfold dn
 rw [g0, if_neg h1, if_neg (by omega), hr, hn, if_neg (by omega)]
 refine Prod.ext ?_ rfl
 show (t.take (i + x.length)).drop i = x
 rw [List.drop_take, e, Nat.add_sub_cancel_left, List.take_left]
theorem vB (x y : List UInt8) : d5 (x ++ y) = d5 x ++ d5 y := by simp [d5]
theorem IX {x : List UInt8} (h : ∀ b ∈ x, hJ b = [b]) : d5 x = x := by
 induction x with
 | nil => rfl
 | cons b x ih =>
   rw [show b :: x = [b] ++ x from rfl, vB, ih fun c hc => h c (List.mem_cons_of_mem _ hc)]
   simp [d5, h b (by simp)]
theorem Bh {b : UInt8} (h1 : b.toNat ≠ 34) (h2 : b.toNat ≠ 92) (h3 : 32 ≤ b.toNat) : hJ b = [b] := by
 unfold hJ; rw [if_neg (by omega), if_neg (by omega)]
theorem yi {x : List UInt8} (h : kj x) (hb : (x.getD 0 0).toNat < 128) : x = [x.getD 0 0] := by
 have h1 := (tU h).1
 have : bE (x.getD 0 0).toNat = 1 := by unfold bE; rw [if_pos hb]
 match x, h1.symm.trans this with
 | [b], _ => rfl
theorem Db {x : List UInt8} (h : kj x) (h1 : (x.getD 0 0).toNat ≠ 34) (h2 : (x.getD 0 0).toNat ≠ 92) (h3 : 32 ≤ (x.getD 0 0).toNat) : d5 x = x := by
 refine IX fun b hb => ?_
 obtain ⟨j, hj, rfl⟩ := List.getElem_of_mem hb
 have e : x[j] = x.getD j 0 := by rw [List.getD_eq_getElem?_getD, List.getElem?_eq_getElem hj]; rfl
 rw [e]
 by_cases hj0 : j = 0
 . subst hj0; exact Bh h1 h2 h3
 . have := (gS _).1 ((tU h).2 j (by omega) hj)
   exact Bh (by omega) (by omega) (by omega)
theorem FZ {s : List UInt8} (h : dN s) : ∀ (t r o : List UInt8) (n i : Nat), t.drop i = d5 s ++ 34 :: r → t.length - i + 1 ≤ n → eo t n i o = (0, i + (d5 s).length + 1, o ++ s) := by
 induction h with
 | nil =>
   intro t r o n i e hn
   have hl := congrArg List.length e
   rw [List.length_drop] at hl
   simp [d5] at hl
   have g0 : t.getD i 0 = 34 := fY e 0
   match n with
   | 0 => omega
   | n + 1 =>
     rw [eo, if_neg (by omega), g0, if_pos (by decide)]
     simp [d5]
 | cons x s h hs ih =>
   intro t r o n i e hn
   rw [vB, List.append_assoc] at e
   have step : ∀ m : Nat, 0 < m → t.drop (i + m) = d5 s ++ 34 :: r → i < t.length → t.getD i 0 ≠ 34 → dn t i = (x, ((i + m : Nat) : Int), 0) → (d5 x).length = m →
      eo t n i o = (0, i + (d5 (x ++ s)).length + 1, o ++ (x ++ s)) := fun m hm hd hi h34 hp hq => by
    match n with
    | 0 => omega
    | n + 1 =>
      have q : (t.getD i 0).toNat ≠ 34 := fun k => h34 (UInt8.toNat_inj.1 (by rw [k]; rfl))
      rw [eo, if_neg (by omega), if_neg q, hp, if_neg (by simp), show ((i + m : Nat) : Int).toNat = i + m from rfl, ih t r (o ++ x) n (i + m) hd (by omega), vB, List.length_append, hq]
      refine Prod.ext rfl (Prod.ext ?_ ?_)
      . show i + m + _ + 1 = i + (m + _) + 1; omega
      . show o ++ x ++ s = _; rw [List.append_assoc]
   have hdrop : t.drop (i + (d5 x).length) = d5 s ++ 34 :: r := by rw [← List.drop_drop, e, List.drop_left]
   have hl := congrArg List.length e
   rw [List.length_drop, List.length_append, List.length_append] at hl
   simp only [List.length_cons] at hl
   by_cases hb : (x.getD 0 0).toNat = 34 ∨ (x.getD 0 0).toNat = 92
   . have hx := yi h (by omega)
     generalize x.getD 0 0 = b at *
     subst hx
     have hq : d5 [b] = [92, b] := by
      show hJ b ++ [] = _
      unfold hJ; rw [if_pos hb]; rfl
     rw [hq] at hdrop e
     refine step 2 (by omega) hdrop (by omega) ?_ (IB hb e) (by rw [hq]; rfl)
     rw [show t.getD i 0 = 92 from fY e 0]; decide
   by_cases hc : (x.getD 0 0).toNat < 32
   . have hx := yi h (by omega)
     generalize x.getD 0 0 = b at *
     subst hx
     have hq : d5 [b] = [92, 117, 48, 48, gz (b.toNat / 16), gz (b.toNat % 16)] := by
      show hJ b ++ [] = _
      unfold hJ; rw [if_neg hb, if_pos hc]; rfl
     rw [hq] at hdrop e
     refine step 6 (by omega) hdrop (by omega) ?_ (IA hc e) (by rw [hq]; rfl)
     rw [show t.getD i 0 = 92 from fY e 0]; decide
   . have hq := Db h (by omega) (by omega) (by omega)
     rw [hq] at hdrop e
     have hp := h.1
     refine step x.length h.1 hdrop (by omega) ?_ (ID h (by omega) (by omega) e) (by rw [hq])
     rw [show t.getD i 0 = x.getD 0 0 from (fY e 0).trans (pP hp)]
     intro k
     rw [k] at hb
     exact hb (.inl rfl)
end Go.Proofs.YtllncocibkgjkaaDoor
namespace Go.Proofs.YtllncocibkgjkaaDoor
open Go Go.VG
set_option maxRecDepth 100000
def kZ (b : UInt8) : Bool := decide (b.toNat = 32 ∨ b.toNat = 9 ∨ b.toNat = 10 ∨ b.toNat = 13 ∨ b.toNat = 44 ∨ b.toNat = 93 ∨ b.toNat = 125)
theorem BX {b : UInt8} : kZ b = true ↔ b.toNat = 32 ∨ b.toNat = 9 ∨ b.toNat = 10 ∨ b.toNat = 13 ∨ b.toNat = 44 ∨ b.toNat = 93 ∨ b.toNat = 125 := decide_eq_true_iff
structure Ag (t : List UInt8) (p : Nat) (u : List UInt8) (q m : Nat) : Prop where
 lt : p + m ≤ t.length
 lu : q + m ≤ u.length
 eq : ∀ j, j < m → t.getD (p + j) 0 = u.getD (q + j) 0
 stop : q + m = u.length ∨ kZ (u.getD (q + m) 0) = true
section
variable {t u : List UInt8} {p q m : Nat}
theorem J8 {t : List UInt8} {i : Nat} (h : fG t i ≠ i) : i < t.length ∧ cG (t.getD i 0) = true := by
 rcases Nat.lt_or_ge i t.length with a | a
 . refine ⟨a, ?_⟩
   cases d : cG (t.getD i 0) with
   | true => rfl
   | false => exact absurd (ni (.inr d)) h
 . exact absurd (ni (.inl a)) h
theorem J9 {t : List UInt8} {i : Nat} (hi : i < t.length) (h : fG t i = i) : cG (t.getD i 0) = false := by
 cases d : cG (t.getD i 0) with
 | false => rfl
 | true =>
   have := oM hi d
   have := (m8 t (i + 1)).1
   omega
theorem CW {b : UInt8} (h : kZ b = true) : cG b = false := by
 rw [pE]; have := BX.1 h; omega
theorem Ag.run (A : Ag t p u q m) : ∀ (d j k : Nat), k - j ≤ d → j ≤ k → k ≤ m → fG t (p + j) = p + k → fG u (q + j) = q + k
 | d, j, k, hd, hjk, hkm, h => by
   have hlt := A.lt
   have hlu := A.lu
   by_cases e : j = k
   . subst e
     refine ni ?_
     by_cases hm : j < m
     . right
       rw [← A.eq j hm]
       exact J9 (by omega) h
     . obtain rfl : j = m := by omega
       rcases A.stop with s | s
       . left; omega
       . right; exact CW s
   . obtain ⟨h1, h2⟩ := J8 (t := t) (i := p + j) (by omega)
     have h3 := oM h1 h2
     rw [h] at h3
     have h4 : cG (u.getD (q + j) 0) = true := by rw [← A.eq j (by omega)]; exact h2
     rw [oM (by omega) h4]
     match d with
     | 0 => omega
     | d + 1 => exact A.run d (j + 1) k (by omega) (by omega) hkm h3.symm
theorem Ag.one (A : Ag t p u q m) {j a b : Nat} (hj : j < m) : fO u (q + j) a b = fO t (p + j) a b := by
 have hlt := A.lt
 have hlu := A.lu
 unfold fO
 rw [A.eq j hj, decide_eq_true (show q + j < u.length by omega), decide_eq_true (show p + j < t.length by omega)]
theorem Ag.B0 (A : Ag t p u q m) {a b : Nat} (ha : a ≠ 32 ∧ a ≠ 9 ∧ a ≠ 10 ∧ a ≠ 13 ∧ a ≠ 44 ∧ a ≠ 93 ∧ a ≠ 125) (hb : b ≠ 32 ∧ b ≠ 9 ∧ b ≠ 10 ∧ b ≠ 13 ∧ b ≠ 44 ∧ b ≠ 93 ∧ b ≠ 125) : fO u (q + m) a b = false := by
 rw [vn]
 rcases A.stop with s | s
 . omega
 . have := BX.1 s; omega
theorem Ag.lW (A : Ag t p u q m) {j k : Nat} (hj : j ≤ m) (hk : k ≤ m) (h : dz t (p + j) = (p + k, 0)) : j < k ∧ dz u (q + j) = (q + k, 0) := by
 have hr := m8 t (p + j)
 unfold dz at h
 by_cases a : fG t (p + j) > p + j
 . rw [if_pos a] at h
   have h := congrArg Prod.fst h
   simp only at h
   have r := A.run (k - j) j k (Nat.le_refl _) (by omega) hk h
   refine ⟨by omega, ?_⟩
   unfold dz
   rw [if_pos (by omega), r]
 . rw [if_neg a] at h
   split at h
   . have := congrArg Prod.snd h; simp at this
   . have := congrArg Prod.snd h; simp at this
theorem Ag.sgn (A : Ag t p u q m) {j a b : Nat} (hj : j < m) : ∃ s, j ≤ s ∧ cD t (p + j) a b = p + s ∧ cD u (q + j) a b = q + s := by
 unfold cD
 rw [A.one hj]
 split
 . exact ⟨j + 1, by omega, rfl, rfl⟩
 . exact ⟨j, Nat.le_refl _, rfl, rfl⟩
theorem Ag.whole (A : Ag t p u q m) {k : Nat} (h0 : 0 < m) (hk : k ≤ m) (h : cj t p = (p + k, 0)) : cj u q = (q + k, 0) := by
 obtain ⟨s, s1, s2, s3⟩ := A.sgn (j := 0) (a := 45) (b := 45) h0
 have s2 : cD t p 45 45 = p + s := s2
 have s3 : cD u q 45 45 = q + s := s3
 have sb : cD t p 45 45 ≤ p + 1 := by unfold cD; split <;> omega
 unfold cj at h ⊢
 rw [s2] at h sb
 rw [s3]
 by_cases c : fO t (p + s) 48 48 = true
 . rw [if_pos c] at h
   have h := congrArg Prod.fst h
   simp only at h
   rw [if_pos (by rw [A.one (by omega)]; exact c)]
   exact Prod.ext (by show q + s + 1 = q + k; omega) rfl
 . rw [if_neg c] at h
   obtain ⟨n1, n2⟩ := A.lW (j := s) (by omega) hk h
   rw [if_neg (by rw [A.one (by omega)]; exact c)]
   exact n2
theorem Ag.behind (A : Ag t p u q m) {i k : Nat} (hi : i ≤ m) (hk : k ≤ m) (h : cT t (p + i, 0) = (p + k, 0)) : i ≤ k ∧ cT u (q + i, 0) = (q + k, 0) := by
 unfold cT at h ⊢
 by_cases c : fO t (p + i) 46 46 = true
 . rw [if_pos ⟨rfl, c⟩] at h
   have hr := m8 t (p + i + 1)
   have hn : dz t (p + (i + 1)) = (p + k, 0) := h
   by_cases im : i < m
   . obtain ⟨n1, n2⟩ := A.lW (j := i + 1) (by omega) hk hn
     rw [if_pos ⟨rfl, by rw [A.one im]; exact c⟩]
     exact ⟨by omega, n2⟩
   . exfalso
     unfold dz at hn
     by_cases a : fG t (p + (i + 1)) > p + (i + 1)
     . rw [if_pos a] at hn
       have := congrArg Prod.fst hn
       simp only at this; omega
     . rw [if_neg a] at hn
       split at hn <;> (have := congrArg Prod.snd hn; simp at this)
 . rw [if_neg (fun x => c x.2)] at h
   have h := congrArg Prod.fst h
   simp only at h
   obtain rfl : i = k := by omega
   refine ⟨Nat.le_refl _, ?_⟩
   rw [if_neg]
   intro x
   by_cases im : i < m
   . have := x.2; rw [A.one im] at this; exact c this
   . obtain rfl : i = m := by omega
     have := x.2; rw [A.B0 (by decide) (by decide)] at this; cases this
theorem Ag.n9 (A : Ag t p u q m) {i : Nat} (hi : i ≤ m) (h : iK t (p + i, 0) = (p + m, 0)) : iK u (q + i, 0) = (q + m, 0) := by
 unfold iK at h ⊢
 by_cases c : fO t (p + i) 101 69 = true
 . rw [if_pos ⟨rfl, c⟩] at h
   have hsg : ∀ j, j ≤ cD t j 43 45 := fun j => by unfold cD; split <;> omega
   have far : m < i + 2 → False := fun hm => by
    have hr := hsg (p + i + 1)
    have h : dz t (cD t (p + i + 1) 43 45) = (p + m, 0) := h
    unfold dz at h
    by_cases a : fG t (cD t (p + i + 1) 43 45) > cD t (p + i + 1) 43 45
    . rw [if_pos a] at h
      have := congrArg Prod.fst h
      simp only at this; omega
    . rw [if_neg a] at h
      split at h <;> (have := congrArg Prod.snd h; simp at this)
   have im : i + 1 < m := by rcases Nat.lt_or_ge (i + 1) m with x | x; exact x; exact (far (by omega)).elim
   obtain ⟨s, s1, s2, s3⟩ := A.sgn (j := i + 1) (a := 43) (b := 45) im
   have s2 : cD t (p + i + 1) 43 45 = p + s := s2
   have s3 : cD u (q + i + 1) 43 45 = q + s := s3
   have h : dz t (cD t (p + i + 1) 43 45) = (p + m, 0) := h
   rw [s2] at h
   have sm : s ≤ m := by
    have := hsg (p + i + 1)
    rw [s2] at this
    have sb : cD t (p + i + 1) 43 45 ≤ p + i + 1 + 1 := by unfold cD; split <;> omega
    rw [s2] at sb; omega
   obtain ⟨n1, n2⟩ := A.lW sm (Nat.le_refl _) h
   rw [if_pos ⟨rfl, by rw [A.one (by omega)]; exact c⟩]
   show dz u (cD u (q + i + 1) 43 45) = _
   rw [s3]; exact n2
 . rw [if_neg (fun x => c x.2)] at h
   have h := congrArg Prod.fst h
   simp only at h
   obtain rfl : i = m := by omega
   rw [if_neg]
   intro x
   have := x.2; rw [A.B0 (by decide) (by decide)] at this; cases this
theorem code0 {x : Nat × Int} (h : (cT t x).2 = 0) : x.2 = 0 := by
 unfold cT at h
 split at h
 . rename_i c; exact c.1
 . exact h
theorem code1 {x : Nat × Int} (h : (iK t x).2 = 0) : x.2 = 0 := by
 unfold iK at h
 split at h
 . rename_i c; exact c.1
 . exact h
theorem Ag.num (A : Ag t p u q m) (h0 : 0 < m) (h : dI t p = (p + m, 0)) : dI u q = (q + m, 0) := by
 have hlt := A.lt
 unfold dI at h ⊢
 have c1 := code1 (t := t) (x := cT t (cj t p)) (by rw [h])
 have c0 := code0 c1
 have w1 : p ≤ (cj t p).1 := by
  have := qC t p 45 45 (by omega)
  unfold cj; split
  . show p ≤ cD t p 45 45 + 1; omega
  . have := oE t _ this.2; omega
 have b1 : (cj t p).1 ≤ (cT t (cj t p)).1 := by
  generalize cj t p = x at *
  unfold cT; split
  . have := (m8 t (x.1 + 1)).1
    unfold dz; repeat' split
    all_goals (dsimp only; omega)
  . exact Nat.le_refl _
 have d1 : (cT t (cj t p)).1 ≤ p + m := by
  have e : (iK t (cT t (cj t p))).1 = p + m := by rw [h]
  rw [← e]
  generalize cT t (cj t p) = x at *
  unfold iK; split
  . have h1 : x.1 + 1 ≤ cD t (x.1 + 1) 43 45 := by unfold cD; split <;> omega
    have h2 := (m8 t (cD t (x.1 + 1) 43 45)).1
    unfold dz; repeat' split
    all_goals (dsimp only; omega)
  . exact Nat.le_refl _
 obtain ⟨k1, e1⟩ : ∃ k, (cj t p).1 = p + k := ⟨(cj t p).1 - p, by omega⟩
 obtain ⟨k2, e2⟩ : ∃ k, (cT t (cj t p)).1 = p + k := ⟨(cT t (cj t p)).1 - p, by omega⟩
 have hw : cj t p = (p + k1, 0) := Prod.ext e1 c0
 have hb : cT t (cj t p) = (p + k2, 0) := Prod.ext e2 c1
 have w := A.whole h0 (by omega) hw
 rw [hw] at hb
 have b := (A.behind (i := k1) (by omega) (by omega) hb).2
 rw [w, b]
 rw [hw, hb] at h
 exact A.n9 (by omega) h
end
def isNum (x : List UInt8) : Prop := 0 < x.length ∧ dI x 0 = (x.length, 0) ∧ ((x.getD 0 0).toNat = 45 ∨ cG (x.getD 0 0) = true)
def mm (t : Tk) : Prop := (t.k = 115 ∧ dN t.t) ∨ (t.k = 110 ∧ isNum t.t) ∨ (fh t.k = true ∧ t.t = []) ∨ ((t.k = 116 ∨ t.k = 102 ∨ t.k = 122) ∧ t.t = [])
theorem CA (d : Cu) : ∀ (s r : List UInt8) (i : Nat), d.s.drop (d.p + i) = s ++ r → d.e = d.s.length → gK d s i = 0
 | [], _, _, _, _ => rfl
 | b :: s, r, i, h, he => by
   have hl := congrArg List.length h
   rw [List.length_drop] at hl
   simp at hl
   have h0 : d.s.getD (d.p + i) 0 = b := fY h 0
   unfold gK
   rw [if_neg (by omega), if_neg (fun x => x h0)]
   refine CA d s r (i + 1) ?_ he
   rw [show d.p + (i + 1) = (d.p + i) + 1 from rfl, ← List.drop_drop, h]; rfl
theorem C8 {t : Tk} (h : mm t) : 0 < (cE t).length ∧ dS ((cE t).getD 0 0) = false := by
 obtain ⟨k, x⟩ := t
 rcases h with ⟨rfl, h⟩ | ⟨rfl, h⟩ | ⟨h, rfl⟩ | ⟨h, rfl⟩
 . exact ⟨by show 0 < (quote x).length; simp [quote], by show dS 34 = false; decide⟩
 . obtain ⟨n1, n2, n3⟩ := (show isNum x from h)
   refine ⟨n1, ?_⟩
   show dS (x.getD 0 0) = false
   rw [tO]
   rcases n3 with z | z
   . omega
   . have := kx.1 z; omega
 . have hs : k.toNat = 123 ∨ k.toNat = 125 ∨ k.toNat = 91 ∨ k.toNat = 93 ∨ k.toNat = 58 ∨ k.toNat = 44 := of_decide_eq_true h
   have e : cE ⟨k, []⟩ = [k] := by
    rw [show cE ⟨k, []⟩ = if k.toNat = 115 then quote [] else if k.toNat = 110 then [] else if fh k = true then [k] else spell k from rfl, if_neg (by omega), if_neg (by omega), if_pos h]
   rw [e]
   refine ⟨by simp, ?_⟩
   show dS k = false
   rw [tO]; omega
 . rcases h with rfl | rfl | rfl <;> decide
theorem Ko {d : Cu} {t : Tk} {r : List UInt8} (he : d.e = d.s.length) (h0 : d.c = 0) (hd : d.s.drop d.p = cE t ++ r) (ht : mm t) (hs : t.k = 110 → r = [] ∨ kZ (r.getD 0 0) = true) :
   d.kh = ({ d with p := d.p + (cE t).length }, t) := by
 have hl := congrArg List.length hd
 rw [List.length_drop, List.length_append] at hl
 have hpos := (C8 ht).1
 have htx : d.a9 = d.s := by unfold Cu.a9; rw [he, List.take_length]
 have hat : ∀ k, k < (cE t).length → d.s.getD (d.p + k) 0 = (cE t).getD k 0 := fun k hk => by rw [fY hd k, pP hk]
 have hbat : d.s.getD (d.p + (cE t).length) 0 = r.getD 0 0 := by
  rw [fY hd, List.getD_eq_getElem?_getD, List.getElem?_append_right (Nat.le_refl _)]; simp
 obtain ⟨k, x⟩ := t
 unfold Cu.kh
 rw [if_neg (show ¬ d.p = d.e by omega)]
 have hget : d.get = d.s.getD (d.p + 0) 0 := rfl
 rcases ht with ⟨rfl, h⟩ | ⟨rfl, h⟩ | ⟨h, rfl⟩ | ⟨h, rfl⟩
 . have e : cE ⟨115, x⟩ = quote x := rfl
   rw [e] at hd hat hl hbat hpos ⊢
   have g : d.get = 34 := by rw [hget, hat 0 (by simp [quote])]; rfl
   rw [g, if_neg (by decide), if_pos (by decide)]
   have hd1 : d.s.drop (d.p + 1) = d5 x ++ 34 :: r := by
    rw [← List.drop_drop, hd]
    simp [quote]
   have hq := FZ h d.s r [] (d.e - d.p) (d.p + 1) hd1 (by omega)
   have hrd : d.jo = ({ d with p := d.p + (quote x).length }, x) := by
    unfold Cu.jo
    rw [if_neg (by omega), if_neg (by omega), if_neg (by rw [g]; decide), he, List.take_length, ← he, hq, if_pos rfl]
    refine Prod.ext ?_ (by simp)
    simp only [quote, List.length_cons, List.length_append, List.length_nil]
    congr 1
    omega
   unfold held
   rw [hrd, if_pos h0]
 . have e : cE ⟨110, x⟩ = x := rfl
   rw [e] at hd hat hl hbat hpos ⊢
   obtain ⟨n1, n2, n3⟩ := (show isNum x from h)
   have g : d.get = x.getD 0 0 := by rw [hget, hat 0 n1]
   have gs : ¬ fh d.get = true := fun q => by
    have q : d.get.toNat = 123 ∨ d.get.toNat = 125 ∨ d.get.toNat = 91 ∨ d.get.toNat = 93 ∨ d.get.toNat = 58 ∨ d.get.toNat = 44 := of_decide_eq_true q
    rw [g] at q
    rcases n3 with z | z
    . omega
    . have := kx.1 z; omega
   have gq : ¬ d.get.toNat = 34 := fun q => by
    rw [g] at q
    rcases n3 with z | z
    . omega
    . have := kx.1 z; omega
   rw [if_neg gs, if_neg gq, if_pos (by rw [g]; exact n3)]
   have A : Ag x 0 d.s d.p x.length := ⟨by omega, by omega, fun j hj => by rw [Nat.zero_add, hat j hj], by
    rcases hs rfl with z | z
    . subst z; simp at hl; left; omega
    . right; rw [hbat]; exact z⟩
   have hn := A.num n1 (by rw [n2, Nat.zero_add])
   have hsub : sub d.s d.p (d.p + x.length) = x := by unfold sub; rw [List.drop_take, hd, Nat.add_sub_cancel_left, List.take_left]
   have hnd : d.lY = ({ d with p := d.p + x.length }, x) := by
    unfold Cu.lY
    rw [htx, hn, if_neg (by omega), if_neg (by simp), hsub]
   unfold held
   rw [hnd, if_pos h0]
 . have hs : k.toNat = 123 ∨ k.toNat = 125 ∨ k.toNat = 91 ∨ k.toNat = 93 ∨ k.toNat = 58 ∨ k.toNat = 44 := of_decide_eq_true h
   have e : cE ⟨k, []⟩ = [k] := by
    rw [show cE ⟨k, []⟩ = if k.toNat = 115 then quote [] else if k.toNat = 110 then [] else if fh k = true then [k] else spell k from rfl, if_neg (by omega), if_neg (by omega), if_pos h]
   rw [e] at hd hat hl hbat hpos ⊢
   have g : d.get = k := by rw [hget, hat 0 (by simp)]; rfl
   rw [g, if_pos h]; rfl
 . have e : cE ⟨k, []⟩ = spell k := by
     rcases h with rfl | rfl | rfl <;> decide
   rw [e] at hd hat hl hbat hpos ⊢
   have hw := CA d (spell k) r 0 hd he
   have fin : d.gJ k = ({ d with p := d.p + (spell k).length }, ⟨k, []⟩) := by
    unfold Cu.gJ; rw [if_neg (by omega)]
   have g : d.get = (spell k).getD 0 0 := by rw [hget, hat 0 (by rcases h with rfl | rfl | rfl <;> decide)]
   rcases h with rfl | rfl | rfl
   . rw [show d.get = 116 from g, if_neg (by decide), if_neg (by decide), if_neg (by decide), if_pos (by decide)]; exact fin
   . rw [show d.get = 102 from g, if_neg (by decide), if_neg (by decide), if_neg (by decide), if_pos (by decide)]; exact fin
   . rw [show d.get = 110 from g, if_neg (by decide), if_neg (by decide), if_neg (by decide), if_neg (by decide), if_pos (by decide)]; exact fin
end Go.Proofs.YtllncocibkgjkaaDoor
