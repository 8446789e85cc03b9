/-
  A part of the proof.
-/
import Derived.Test.YtllncocibkgjkaaGreatJTu
import Derived.Test.YtllncocibkgjkaaGreatJBr
set_option linter.unusedSimpArgs false
set_option linter.unusedVariables false
set_option maxHeartbeats 4000000
namespace Go.Proofs.YtllncocibkgjkaaGreat
open Go Go.VG
set_option maxRecDepth 100000
def kT (b : UInt8) : Bool := decide (b.toNat = 32 ∨ b.toNat = 9 ∨ b.toNat = 10 ∨ b.toNat = 13 ∨ b.toNat = 44 ∨ b.toNat = 93 ∨ b.toNat = 125)
theorem Ci {b : UInt8} : kT b = true ↔ b.toNat = 32 ∨ b.toNat = 9 ∨ b.toNat = 10 ∨ b.toNat = 13 ∨ b.toNat = 44 ∨ b.toNat = 93 ∨ b.toNat = 125 := decide_eq_true_iff
structure Ag (t : List UInt8) (p : Nat) (u : List UInt8) (q m : Nat) : Prop where
 lt : p + m ≤ t.length
 lu : q + m ≤ u.length
 eq : ∀ j, j < m → t.getD (p + j) 0 = u.getD (q + j) 0
 stop : q + m = u.length ∨ kT (u.getD (q + m) 0) = true
section
variable {t u : List UInt8} {p q m : Nat}
theorem Kd {t : List UInt8} {i : Nat} (h : dX t i ≠ i) : i < t.length ∧ c8 (t.getD i 0) = true := by
 rcases Nat.lt_or_ge i t.length with a | a
 . refine ⟨a, ?_⟩
   cases d : c8 (t.getD i 0) with
   | true => rfl
   | false => exact absurd (lW (.inr d)) h
 . exact absurd (lW (.inl a)) h
theorem Ke {t : List UInt8} {i : Nat} (hi : i < t.length) (h : dX t i = i) : c8 (t.getD i 0) = false := by
 cases d : c8 (t.getD i 0) with
 | false => rfl
 | true =>
   have := oG hi d
   have := (kc t (i + 1)).1
   omega
theorem Dk {b : UInt8} (h : kT b = true) : c8 b = false := by
 rw [ns]; have := Ci.1 h; omega
theorem Ag.run (A : Ag t p u q m) : ∀ (d j k : Nat), k - j ≤ d → j ≤ k → k ≤ m → dX t (p + j) = p + k → dX u (q + j) = q + k
 | d, j, k, hd, hjk, hkm, h => by
   have hlt := A.lt
   have hlu := A.lu
   by_cases e : j = k
   . subst e
     refine lW ?_
     by_cases hm : j < m
     . right
       rw [← A.eq j hm]
       exact Ke (by omega) h
     . obtain rfl : j = m := by omega
       rcases A.stop with s | s
       . left; omega
       . right; exact Dk s
   . obtain ⟨h1, h2⟩ := Kd (t := t) (i := p + j) (by omega)
     have h3 := oG h1 h2
     rw [h] at h3
     have h4 : c8 (u.getD (q + j) 0) = true := by rw [← A.eq j (by omega)]; exact h2
     rw [oG (by omega) h4]
     match d with
     | 0 => omega
     | d + 1 => exact A.run d (j + 1) k (by omega) (by omega) hkm h3.symm
theorem Ag.one (A : Ag t p u q m) {j a b : Nat} (hj : j < m) : cY u (q + j) a b = cY t (p + j) a b := by
 have hlt := A.lt
 have hlu := A.lu
 unfold cY
 rw [A.eq j hj, decide_eq_true (show q + j < u.length by omega), decide_eq_true (show p + j < t.length by omega)]
theorem Ag.Bs (A : Ag t p u q m) {a b : Nat} (ha : a ≠ 32 ∧ a ≠ 9 ∧ a ≠ 10 ∧ a ≠ 13 ∧ a ≠ 44 ∧ a ≠ 93 ∧ a ≠ 125) (hb : b ≠ 32 ∧ b ≠ 9 ∧ b ≠ 10 ∧ b ≠ 13 ∧ b ≠ 44 ∧ b ≠ 93 ∧ b ≠ 125) : cY u (q + m) a b = false := by
 rw [sd]
 rcases A.stop with s | s
 . omega
 . have := Ci.1 s; omega
theorem Ag.lR (A : Ag t p u q m) {j k : Nat} (hj : j ≤ m) (hk : k ≤ m) (h : cw t (p + j) = (p + k, 0)) : j < k ∧ cw u (q + j) = (q + k, 0) := by
 have hr := kc t (p + j)
 unfold cw at h
 by_cases a : dX t (p + j) > p + j
 . rw [if_pos a] at h
   have h := congrArg Prod.fst h
   simp only at h
   have r := A.run (k - j) j k (Nat.le_refl _) (by omega) hk h
   refine ⟨by omega, ?_⟩
   unfold cw
   rw [if_pos (by omega), r]
 . rw [if_neg a] at h
   split at h
   . have := congrArg Prod.snd h; simp at this
   . have := congrArg Prod.snd h; simp at this
theorem Ag.sgn (A : Ag t p u q m) {j a b : Nat} (hj : j < m) : ∃ s, j ≤ s ∧ bX t (p + j) a b = p + s ∧ bX u (q + j) a b = q + s := by
 unfold bX
 rw [A.one hj]
 split
 . exact ⟨j + 1, by omega, rfl, rfl⟩
 . exact ⟨j, Nat.le_refl _, rfl, rfl⟩
theorem Ag.whole (A : Ag t p u q m) {k : Nat} (h0 : 0 < m) (hk : k ≤ m) (h : bm t p = (p + k, 0)) : bm u q = (q + k, 0) := by
 obtain ⟨s, s1, s2, s3⟩ := A.sgn (j := 0) (a := 45) (b := 45) h0
 have s2 : bX t p 45 45 = p + s := s2
 have s3 : bX u q 45 45 = q + s := s3
 have sb : bX t p 45 45 ≤ p + 1 := by unfold bX; split <;> omega
 unfold bm at h ⊢
 rw [s2] at h sb
 rw [s3]
 by_cases c : cY t (p + s) 48 48 = true
 . rw [if_pos c] at h
   have h := congrArg Prod.fst h
   simp only at h
   rw [if_pos (by rw [A.one (by omega)]; exact c)]
   exact Prod.ext (by show q + s + 1 = q + k; omega) rfl
 . rw [if_neg c] at h
   obtain ⟨n1, n2⟩ := A.lR (j := s) (by omega) hk h
   rw [if_neg (by rw [A.one (by omega)]; exact c)]
   exact n2
theorem Ag.behind (A : Ag t p u q m) {i k : Nat} (hi : i ≤ m) (hk : k ≤ m) (h : cj t (p + i, 0) = (p + k, 0)) : i ≤ k ∧ cj u (q + i, 0) = (q + k, 0) := by
 unfold cj at h ⊢
 by_cases c : cY t (p + i) 46 46 = true
 . rw [if_pos ⟨rfl, c⟩] at h
   have hr := kc t (p + i + 1)
   have hn : cw t (p + (i + 1)) = (p + k, 0) := h
   by_cases im : i < m
   . obtain ⟨n1, n2⟩ := A.lR (j := i + 1) (by omega) hk hn
     rw [if_pos ⟨rfl, by rw [A.one im]; exact c⟩]
     exact ⟨by omega, n2⟩
   . exfalso
     unfold cw at hn
     by_cases a : dX t (p + (i + 1)) > p + (i + 1)
     . rw [if_pos a] at hn
       have := congrArg Prod.fst hn
       simp only at this; omega
     . rw [if_neg a] at hn
       split at hn <;> (have := congrArg Prod.snd hn; simp at this)
 . rw [if_neg (fun x => c x.2)] at h
   have h := congrArg Prod.fst h
   simp only at h
   obtain rfl : i = k := by omega
   refine ⟨Nat.le_refl _, ?_⟩
   rw [if_neg]
   intro x
   by_cases im : i < m
   . have := x.2; rw [A.one im] at this; exact c this
   . obtain rfl : i = m := by omega
     have := x.2; rw [A.Bs (by decide) (by decide)] at this; cases this
theorem Ag.mW (A : Ag t p u q m) {i : Nat} (hi : i ≤ m) (h : ik t (p + i, 0) = (p + m, 0)) : ik u (q + i, 0) = (q + m, 0) := by
 unfold ik at h ⊢
 by_cases c : cY t (p + i) 101 69 = true
 . rw [if_pos ⟨rfl, c⟩] at h
   have hsg : ∀ j, j ≤ bX t j 43 45 := fun j => by unfold bX; split <;> omega
   have far : m < i + 2 → False := fun hm => by
    have hr := hsg (p + i + 1)
    have h : cw t (bX t (p + i + 1) 43 45) = (p + m, 0) := h
    unfold cw at h
    by_cases a : dX t (bX t (p + i + 1) 43 45) > bX t (p + i + 1) 43 45
    . rw [if_pos a] at h
      have := congrArg Prod.fst h
      simp only at this; omega
    . rw [if_neg a] at h
      split at h <;> (have := congrArg Prod.snd h; simp at this)
   have im : i + 1 < m := by rcases Nat.lt_or_ge (i + 1) m with x | x; exact x; exact (far (by omega)).elim
   obtain ⟨s, s1, s2, s3⟩ := A.sgn (j := i + 1) (a := 43) (b := 45) im
   have s2 : bX t (p + i + 1) 43 45 = p + s := s2
   have s3 : bX u (q + i + 1) 43 45 = q + s := s3
   have h : cw t (bX t (p + i + 1) 43 45) = (p + m, 0) := h
   rw [s2] at h
   have sm : s ≤ m := by
    have := hsg (p + i + 1)
    rw [s2] at this
    have sb : bX t (p + i + 1) 43 45 ≤ p + i + 1 + 1 := by unfold bX; split <;> omega
    rw [s2] at sb; omega
   obtain ⟨n1, n2⟩ := A.lR sm (Nat.le_refl _) h
   rw [if_pos ⟨rfl, by rw [A.one (by omega)]; exact c⟩]
   show cw u (bX u (q + i + 1) 43 45) = _
   rw [s3]; exact n2
 . rw [if_neg (fun x => c x.2)] at h
   have h := congrArg Prod.fst h
   simp only at h
   obtain rfl : i = m := by omega
   rw [if_neg]
   intro x
   have := x.2; rw [A.Bs (by decide) (by decide)] at this; cases this
theorem code0 {x : Nat × Int} (h : (cj t x).2 = 0) : x.2 = 0 := by
 unfold cj at h
 split at h
 . rename_i c; exact c.1
 . exact h
theorem code1 {x : Nat × Int} (h : (ik t x).2 = 0) : x.2 = 0 := by
 unfold ik at h
 split at h
 . rename_i c; exact c.1
 . exact h
theorem Ag.num (A : Ag t p u q m) (h0 : 0 < m) (h : cy t p = (p + m, 0)) : cy u q = (q + m, 0) := by
 have hlt := A.lt
 unfold cy at h ⊢
 have c1 := code1 (t := t) (x := cj t (bm t p)) (by rw [h])
 have c0 := code0 c1
 have w1 : p ≤ (bm t p).1 := by
  have := qv t p 45 45 (by omega)
  unfold bm; split
  . show p ≤ bX t p 45 45 + 1; omega
  . have := mT t _ this.2; omega
 have b1 : (bm t p).1 ≤ (cj t (bm t p)).1 := by
  generalize bm t p = x at *
  unfold cj; split
  . have := (kc t (x.1 + 1)).1
    unfold cw; repeat' split
    all_goals (dsimp only; omega)
  . exact Nat.le_refl _
 have d1 : (cj t (bm t p)).1 ≤ p + m := by
  have e : (ik t (cj t (bm t p))).1 = p + m := by rw [h]
  rw [← e]
  generalize cj t (bm t p) = x at *
  unfold ik; split
  . have h1 : x.1 + 1 ≤ bX t (x.1 + 1) 43 45 := by unfold bX; split <;> omega
    have h2 := (kc t (bX t (x.1 + 1) 43 45)).1
    unfold cw; repeat' split
    all_goals (dsimp only; omega)
  . exact Nat.le_refl _
 obtain ⟨k1, e1⟩ : ∃ k, (bm t p).1 = p + k := ⟨(bm t p).1 - p, by omega⟩
 obtain ⟨k2, e2⟩ : ∃ k, (cj t (bm t p)).1 = p + k := ⟨(cj t (bm t p)).1 - p, by omega⟩
 have hw : bm t p = (p + k1, 0) := Prod.ext e1 c0
 have hb : cj t (bm t p) = (p + k2, 0) := Prod.ext e2 c1
 have w := A.whole h0 (by omega) hw
 rw [hw] at hb
 have b := (A.behind (i := k1) (by omega) (by omega) hb).2
 rw [w, b]
 rw [hw, hb] at h
 exact A.mW (by omega) h
end
def isNum (x : List UInt8) : Prop := 0 < x.length ∧ cy x 0 = (x.length, 0) ∧ ((x.getD 0 0).toNat = 45 ∨ c8 (x.getD 0 0) = true)
def jI (t : Tk) : Prop := (t.k = 115 ∧ cN t.t) ∨ (t.k = 110 ∧ isNum t.t) ∨ (bJ t.k = true ∧ t.t = []) ∨ ((t.k = 116 ∨ t.k = 102 ∨ t.k = 122) ∧ t.t = [])
theorem Cp {t : List UInt8} {i j k : Nat} (h : i + k < j) : (sub t i j).getD k 0 = t.getD (i + k) 0 := by
 unfold sub
 rw [zu, jS h]
theorem Lm {t : List UInt8} {i j : Nat} (h : j ≤ t.length) : (sub t i j).length = j - i := by unfold sub; rw [List.length_drop, List.length_take]; omega
theorem Hi {t : List UInt8} {i : Nat} (hi : i ≤ t.length) (h : (cy t i).2 = 0) (hf : (t.getD i 0).toNat = 45 ∨ c8 (t.getD i 0) = true) : isNum (sub t i (cy t i).1) := by
 have h1 := Bk t i hi h
 have h2 := sa t i hi
 generalize hR : cy t i = R at *
 have hl := Lm (t := t) (i := i) h2.2
 have A : Ag t i (sub t i R.1) 0 (R.1 - i) := ⟨by omega, by omega, fun j hj => by rw [Nat.zero_add, Cp (by omega)], .inl (by omega)⟩
 refine ⟨by omega, ?_, ?_⟩
 . have := A.num (by omega) (by rw [hR]; exact Prod.ext (by show R.1 = i + (R.1 - i); omega) h)
   rw [this, hl, Nat.zero_add]
 . rw [Cp (by omega), Nat.add_zero]; exact hf
theorem J4 {c : Cu} (hk : c.ok) (h : c.aN.2.k ≠ 0) : jI c.aN.2 := by
 have hc := J2 h
 have hl := eA hk
 unfold Cu.aN at h hc ⊢
 by_cases h0 : c.c ≠ 0
 . rw [if_pos h0] at h; exact absurd rfl h
 rw [if_neg h0] at h hc ⊢
 have hr := qp bQ c.a9 c.p
 have hp := hk.1
 have hd : Cu.ok { c with p := cg bQ c.a9 c.p } := ⟨by show cg bQ c.a9 c.p ≤ c.e; omega, hk.2⟩
 have e3 : ({ c with p := cg bQ c.a9 c.p } : Cu).c = 0 := by show c.c = 0; omega
 generalize ({ c with p := cg bQ c.a9 c.p } : Cu) = d at *
 have hdl := eA hd
 have hw : ∀ k : UInt8, (k = 116 ∨ k = 102 ∨ k = 122) → (d.cr k).2.k ≠ 0 → jI (d.cr k).2 := fun k hk h => by
  unfold Cu.cr at h ⊢
  by_cases z : cS d (spell k) 0 ≠ 0
  . rw [if_pos z] at h; exact absurd rfl h
  . rw [if_neg z]; exact .inr (.inr (.inr ⟨hk, rfl⟩))
 unfold Cu.ez at h hc ⊢
 by_cases a : d.p = d.e
 . rw [if_pos a] at h; exact absurd rfl h
 rw [if_neg a] at h hc ⊢
 have hlt : d.p < d.e := by have := hd.1; omega
 by_cases b : bJ d.get = true
 . rw [if_pos b]; exact .inr (.inr (.inl ⟨b, rfl⟩))
 rw [if_neg b] at h hc ⊢
 by_cases g : d.get.toNat = 34
 . rw [if_pos g] at h hc ⊢
   have hc : d.dt.1.c = 0 := hc
   unfold held
   rw [if_pos hc]
   exact .inl ⟨rfl, K8 e3 hc⟩
 rw [if_neg g] at h hc ⊢
 by_cases f : d.get.toNat = 45 ∨ c8 d.get = true
 . rw [if_pos f] at h hc ⊢
   have hc : d.fj.1.c = 0 := hc
   unfold held
   rw [if_pos hc]
   unfold Cu.fj at hc ⊢
   rw [if_neg (by omega)] at hc ⊢
   by_cases z : (cy d.a9 d.p).2 = 0
   . rw [if_neg (by omega)]
     have hg : d.a9.getD d.p 0 = d.get := by unfold Cu.a9; exact jS hlt
     have := Hi (t := d.a9) (i := d.p) (by omega) z (by rw [hg]; exact f)
     rw [Cr (by have := (sa d.a9 d.p (by omega)).2; omega)] at this
     exact .inr (.inl ⟨rfl, this⟩)
   . rw [if_pos z, fK _ e3] at hc; exact absurd hc z
 rw [if_neg f] at h hc ⊢
 by_cases w : d.get.toNat = 116 ∨ d.get.toNat = 102
 . rw [if_pos w] at h ⊢
   refine hw _ ?_ h
   rcases w with w | w
   . exact .inl (UInt8.toNat_inj.1 w)
   . exact .inr (.inl (UInt8.toNat_inj.1 w))
 rw [if_neg w] at h hc ⊢
 by_cases v : d.get.toNat = 110
 . rw [if_pos v] at h ⊢; exact hw _ (.inr (.inr rfl)) h
 rw [if_neg v] at h; exact absurd rfl h
theorem D1 (d : Cu) : ∀ (s r : List UInt8) (i : Nat), d.s.drop (d.p + i) = s ++ r → d.e = d.s.length → cS d s i = 0
 | [], _, _, _, _ => rfl
 | b :: s, r, i, h, he => by
   have hl := congrArg List.length h
   rw [List.length_drop] at hl
   simp at hl
   have h0 : d.s.getD (d.p + i) 0 = b := fH h 0
   unfold cS
   rw [if_neg (by omega), if_neg (fun x => x h0)]
   refine D1 d s r (i + 1) ?_ he
   rw [show d.p + (i + 1) = (d.p + i) + 1 from rfl, ← List.drop_drop, h]; rfl
theorem Cx {t : Tk} (h : jI t) : 0 < (cq t).length ∧ bQ ((cq t).getD 0 0) = false := by
 obtain ⟨k, x⟩ := t
 rcases h with ⟨rfl, h⟩ | ⟨rfl, h⟩ | ⟨h, rfl⟩ | ⟨h, rfl⟩
 . exact ⟨by show 0 < (quote x).length; simp [quote], by show bQ 34 = false; decide⟩
 . obtain ⟨n1, n2, n3⟩ := (show isNum x from h)
   refine ⟨n1, ?_⟩
   show bQ (x.getD 0 0) = false
   rw [qY]
   rcases n3 with z | z
   . omega
   . have := jK.1 z; omega
 . have hs : k.toNat = 123 ∨ k.toNat = 125 ∨ k.toNat = 91 ∨ k.toNat = 93 ∨ k.toNat = 58 ∨ k.toNat = 44 := of_decide_eq_true h
   have e : cq ⟨k, []⟩ = [k] := by
    rw [show cq ⟨k, []⟩ = if k.toNat = 115 then quote [] else if k.toNat = 110 then [] else if bJ k = true then [k] else spell k from rfl, if_neg (by omega), if_neg (by omega), if_pos h]
   rw [e]
   refine ⟨by simp, ?_⟩
   show bQ k = false
   rw [qY]; omega
 . rcases h with rfl | rfl | rfl <;> decide
theorem Lz {d : Cu} {t : Tk} {r : List UInt8} (he : d.e = d.s.length) (h0 : d.c = 0) (hd : d.s.drop d.p = cq t ++ r) (ht : jI t) (hs : t.k = 110 → r = [] ∨ kT (r.getD 0 0) = true) :
   d.ez = ({ d with p := d.p + (cq t).length }, t) := by
 have hl := congrArg List.length hd
 rw [List.length_drop, List.length_append] at hl
 have hpos := (Cx ht).1
 have htx : d.a9 = d.s := by unfold Cu.a9; rw [he, List.take_length]
 have hat : ∀ k, k < (cq t).length → d.s.getD (d.p + k) 0 = (cq t).getD k 0 := fun k hk => by rw [fH hd k, pG hk]
 have hbat : d.s.getD (d.p + (cq t).length) 0 = r.getD 0 0 := by
  rw [fH hd, List.getD_eq_getElem?_getD, List.getElem?_append_right (Nat.le_refl _)]; simp
 obtain ⟨k, x⟩ := t
 unfold Cu.ez
 rw [if_neg (show ¬ d.p = d.e by omega)]
 have hget : d.get = d.s.getD (d.p + 0) 0 := rfl
 rcases ht with ⟨rfl, h⟩ | ⟨rfl, h⟩ | ⟨h, rfl⟩ | ⟨h, rfl⟩
 . have e : cq ⟨115, x⟩ = quote x := rfl
   rw [e] at hd hat hl hbat hpos ⊢
   have g : d.get = 34 := by rw [hget, hat 0 (by simp [quote])]; rfl
   rw [g, if_neg (by decide), if_pos (by decide)]
   have hd1 : d.s.drop (d.p + 1) = d5 x ++ 34 :: r := by
    rw [← List.drop_drop, hd]
    simp [quote]
   have hq := H3 h d.s r [] (d.e - d.p) (d.p + 1) hd1 (by omega)
   have hrd : d.dt = ({ d with p := d.p + (quote x).length }, x) := by
    unfold Cu.dt
    rw [if_neg (by omega), if_neg (by omega), if_neg (by rw [g]; decide), he, List.take_length, ← he, hq, if_pos rfl]
    refine Prod.ext ?_ (by simp)
    simp only [quote, List.length_cons, List.length_append, List.length_nil]
    congr 1
    omega
   unfold held
   rw [hrd, if_pos h0]
 . have e : cq ⟨110, x⟩ = x := rfl
   rw [e] at hd hat hl hbat hpos ⊢
   obtain ⟨n1, n2, n3⟩ := (show isNum x from h)
   have g : d.get = x.getD 0 0 := by rw [hget, hat 0 n1]
   have gs : ¬ bJ d.get = true := fun q => by
    have q : d.get.toNat = 123 ∨ d.get.toNat = 125 ∨ d.get.toNat = 91 ∨ d.get.toNat = 93 ∨ d.get.toNat = 58 ∨ d.get.toNat = 44 := of_decide_eq_true q
    rw [g] at q
    rcases n3 with z | z
    . omega
    . have := jK.1 z; omega
   have gq : ¬ d.get.toNat = 34 := fun q => by
    rw [g] at q
    rcases n3 with z | z
    . omega
    . have := jK.1 z; omega
   rw [if_neg gs, if_neg gq, if_pos (by rw [g]; exact n3)]
   have A : Ag x 0 d.s d.p x.length := ⟨by omega, by omega, fun j hj => by rw [Nat.zero_add, hat j hj], by
    rcases hs rfl with z | z
    . subst z; simp at hl; left; omega
    . right; rw [hbat]; exact z⟩
   have hn := A.num n1 (by rw [n2, Nat.zero_add])
   have hsub : sub d.s d.p (d.p + x.length) = x := by unfold sub; rw [List.drop_take, hd, Nat.add_sub_cancel_left, List.take_left]
   have hnd : d.fj = ({ d with p := d.p + x.length }, x) := by
    unfold Cu.fj
    rw [htx, hn, if_neg (by omega), if_neg (by simp), hsub]
   unfold held
   rw [hnd, if_pos h0]
 . have hs : k.toNat = 123 ∨ k.toNat = 125 ∨ k.toNat = 91 ∨ k.toNat = 93 ∨ k.toNat = 58 ∨ k.toNat = 44 := of_decide_eq_true h
   have e : cq ⟨k, []⟩ = [k] := by
    rw [show cq ⟨k, []⟩ = if k.toNat = 115 then quote [] else if k.toNat = 110 then [] else if bJ k = true then [k] else spell k from rfl, if_neg (by omega), if_neg (by omega), if_pos h]
   rw [e] at hd hat hl hbat hpos ⊢
   have g : d.get = k := by rw [hget, hat 0 (by simp)]; rfl
   rw [g, if_pos h]; rfl
 . have e : cq ⟨k, []⟩ = spell k := by
     rcases h with rfl | rfl | rfl <;> decide
   rw [e] at hd hat hl hbat hpos ⊢
   have hw := D1 d (spell k) r 0 hd he
   have fin : d.cr k = ({ d with p := d.p + (spell k).length }, ⟨k, []⟩) := by
    unfold Cu.cr; rw [if_neg (by omega)]
   have g : d.get = (spell k).getD 0 0 := by rw [hget, hat 0 (by rcases h with rfl | rfl | rfl <;> decide)]
   rcases h with rfl | rfl | rfl
   . rw [show d.get = 116 from g, if_neg (by decide), if_neg (by decide), if_neg (by decide), if_pos (by decide)]; exact fin
   . rw [show d.get = 102 from g, if_neg (by decide), if_neg (by decide), if_neg (by decide), if_pos (by decide)]; exact fin
   . rw [show d.get = 110 from g, if_neg (by decide), if_neg (by decide), if_neg (by decide), if_neg (by decide), if_pos (by decide)]; exact fin
theorem K7 {c : Cu} (hk : c.ok) : c.dt.2.length ≤ 4 * c.s.length := by
 have h1 := hk.1
 have h2 := hk.2
 have h3 := zE (c.s.take c.e) (c.e - c.p) (c.p + 1) []
 rw [List.length_nil] at h3
 unfold Cu.dt
 repeat' split
 all_goals first
  | (show (bU (c.s.take c.e) (c.e - c.p) (c.p + 1) []).2.2.length ≤ _; omega)
  | (show ([] : List UInt8).length ≤ _; simp)
theorem zN {x : CO} {k : UInt8} {n : Nat} (h : x.2.length ≤ n) : (held x k).2.t.length ≤ n := by
 unfold held
 by_cases a : x.1.c = 0
 . rw [if_pos a]; exact h
 . rw [if_neg a]; exact Nat.zero_le _
theorem Lx {c : Cu} (hk : c.ok) : c.ez.2.t.length ≤ 4 * c.s.length := by
 have hr := K7 hk
 have hn : c.fj.2.length ≤ 4 * c.s.length := by
  unfold Cu.fj
  repeat' split
  all_goals first
   | (show ([] : List UInt8).length ≤ _; simp; done)
   | (show (sub _ _ _).length ≤ _; unfold sub; rw [List.length_drop, List.length_take]; omega)
 have hw : ∀ k, (c.cr k).2.t.length ≤ 4 * c.s.length := fun k => by
  unfold Cu.cr
  split <;> (show ([] : List UInt8).length ≤ _; simp)
 unfold Cu.ez
 repeat' split
 all_goals first
  | exact zN hr
  | exact zN hn
  | exact hw _
  | (show ([] : List UInt8).length ≤ _; simp)
theorem J3 {c : Cu} (hk : c.ok) : c.aN.2.t.length ≤ 4 * c.s.length := by
 unfold Cu.aN
 split
 . exact Nat.zero_le _
 . have hr := qp bQ c.a9 c.p
   have hl := eA hk
   have hp := hk.1
   exact Lx (c := { c with p := cg bQ c.a9 c.p }) ⟨by show cg bQ c.a9 c.p ≤ c.e; omega, hk.2⟩
end Go.Proofs.YtllncocibkgjkaaGreat
