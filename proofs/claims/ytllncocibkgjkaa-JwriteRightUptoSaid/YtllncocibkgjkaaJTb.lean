/-
  A part of the proof.
-/
import Derived.Test.YtllncocibkgjkaaJTu
import Derived.Test.YtllncocibkgjkaaJBr
set_option linter.unusedSimpArgs false
set_option linter.unusedVariables false
set_option maxHeartbeats 4000000
namespace Go.Proofs.Ytllncocibkgjkaa
open Go Go.VG
set_option maxRecDepth 100000
def jQ (b : UInt8) : Bool := decide (b.toNat = 32 ∨ b.toNat = 9 ∨ b.toNat = 10 ∨ b.toNat = 13 ∨ b.toNat = 44 ∨ b.toNat = 93 ∨ b.toNat = 125)
theorem Ap {b : UInt8} : jQ b = true ↔ b.toNat = 32 ∨ b.toNat = 9 ∨ b.toNat = 10 ∨ b.toNat = 13 ∨ b.toNat = 44 ∨ b.toNat = 93 ∨ b.toNat = 125 := decide_eq_true_iff
structure Ag (t : List UInt8) (p : Nat) (u : List UInt8) (q m : Nat) : Prop where
 lt : p + m ≤ t.length
 lu : q + m ≤ u.length
 eq : ∀ j, j < m → t.getD (p + j) 0 = u.getD (q + j) 0
 stop : q + m = u.length ∨ jQ (u.getD (q + m) 0) = true
section
variable {t u : List UInt8} {p q m : Nat}
theorem H9 {t : List UInt8} {i : Nat} (h : ea t i ≠ i) : i < t.length ∧ bM (t.getD i 0) = true := by
 rcases Nat.lt_or_ge i t.length with a | a
 . refine ⟨a, ?_⟩
   cases d : bM (t.getD i 0) with
   | true => rfl
   | false => exact absurd (m8 (.inr d)) h
 . exact absurd (m8 (.inl a)) h
theorem Ha {t : List UInt8} {i : Nat} (hi : i < t.length) (h : ea t i = i) : bM (t.getD i 0) = false := by
 cases d : bM (t.getD i 0) with
 | false => rfl
 | true =>
   have := nC hi d
   have := (kU t (i + 1)).1
   omega
theorem Bp {b : UInt8} (h : jQ b = true) : bM b = false := by
 rw [ou]; have := Ap.1 h; omega
theorem Ag.run (A : Ag t p u q m) : ∀ (d j k : Nat), k - j ≤ d → j ≤ k → k ≤ m → ea t (p + j) = p + k → ea u (q + j) = q + k
 | d, j, k, hd, hjk, hkm, h => by
   have hlt := A.lt
   have hlu := A.lu
   by_cases e : j = k
   . subst e
     refine m8 ?_
     by_cases hm : j < m
     . right
       rw [← A.eq j hm]
       exact Ha (by omega) h
     . obtain rfl : j = m := by omega
       rcases A.stop with s | s
       . left; omega
       . right; exact Bp s
   . obtain ⟨h1, h2⟩ := H9 (t := t) (i := p + j) (by omega)
     have h3 := nC h1 h2
     rw [h] at h3
     have h4 : bM (u.getD (q + j) 0) = true := by rw [← A.eq j (by omega)]; exact h2
     rw [nC (by omega) h4]
     match d with
     | 0 => omega
     | d + 1 => exact A.run d (j + 1) k (by omega) (by omega) hkm h3.symm
theorem Ag.one (A : Ag t p u q m) {j a b : Nat} (hj : j < m) : eu u (q + j) a b = eu t (p + j) a b := by
 have hlt := A.lt
 have hlu := A.lu
 unfold eu
 rw [A.eq j hj, decide_eq_true (show q + j < u.length by omega), decide_eq_true (show p + j < t.length by omega)]
theorem Ag.zx (A : Ag t p u q m) {a b : Nat} (ha : a ≠ 32 ∧ a ≠ 9 ∧ a ≠ 10 ∧ a ≠ 13 ∧ a ≠ 44 ∧ a ≠ 93 ∧ a ≠ 125) (hb : b ≠ 32 ∧ b ≠ 9 ∧ b ≠ 10 ∧ b ≠ 13 ∧ b ≠ 44 ∧ b ≠ 93 ∧ b ≠ 125) : eu u (q + m) a b = false := by
 rw [tY]
 rcases A.stop with s | s
 . omega
 . have := Ap.1 s; omega
theorem Ag.kN (A : Ag t p u q m) {j k : Nat} (hj : j ≤ m) (hk : k ≤ m) (h : cH t (p + j) = (p + k, 0)) : j < k ∧ cH u (q + j) = (q + k, 0) := by
 have hr := kU t (p + j)
 unfold cH at h
 by_cases a : ea t (p + j) > p + j
 . rw [if_pos a] at h
   have h := congrArg Prod.fst h
   simp only at h
   have r := A.run (k - j) j k (Nat.le_refl _) (by omega) hk h
   refine ⟨by omega, ?_⟩
   unfold cH
   rw [if_pos (by omega), r]
 . rw [if_neg a] at h
   split at h
   . have := congrArg Prod.snd h; simp at this
   . have := congrArg Prod.snd h; simp at this
theorem Ag.sgn (A : Ag t p u q m) {j a b : Nat} (hj : j < m) : ∃ s, j ≤ s ∧ bJ t (p + j) a b = p + s ∧ bJ u (q + j) a b = q + s := by
 unfold bJ
 rw [A.one hj]
 split
 . exact ⟨j + 1, by omega, rfl, rfl⟩
 . exact ⟨j, Nat.le_refl _, rfl, rfl⟩
theorem Ag.whole (A : Ag t p u q m) {k : Nat} (h0 : 0 < m) (hk : k ≤ m) (h : bd t p = (p + k, 0)) : bd u q = (q + k, 0) := by
 obtain ⟨s, s1, s2, s3⟩ := A.sgn (j := 0) (a := 45) (b := 45) h0
 have s2 : bJ t p 45 45 = p + s := s2
 have s3 : bJ u q 45 45 = q + s := s3
 have sb : bJ t p 45 45 ≤ p + 1 := by unfold bJ; split <;> omega
 unfold bd at h ⊢
 rw [s2] at h sb
 rw [s3]
 by_cases c : eu t (p + s) 48 48 = true
 . rw [if_pos c] at h
   have h := congrArg Prod.fst h
   simp only at h
   rw [if_pos (by rw [A.one (by omega)]; exact c)]
   exact Prod.ext (by show q + s + 1 = q + k; omega) rfl
 . rw [if_neg c] at h
   obtain ⟨n1, n2⟩ := A.kN (j := s) (by omega) hk h
   rw [if_neg (by rw [A.one (by omega)]; exact c)]
   exact n2
theorem Ag.behind (A : Ag t p u q m) {i k : Nat} (hi : i ≤ m) (hk : k ≤ m) (h : bZ t (p + i, 0) = (p + k, 0)) : i ≤ k ∧ bZ u (q + i, 0) = (q + k, 0) := by
 unfold bZ at h ⊢
 by_cases c : eu t (p + i) 46 46 = true
 . rw [if_pos ⟨rfl, c⟩] at h
   have hr := kU t (p + i + 1)
   have hn : cH t (p + (i + 1)) = (p + k, 0) := h
   by_cases im : i < m
   . obtain ⟨n1, n2⟩ := A.kN (j := i + 1) (by omega) hk hn
     rw [if_pos ⟨rfl, by rw [A.one im]; exact c⟩]
     exact ⟨by omega, n2⟩
   . exfalso
     unfold cH at hn
     by_cases a : ea t (p + (i + 1)) > p + (i + 1)
     . rw [if_pos a] at hn
       have := congrArg Prod.fst hn
       simp only at this; omega
     . rw [if_neg a] at hn
       split at hn <;> (have := congrArg Prod.snd hn; simp at this)
 . rw [if_neg (fun x => c x.2)] at h
   have h := congrArg Prod.fst h
   simp only at h
   obtain rfl : i = k := by omega
   refine ⟨Nat.le_refl _, ?_⟩
   rw [if_neg]
   intro x
   by_cases im : i < m
   . have := x.2; rw [A.one im] at this; exact c this
   . obtain rfl : i = m := by omega
     have := x.2; rw [A.zx (by decide) (by decide)] at this; cases this
theorem Ag.lW (A : Ag t p u q m) {i : Nat} (hi : i ≤ m) (h : gG t (p + i, 0) = (p + m, 0)) : gG u (q + i, 0) = (q + m, 0) := by
 unfold gG at h ⊢
 by_cases c : eu t (p + i) 101 69 = true
 . rw [if_pos ⟨rfl, c⟩] at h
   have hsg : ∀ j, j ≤ bJ t j 43 45 := fun j => by unfold bJ; split <;> omega
   have far : m < i + 2 → False := fun hm => by
    have hr := hsg (p + i + 1)
    have h : cH t (bJ t (p + i + 1) 43 45) = (p + m, 0) := h
    unfold cH at h
    by_cases a : ea t (bJ t (p + i + 1) 43 45) > bJ t (p + i + 1) 43 45
    . rw [if_pos a] at h
      have := congrArg Prod.fst h
      simp only at this; omega
    . rw [if_neg a] at h
      split at h <;> (have := congrArg Prod.snd h; simp at this)
   have im : i + 1 < m := by rcases Nat.lt_or_ge (i + 1) m with x | x; exact x; exact (far (by omega)).elim
   obtain ⟨s, s1, s2, s3⟩ := A.sgn (j := i + 1) (a := 43) (b := 45) im
   have s2 : bJ t (p + i + 1) 43 45 = p + s := s2
   have s3 : bJ u (q + i + 1) 43 45 = q + s := s3
   have h : cH t (bJ t (p + i + 1) 43 45) = (p + m, 0) := h
   rw [s2] at h
   have sm : s ≤ m := by
    have := hsg (p + i + 1)
    rw [s2] at this
    have sb : bJ t (p + i + 1) 43 45 ≤ p + i + 1 + 1 := by unfold bJ; split <;> omega
    rw [s2] at sb; omega
   obtain ⟨n1, n2⟩ := A.kN sm (Nat.le_refl _) h
   rw [if_pos ⟨rfl, by rw [A.one (by omega)]; exact c⟩]
   show cH u (bJ u (q + i + 1) 43 45) = _
   rw [s3]; exact n2
 . rw [if_neg (fun x => c x.2)] at h
   have h := congrArg Prod.fst h
   simp only at h
   obtain rfl : i = m := by omega
   rw [if_neg]
   intro x
   have := x.2; rw [A.zx (by decide) (by decide)] at this; cases this
theorem code0 {x : Nat × Int} (h : (bZ t x).2 = 0) : x.2 = 0 := by
 unfold bZ at h
 split at h
 . rename_i c; exact c.1
 . exact h
theorem code1 {x : Nat × Int} (h : (gG t x).2 = 0) : x.2 = 0 := by
 unfold gG at h
 split at h
 . rename_i c; exact c.1
 . exact h
theorem Ag.num (A : Ag t p u q m) (h0 : 0 < m) (h : cR t p = (p + m, 0)) : cR u q = (q + m, 0) := by
 have hlt := A.lt
 unfold cR at h ⊢
 have c1 := code1 (t := t) (x := bZ t (bd t p)) (by rw [h])
 have c0 := code0 c1
 have w1 : p ≤ (bd t p).1 := by
  have := px t p 45 45 (by omega)
  unfold bd; split
  . show p ≤ bJ t p 45 45 + 1; omega
  . have := nq t _ this.2; omega
 have b1 : (bd t p).1 ≤ (bZ t (bd t p)).1 := by
  generalize bd t p = x at *
  unfold bZ; split
  . have := (kU t (x.1 + 1)).1
    unfold cH; repeat' split
    all_goals (dsimp only; omega)
  . exact Nat.le_refl _
 have d1 : (bZ t (bd t p)).1 ≤ p + m := by
  have e : (gG t (bZ t (bd t p))).1 = p + m := by rw [h]
  rw [← e]
  generalize bZ t (bd t p) = x at *
  unfold gG; split
  . have h1 : x.1 + 1 ≤ bJ t (x.1 + 1) 43 45 := by unfold bJ; split <;> omega
    have h2 := (kU t (bJ t (x.1 + 1) 43 45)).1
    unfold cH; repeat' split
    all_goals (dsimp only; omega)
  . exact Nat.le_refl _
 obtain ⟨k1, e1⟩ : ∃ k, (bd t p).1 = p + k := ⟨(bd t p).1 - p, by omega⟩
 obtain ⟨k2, e2⟩ : ∃ k, (bZ t (bd t p)).1 = p + k := ⟨(bZ t (bd t p)).1 - p, by omega⟩
 have hw : bd t p = (p + k1, 0) := Prod.ext e1 c0
 have hb : bZ t (bd t p) = (p + k2, 0) := Prod.ext e2 c1
 have w := A.whole h0 (by omega) hw
 rw [hw] at hb
 have b := (A.behind (i := k1) (by omega) (by omega) hb).2
 rw [w, b]
 rw [hw, hb] at h
 exact A.lW (by omega) h
end
def isNum (x : List UInt8) : Prop := 0 < x.length ∧ cR x 0 = (x.length, 0) ∧ ((x.getD 0 0).toNat = 45 ∨ bM (x.getD 0 0) = true)
def lg (t : Tk) : Prop := (t.k = 115 ∧ gP t.t) ∨ (t.k = 110 ∧ isNum t.t) ∨ (dL t.k = true ∧ t.t = []) ∨ ((t.k = 116 ∨ t.k = 102 ∨ t.k = 122) ∧ t.t = [])
theorem B1 (d : Cu) : ∀ (s r : List UInt8) (i : Nat), d.s.drop (d.p + i) = s ++ r → d.e = d.s.length → fD d s i = 0
 | [], _, _, _, _ => rfl
 | b :: s, r, i, h, he => by
   have hl := congrArg List.length h
   rw [List.length_drop] at hl
   simp at hl
   have h0 : d.s.getD (d.p + i) 0 = b := dD h 0
   unfold fD
   rw [if_neg (by omega), if_neg (fun x => x h0)]
   refine B1 d s r (i + 1) ?_ he
   rw [show d.p + (i + 1) = (d.p + i) + 1 from rfl, ← List.drop_drop, h]; rfl
theorem AB {t : Tk} (h : lg t) : 0 < (bG t).length ∧ d6 ((bG t).getD 0 0) = false := by
 obtain ⟨k, x⟩ := t
 rcases h with ⟨rfl, h⟩ | ⟨rfl, h⟩ | ⟨h, rfl⟩ | ⟨h, rfl⟩
 . exact ⟨by show 0 < (quote x).length; simp [quote], by show d6 34 = false; decide⟩
 . obtain ⟨n1, n2, n3⟩ := (show isNum x from h)
   refine ⟨n1, ?_⟩
   show d6 (x.getD 0 0) = false
   rw [sv]
   rcases n3 with z | z
   . omega
   . have := jv.1 z; omega
 . have hs : k.toNat = 123 ∨ k.toNat = 125 ∨ k.toNat = 91 ∨ k.toNat = 93 ∨ k.toNat = 58 ∨ k.toNat = 44 := of_decide_eq_true h
   have e : bG ⟨k, []⟩ = [k] := by
    rw [show bG ⟨k, []⟩ = if k.toNat = 115 then quote [] else if k.toNat = 110 then [] else if dL k = true then [k] else spell k from rfl, if_neg (by omega), if_neg (by omega), if_pos h]
   rw [e]
   refine ⟨by simp, ?_⟩
   show d6 k = false
   rw [sv]; omega
 . rcases h with rfl | rfl | rfl <;> decide
theorem Im {d : Cu} {t : Tk} {r : List UInt8} (he : d.e = d.s.length) (h0 : d.c = 0) (hd : d.s.drop d.p = bG t ++ r) (ht : lg t) (hs : t.k = 110 → r = [] ∨ jQ (r.getD 0 0) = true) :
   d.iA = ({ d with p := d.p + (bG t).length }, t) := by
 have hl := congrArg List.length hd
 rw [List.length_drop, List.length_append] at hl
 have hpos := (AB ht).1
 have htx : d.a8 = d.s := by unfold Cu.a8; rw [he, List.take_length]
 have hat : ∀ k, k < (bG t).length → d.s.getD (d.p + k) 0 = (bG t).getD k 0 := fun k hk => by rw [dD hd k, oH hk]
 have hbat : d.s.getD (d.p + (bG t).length) 0 = r.getD 0 0 := by
  rw [dD hd, List.getD_eq_getElem?_getD, List.getElem?_append_right (Nat.le_refl _)]; simp
 obtain ⟨k, x⟩ := t
 unfold Cu.iA
 rw [if_neg (show ¬ d.p = d.e by omega)]
 have hget : d.get = d.s.getD (d.p + 0) 0 := rfl
 rcases ht with ⟨rfl, h⟩ | ⟨rfl, h⟩ | ⟨h, rfl⟩ | ⟨h, rfl⟩
 . have e : bG ⟨115, x⟩ = quote x := rfl
   rw [e] at hd hat hl hbat hpos ⊢
   have g : d.get = 34 := by rw [hget, hat 0 (by simp [quote])]; rfl
   rw [g, if_neg (by decide), if_pos (by decide)]
   have hd1 : d.s.drop (d.p + 1) = b8 x ++ 34 :: r := by
    rw [← List.drop_drop, hd]
    simp [quote]
   have hq := Ep h d.s r [] (d.e - d.p) (d.p + 1) hd1 (by omega)
   have hrd : d.gJ = ({ d with p := d.p + (quote x).length }, x) := by
    unfold Cu.gJ
    rw [if_neg (by omega), if_neg (by omega), if_neg (by rw [g]; decide), he, List.take_length, ← he, hq, if_pos rfl]
    refine Prod.ext ?_ (by simp)
    simp only [quote, List.length_cons, List.length_append, List.length_nil]
    congr 1
    omega
   unfold held
   rw [hrd, if_pos h0]
 . have e : bG ⟨110, x⟩ = x := rfl
   rw [e] at hd hat hl hbat hpos ⊢
   obtain ⟨n1, n2, n3⟩ := (show isNum x from h)
   have g : d.get = x.getD 0 0 := by rw [hget, hat 0 n1]
   have gs : ¬ dL d.get = true := fun q => by
    have q : d.get.toNat = 123 ∨ d.get.toNat = 125 ∨ d.get.toNat = 91 ∨ d.get.toNat = 93 ∨ d.get.toNat = 58 ∨ d.get.toNat = 44 := of_decide_eq_true q
    rw [g] at q
    rcases n3 with z | z
    . omega
    . have := jv.1 z; omega
   have gq : ¬ d.get.toNat = 34 := fun q => by
    rw [g] at q
    rcases n3 with z | z
    . omega
    . have := jv.1 z; omega
   rw [if_neg gs, if_neg gq, if_pos (by rw [g]; exact n3)]
   have A : Ag x 0 d.s d.p x.length := ⟨by omega, by omega, fun j hj => by rw [Nat.zero_add, hat j hj], by
    rcases hs rfl with z | z
    . subst z; simp at hl; left; omega
    . right; rw [hbat]; exact z⟩
   have hn := A.num n1 (by rw [n2, Nat.zero_add])
   have hsub : sub d.s d.p (d.p + x.length) = x := by unfold sub; rw [List.drop_take, hd, Nat.add_sub_cancel_left, List.take_left]
   have hnd : d.kP = ({ d with p := d.p + x.length }, x) := by
    unfold Cu.kP
    rw [htx, hn, if_neg (by omega), if_neg (by simp), hsub]
   unfold held
   rw [hnd, if_pos h0]
 . have hs : k.toNat = 123 ∨ k.toNat = 125 ∨ k.toNat = 91 ∨ k.toNat = 93 ∨ k.toNat = 58 ∨ k.toNat = 44 := of_decide_eq_true h
   have e : bG ⟨k, []⟩ = [k] := by
    rw [show bG ⟨k, []⟩ = if k.toNat = 115 then quote [] else if k.toNat = 110 then [] else if dL k = true then [k] else spell k from rfl, if_neg (by omega), if_neg (by omega), if_pos h]
   rw [e] at hd hat hl hbat hpos ⊢
   have g : d.get = k := by rw [hget, hat 0 (by simp)]; rfl
   rw [g, if_pos h]; rfl
 . have e : bG ⟨k, []⟩ = spell k := by
     rcases h with rfl | rfl | rfl <;> decide
   rw [e] at hd hat hl hbat hpos ⊢
   have hw := B1 d (spell k) r 0 hd he
   have fin : d.fC k = ({ d with p := d.p + (spell k).length }, ⟨k, []⟩) := by
    unfold Cu.fC; rw [if_neg (by omega)]
   have g : d.get = (spell k).getD 0 0 := by rw [hget, hat 0 (by rcases h with rfl | rfl | rfl <;> decide)]
   rcases h with rfl | rfl | rfl
   . rw [show d.get = 116 from g, if_neg (by decide), if_neg (by decide), if_neg (by decide), if_pos (by decide)]; exact fin
   . rw [show d.get = 102 from g, if_neg (by decide), if_neg (by decide), if_neg (by decide), if_pos (by decide)]; exact fin
   . rw [show d.get = 110 from g, if_neg (by decide), if_neg (by decide), if_neg (by decide), if_neg (by decide), if_pos (by decide)]; exact fin
end Go.Proofs.Ytllncocibkgjkaa
