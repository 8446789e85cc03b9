/-
  A part of the proof.
-/
import Derived.Test.YtllncocibkgjkaaGreatJRe
import Derived.Test.YtllncocibkgjkaaGreatJTu
set_option linter.unusedSimpArgs false
set_option linter.unusedVariables false
set_option maxHeartbeats 4000000
namespace Go.Proofs.YtllncocibkgjkaaGreat
open Go Go.VG
set_option maxRecDepth 100000
def nn (x : List UInt8) : Prop := 0 < x.length ∧ (bg x 0).2 = x.length
inductive dk : List UInt8 → Prop where
 | nil : dk []
 | cons (x r : List UInt8) (h : nn x) (k : dk r) : dk (x ++ r)
theorem dk.append {x y : List UInt8} (h : dk x) (k : dk y) : dk (x ++ y) := by
 induction h with
 | nil => exact k
 | cons x r h _ ih => rw [List.append_assoc]; exact .cons x _ h ih
theorem dk.one {x : List UInt8} (h : nn x) : dk x := by have := dk.cons x [] h .nil; simpa using this
theorem Hx (t : List UInt8) (i k : Nat) : (t.drop i).getD k 0 = t.getD (i + k) 0 := by
 rw [List.getD_eq_getElem?_getD, List.getD_eq_getElem?_getD, List.getElem?_drop]
theorem pX {x r : List UInt8} {k : Nat} (h : k < x.length) : (x ++ r).getD k 0 = x.getD k 0 := by
 rw [List.getD_eq_getElem?_getD, List.getD_eq_getElem?_getD, List.getElem?_append_left h]
theorem E4 {t : List UInt8} {i : Nat} (hi : i < t.length) (h : (bg t i).2 ≠ 0) : nn ((t.drop i).take (bg t i).2) ∧ ((t.drop i).take (bg t i).2).length = (bg t i).2 := by
 have hr := qY t i
 have hl : ((t.drop i).take (bg t i).2).length = (bg t i).2 := by rw [List.length_take, List.length_drop]; omega
 refine ⟨⟨by omega, ?_⟩, hl⟩
 rw [hl]
 have e := wi t i
 rw [if_neg (by omega)] at e
 rw [e] at h ⊢
 generalize t.drop i = x at *
 rw [← ng] at h ⊢
 have hx : 0 < x.length := by
  rcases Nat.lt_or_ge 0 x.length with q | q
  . exact q
  . exact absurd (by unfold cR; rw [if_pos (by omega)]) h
 rcases we x hx with k | ⟨k1, k2, k3, k4⟩
 . exact absurd k h
 . rw [← ng, wh x _ (by omega) (by omega) (by omega)]
theorem E3 {b : UInt8} (h : b.toNat < 128) : nn [b] := by
 refine ⟨by simp, ?_⟩
 rw [← ng]
 unfold cR
 have e : ([b] : List UInt8).getD 0 0 = b := rfl
 have u : aZ b.toNat = 1 := by unfold aZ; rw [if_pos h]
 rw [e, u, if_neg (by simp), if_neg (by omega), if_neg (by simp), if_pos rfl]; rfl
theorem z9 {n : Int} (h0 : 0 ≤ n) (h1 : n ≤ 1114111) (hs : n < 55296 ∨ 57343 < n) : nn (ba n) := by
 have hl := pf n
 refine ⟨by omega, ?_⟩
 have hg : b9 (ba n) = n := by
  unfold ba
  repeat' split
  all_goals
   simp only [b9, ec, List.getD_cons_zero, List.getD_cons_succ, List.length_cons, List.length_nil]
   repeat (first | rw [db (by omega)])
  . split
    . rfl
    . have := db (n := n) (by omega); omega
  . have a := db (n := 192 + n / 64) (by omega)
    have b := db (n := 128 + n % 64) (by omega)
    rw [if_neg (by omega), if_neg (by omega), if_neg (by omega), if_neg (by omega)]; omega
  . have a := db (n := 224 + n / 4096) (by omega)
    have b := db (n := 128 + n / 64 % 64) (by omega)
    have c := db (n := 128 + n % 64) (by omega)
    rw [if_neg (by omega), if_neg (by omega), if_pos (by omega), if_neg (by omega), if_neg (by omega)]; omega
  . have a := db (n := 240 + n / 262144) (by omega)
    have b := db (n := 128 + n / 4096 % 64) (by omega)
    have c := db (n := 128 + n / 64 % 64) (by omega)
    have d := db (n := 128 + n % 64) (by omega)
    rw [if_neg (by omega), if_pos (by omega), if_neg (by omega), if_neg (by omega), if_neg (by omega)]; omega
 unfold bg
 have hi : cK n = true := (gQ n).2 ⟨h0, h1, hs⟩
 rw [List.drop_zero, hg, if_neg (by omega), if_neg (by rw [hi]; simp; omega), if_pos (by rw [List.take_length])]
end Go.Proofs.YtllncocibkgjkaaGreat
namespace Go.Proofs.YtllncocibkgjkaaGreat
open Go Go.VG
set_option maxRecDepth 100000
theorem Ep (t : List UInt8) (i : Nat) : (     cO t i).2.2 = 0 → dk (cO t i).1 := by
  have hd := fun j => rH t 4 j 0 1 (by omega) (by omega) (by omega)
  have h1 := hd (i + 1)
  have h2 := hd (i + 5 + 2)
  unfold cO cP
  repeat' split
  all_goals intro h
  all_goals first
    | (exfalso; simp at h; done)
    | (exfalso; exact absurd h (by assumption))
    | skip
  . rename_i hp
    refine dk.one ?_
    show nn (gm _)
    unfold gm
    rw [if_pos hp]
    have hv : lZ (t.getD i 0) < 128 := by     unfold lZ; repeat' split
                                              all_goals omega
    exact E3 (by have := db (n := lZ (t.getD i 0)) (by omega); omega)
  . refine dk.one (z9 ?_ ?_ ?_) <;> omega
  . refine dk.one (z9 ?_ ?_ ?_) <;> omega
theorem Ke (t : List UInt8) (i : Nat) (hi : i < t.length) : (bJ t i).2.2 = 0 → dk (bJ t i).1 := by
 unfold bJ
 repeat' split
 all_goals intro h
 . exact Ep t _ h
 . exfalso; simp at h
 . exfalso; simp at h
 . rename_i q
   rw [List.drop_take, Nat.add_sub_cancel_left]
   exact dk.one (E4 hi q).1
theorem Ah (t : List UInt8) : ∀ (n i : Nat) (o : List UInt8), dk o → (ct t n i o).1 = 0 → dk (ct t n i o).2.2
 | 0, _, _, _, h => by rw [ct] at h; simp at h
 | n + 1, i, o, ho, h => by
   rw [ct] at h ⊢
   by_cases a : t.length ≤ i
   . rw [if_pos a] at h; simp at h
   . rw [if_neg a] at h ⊢
     by_cases b : (t.getD i 0).toNat = 34
     . rw [if_pos b]; exact ho
     . rw [if_neg b] at h ⊢
       by_cases c : (bJ t i).2.2 ≠ 0
       . rw [if_pos c] at h; exact absurd h c
       . rw [if_neg c] at h ⊢
         exact Ah t n _ _ (ho.append (Ke t i (by omega) (by omega))) h
theorem KC {c : Cu} (h0 : c.c = 0) (h : c.ea.1.c = 0) : dk c.ea.2 := by
 have e : ∀ k : Int, k ≠ 0 → (c.fail k).c ≠ 0 := fun k hk => by rw [fO _ h0]; exact hk
 unfold Cu.ea at h ⊢
 rw [if_neg (by omega)] at h ⊢
 by_cases a : c.p = c.e
 . rw [if_pos a] at h; exact absurd h (e 1 (by decide))
 rw [if_neg a] at h ⊢
 by_cases b : c.get.toNat ≠ 34
 . rw [if_pos b] at h; exact absurd h (e 3 (by decide))
 rw [if_neg b] at h ⊢
 by_cases d : (ct (c.s.take c.e) (c.e - c.p) (c.p + 1) []).1 = 0
 . rw [if_pos d]; exact Ah _ _ _ _ .nil d
 . rw [if_neg d] at h; exact absurd h (e _ d)
theorem Kd (t : List UInt8) (i : Nat) : (bJ t i).2.2 = 0 → (bJ t i).1.length ≤ 4 := by
 have hr := qY t i
 unfold bJ
 repeat' split
 all_goals intro h
 . have := zB t (i + 1) h; omega
 . exfalso; simp at h
 . exfalso; simp at h
 . show ((t.take (i + (bg t i).2)).drop i).length ≤ 4
   rw [List.length_drop, List.length_take]; omega
theorem Ad : ∀ (t : List UInt8) (n i : Nat) (o : List UInt8), (ct t n i o).2.2.length ≤ o.length + 4 * n
 | t, 0, _, _ => by rw [ct]; simp
 | t, n + 1, i, o => by
   rw [ct]
   repeat' split
   . simp
   . show o.length ≤ _; omega
   . simp
   . have h := Kd t i (by omega)
     have := Ad t n (bJ t i).2.1.toNat (o ++ (bJ t i).1)
     rw [List.length_append] at this; omega
end Go.Proofs.YtllncocibkgjkaaGreat
namespace Go.Proofs.YtllncocibkgjkaaGreat
open Go Go.VG
set_option maxRecDepth 100000
def xW (b : UInt8) : Bool := decide (b.toNat = 32 ∨ b.toNat = 9 ∨ b.toNat = 10 ∨ b.toNat = 13 ∨ b.toNat = 44 ∨ b.toNat = 93 ∨ b.toNat = 125)
theorem CC {b : UInt8} : xW b = true ↔ b.toNat = 32 ∨ b.toNat = 9 ∨ b.toNat = 10 ∨ b.toNat = 13 ∨ b.toNat = 44 ∨ b.toNat = 93 ∨ b.toNat = 125 := decide_eq_true_iff
structure Ag (t : List UInt8) (p : Nat) (u : List UInt8) (q m : Nat) : Prop where
 lt : p + m ≤ t.length
 lu : q + m ≤ u.length
 eq : ∀ j, j < m → t.getD (p + j) 0 = u.getD (q + j) 0
 stop : q + m = u.length ∨ xW (u.getD (q + m) 0) = true
section
variable {t u : List UInt8} {p q m : Nat}
theorem KJ {t : List UInt8} {i : Nat} (h : dx t i ≠ i) : i < t.length ∧ aN (t.getD i 0) = true := by
 rcases Nat.lt_or_ge i t.length with a | a
 . refine ⟨a, ?_⟩
   cases d : aN (t.getD i 0) with
   | true => rfl
   | false => exact absurd (mb (.inr d)) h
 . exact absurd (mb (.inl a)) h
theorem KK {t : List UInt8} {i : Nat} (hi : i < t.length) (h : dx t i = i) : aN (t.getD i 0) = false := by
 cases d : aN (t.getD i 0) with
 | false => rfl
 | true =>
   have := oU hi d
   have := (k9 t (i + 1)).1
   omega
theorem DP {b : UInt8} (h : xW b = true) : aN b = false := by
 rw [nD]; have := CC.1 h; omega
theorem Ag.run (A : Ag t p u q m) : ∀ (d j k : Nat), k - j ≤ d → j ≤ k → k ≤ m → dx t (p + j) = p + k → dx u (q + j) = q + k
 | d, j, k, hd, hjk, hkm, h => by
   have hlt := A.lt
   have hlu := A.lu
   by_cases e : j = k
   . subst e
     refine mb ?_
     by_cases hm : j < m
     . right
       rw [← A.eq j hm]
       exact KK (by omega) h
     . obtain rfl : j = m := by omega
       rcases A.stop with s | s
       . left; omega
       . right; exact DP s
   . obtain ⟨h1, h2⟩ := KJ (t := t) (i := p + j) (by omega)
     have h3 := oU h1 h2
     rw [h] at h3
     have h4 : aN (u.getD (q + j) 0) = true := by rw [← A.eq j (by omega)]; exact h2
     rw [oU (by omega) h4]
     match d with
     | 0 => omega
     | d + 1 => exact A.run d (j + 1) k (by omega) (by omega) hkm h3.symm
theorem Ag.one (A : Ag t p u q m) {j a b : Nat} (hj : j < m) : bI u (q + j) a b = bI t (p + j) a b := by
 have hlt := A.lt
 have hlu := A.lu
 unfold bI
 rw [A.eq j hj, decide_eq_true (show q + j < u.length by omega), decide_eq_true (show p + j < t.length by omega)]
theorem Ag.BP (A : Ag t p u q m) {a b : Nat} (ha : a ≠ 32 ∧ a ≠ 9 ∧ a ≠ 10 ∧ a ≠ 13 ∧ a ≠ 44 ∧ a ≠ 93 ∧ a ≠ 125) (hb : b ≠ 32 ∧ b ≠ 9 ∧ b ≠ 10 ∧ b ≠ 13 ∧ b ≠ 44 ∧ b ≠ 93 ∧ b ≠ 125) : bI u (q + m) a b = false := by
 rw [oN]
 rcases A.stop with s | s
 . omega
 . have := CC.1 s; omega
theorem Ag.lW (A : Ag t p u q m) {j k : Nat} (hj : j ≤ m) (hk : k ≤ m) (h : bW t (p + j) = (p + k, 0)) : j < k ∧ bW u (q + j) = (q + k, 0) := by
 have hr := k9 t (p + j)
 unfold bW at h
 by_cases a : dx t (p + j) > p + j
 . rw [if_pos a] at h
   have h := congrArg Prod.fst h
   simp only at h
   have r := A.run (k - j) j k (Nat.le_refl _) (by omega) hk h
   refine ⟨by omega, ?_⟩
   unfold bW
   rw [if_pos (by omega), r]
 . rw [if_neg a] at h
   split at h
   . have := congrArg Prod.snd h; simp at this
   . have := congrArg Prod.snd h; simp at this
theorem Ag.sgn (A : Ag t p u q m) {j a b : Nat} (hj : j < m) : ∃ s, j ≤ s ∧ bo t (p + j) a b = p + s ∧ bo u (q + j) a b = q + s := by
 unfold bo
 rw [A.one hj]
 split
 . exact ⟨j + 1, by omega, rfl, rfl⟩
 . exact ⟨j, Nat.le_refl _, rfl, rfl⟩
theorem Ag.whole (A : Ag t p u q m) {k : Nat} (h0 : 0 < m) (hk : k ≤ m) (h : aM t p = (p + k, 0)) : aM u q = (q + k, 0) := by
 obtain ⟨s, s1, s2, s3⟩ := A.sgn (j := 0) (a := 45) (b := 45) h0
 have s2 : bo t p 45 45 = p + s := s2
 have s3 : bo u q 45 45 = q + s := s3
 have sb : bo t p 45 45 ≤ p + 1 := by unfold bo; split <;> omega
 unfold aM at h ⊢
 rw [s2] at h sb
 rw [s3]
 by_cases c : bI t (p + s) 48 48 = true
 . rw [if_pos c] at h
   have h := congrArg Prod.fst h
   simp only at h
   rw [if_pos (by rw [A.one (by omega)]; exact c)]
   exact Prod.ext (by show q + s + 1 = q + k; omega) rfl
 . rw [if_neg c] at h
   obtain ⟨n1, n2⟩ := A.lW (j := s) (by omega) hk h
   rw [if_neg (by rw [A.one (by omega)]; exact c)]
   exact n2
theorem Ag.behind (A : Ag t p u q m) {i k : Nat} (hi : i ≤ m) (hk : k ≤ m) (h : bz t (p + i, 0) = (p + k, 0)) : i ≤ k ∧ bz u (q + i, 0) = (q + k, 0) := by
 unfold bz at h ⊢
 by_cases c : bI t (p + i) 46 46 = true
 . rw [if_pos ⟨rfl, c⟩] at h
   have hr := k9 t (p + i + 1)
   have hn : bW t (p + (i + 1)) = (p + k, 0) := h
   by_cases im : i < m
   . obtain ⟨n1, n2⟩ := A.lW (j := i + 1) (by omega) hk hn
     rw [if_pos ⟨rfl, by rw [A.one im]; exact c⟩]
     exact ⟨by omega, n2⟩
   . exfalso
     unfold bW at hn
     by_cases a : dx t (p + (i + 1)) > p + (i + 1)
     . rw [if_pos a] at hn
       have := congrArg Prod.fst hn
       simp only at this; omega
     . rw [if_neg a] at hn
       split at hn <;> (have := congrArg Prod.snd hn; simp at this)
 . rw [if_neg (fun x => c x.2)] at h
   have h := congrArg Prod.fst h
   simp only at h
   obtain rfl : i = k := by omega
   refine ⟨Nat.le_refl _, ?_⟩
   rw [if_neg]
   intro x
   by_cases im : i < m
   . have := x.2; rw [A.one im] at this; exact c this
   . obtain rfl : i = m := by omega
     have := x.2; rw [A.BP (by decide) (by decide)] at this; cases this
theorem Ag.m6 (A : Ag t p u q m) {i : Nat} (hi : i ≤ m) (h : gj t (p + i, 0) = (p + m, 0)) : gj u (q + i, 0) = (q + m, 0) := by
 unfold gj at h ⊢
 by_cases c : bI t (p + i) 101 69 = true
 . rw [if_pos ⟨rfl, c⟩] at h
   have hsg : ∀ j, j ≤ bo t j 43 45 := fun j => by unfold bo; split <;> omega
   have far : m < i + 2 → False := fun hm => by
    have hr := hsg (p + i + 1)
    have h : bW t (bo t (p + i + 1) 43 45) = (p + m, 0) := h
    unfold bW at h
    by_cases a : dx t (bo t (p + i + 1) 43 45) > bo t (p + i + 1) 43 45
    . rw [if_pos a] at h
      have := congrArg Prod.fst h
      simp only at this; omega
    . rw [if_neg a] at h
      split at h <;> (have := congrArg Prod.snd h; simp at this)
   have im : i + 1 < m := by rcases Nat.lt_or_ge (i + 1) m with x | x; exact x; exact (far (by omega)).elim
   obtain ⟨s, s1, s2, s3⟩ := A.sgn (j := i + 1) (a := 43) (b := 45) im
   have s2 : bo t (p + i + 1) 43 45 = p + s := s2
   have s3 : bo u (q + i + 1) 43 45 = q + s := s3
   have h : bW t (bo t (p + i + 1) 43 45) = (p + m, 0) := h
   rw [s2] at h
   have sm : s ≤ m := by
    have := hsg (p + i + 1)
    rw [s2] at this
    have sb : bo t (p + i + 1) 43 45 ≤ p + i + 1 + 1 := by unfold bo; split <;> omega
    rw [s2] at sb; omega
   obtain ⟨n1, n2⟩ := A.lW sm (Nat.le_refl _) h
   rw [if_pos ⟨rfl, by rw [A.one (by omega)]; exact c⟩]
   show bW u (bo u (q + i + 1) 43 45) = _
   rw [s3]; exact n2
 . rw [if_neg (fun x => c x.2)] at h
   have h := congrArg Prod.fst h
   simp only at h
   obtain rfl : i = m := by omega
   rw [if_neg]
   intro x
   have := x.2; rw [A.BP (by decide) (by decide)] at this; cases this
theorem code0 {x : Nat × Int} (h : (bz t x).2 = 0) : x.2 = 0 := by
 unfold bz at h
 split at h
 . rename_i c; exact c.1
 . exact h
theorem code1 {x : Nat × Int} (h : (gj t x).2 = 0) : x.2 = 0 := by
 unfold gj at h
 split at h
 . rename_i c; exact c.1
 . exact h
theorem Ag.num (A : Ag t p u q m) (h0 : 0 < m) (h : bR t p = (p + m, 0)) : bR u q = (q + m, 0) := by
 have hlt := A.lt
 unfold bR at h ⊢
 have c1 := code1 (t := t) (x := bz t (aM t p)) (by rw [h])
 have c0 := code0 c1
 have w1 : p ≤ (aM t p).1 := by
  have := nh t p 45 45 (by omega)
  unfold aM; split
  . show p ≤ bo t p 45 45 + 1; omega
  . have := kH t _ this.2; omega
 have b1 : (aM t p).1 ≤ (bz t (aM t p)).1 := by
  generalize aM t p = x at *
  unfold bz; split
  . have := (k9 t (x.1 + 1)).1
    unfold bW; repeat' split
    all_goals (dsimp only; omega)
  . exact Nat.le_refl _
 have d1 : (bz t (aM t p)).1 ≤ p + m := by
  have e : (gj t (bz t (aM t p))).1 = p + m := by rw [h]
  rw [← e]
  generalize bz t (aM t p) = x at *
  unfold gj; split
  . have h1 : x.1 + 1 ≤ bo t (x.1 + 1) 43 45 := by unfold bo; split <;> omega
    have h2 := (k9 t (bo t (x.1 + 1) 43 45)).1
    unfold bW; repeat' split
    all_goals (dsimp only; omega)
  . exact Nat.le_refl _
 obtain ⟨k1, e1⟩ : ∃ k, (aM t p).1 = p + k := ⟨(aM t p).1 - p, by omega⟩
 obtain ⟨k2, e2⟩ : ∃ k, (bz t (aM t p)).1 = p + k := ⟨(bz t (aM t p)).1 - p, by omega⟩
 have hw : aM t p = (p + k1, 0) := Prod.ext e1 c0
 have hb : bz t (aM t p) = (p + k2, 0) := Prod.ext e2 c1
 have w := A.whole h0 (by omega) hw
 rw [hw] at hb
 have b := (A.behind (i := k1) (by omega) (by omega) hb).2
 rw [w, b]
 rw [hw, hb] at h
 exact A.m6 (by omega) h
end
def isNum (x : List UInt8) : Prop := 0 < x.length ∧ bR x 0 = (x.length, 0) ∧ ((x.getD 0 0).toNat = 45 ∨ aN (x.getD 0 0) = true)
def TkR (t : Tk) : Prop := (t.k = 115 ∧ dk t.t) ∨ (t.k = 110 ∧ isNum t.t) ∨ (cj t.k = true ∧ t.t = []) ∨ ((t.k = 116 ∨ t.k = 102 ∨ t.k = 122) ∧ t.t = [])
theorem CK {t : List UInt8} {i j k : Nat} (h : i + k < j) : (sub t i j).getD k 0 = t.getD (i + k) 0 := by
 unfold sub
 rw [Hx, jL h]
theorem p7 {t : List UInt8} {i j : Nat} (h : j ≤ t.length) : (sub t i j).length = j - i := by unfold sub; rw [List.length_drop, List.length_take]; omega
theorem HK {t : List UInt8} {i : Nat} (hi : i ≤ t.length) (h : (bR t i).2 = 0) (hf : (t.getD i 0).toNat = 45 ∨ aN (t.getD i 0) = true) : isNum (sub t i (bR t i).1) := by
 have h1 := BH t i hi h
 have h2 := qx t i hi
 generalize hR : bR t i = R at *
 have hl := p7 (t := t) (i := i) h2.2
 have A : Ag t i (sub t i R.1) 0 (R.1 - i) := ⟨by omega, by omega, fun j hj => by rw [Nat.zero_add, CK (by omega)], .inl (by omega)⟩
 refine ⟨by omega, ?_, ?_⟩
 . have := A.num (by omega) (by rw [hR]; exact Prod.ext (by show R.1 = i + (R.1 - i); omega) h)
   rw [this, hl, Nat.zero_add]
 . rw [CK (by omega), Nat.add_zero]; exact hf
theorem JF {c : Cu} (hk : c.ok) (h : c.aX.2.k ≠ 0) : TkR c.aX.2 := by
 have hc := JD h
 have hl := eB hk
 unfold Cu.aX at h hc ⊢
 by_cases h0 : c.c ≠ 0
 . rw [if_pos h0] at h; exact absurd rfl h
 rw [if_neg h0] at h hc ⊢
 have hr := qK cm c.aa c.p
 have hp := hk.1
 have hd : Cu.ok { c with p := cu cm c.aa c.p } := ⟨by show cu cm c.aa c.p ≤ c.e; omega, hk.2⟩
 have e3 : ({ c with p := cu cm c.aa c.p } : Cu).c = 0 := by show c.c = 0; omega
 generalize ({ c with p := cu cm c.aa c.p } : Cu) = d at *
 have hdl := eB hd
 have hw : ∀ k : UInt8, (k = 116 ∨ k = 102 ∨ k = 122) → (d.cF k).2.k ≠ 0 → TkR (d.cF k).2 := fun k hk h => by
  unfold Cu.cF at h ⊢
  by_cases z : dj d (spell k) 0 ≠ 0
  . rw [if_pos z] at h; exact absurd rfl h
  . rw [if_neg z]; exact .inr (.inr (.inr ⟨hk, rfl⟩))
 unfold Cu.fK at h hc ⊢
 by_cases a : d.p = d.e
 . rw [if_pos a] at h; exact absurd rfl h
 rw [if_neg a] at h hc ⊢
 have hlt : d.p < d.e := by have := hd.1; omega
 by_cases b : cj d.get = true
 . rw [if_pos b]; exact .inr (.inr (.inl ⟨b, rfl⟩))
 rw [if_neg b] at h hc ⊢
 by_cases g : d.get.toNat = 34
 . rw [if_pos g] at h hc ⊢
   have hc : d.ea.1.c = 0 := hc
   unfold held
   rw [if_pos hc]
   exact .inl ⟨rfl, KC e3 hc⟩
 rw [if_neg g] at h hc ⊢
 by_cases f : d.get.toNat = 45 ∨ aN d.get = true
 . rw [if_pos f] at h hc ⊢
   have hc : d.fP.1.c = 0 := hc
   unfold held
   rw [if_pos hc]
   unfold Cu.fP at hc ⊢
   rw [if_neg (by omega)] at hc ⊢
   by_cases z : (bR d.aa d.p).2 = 0
   . rw [if_neg (by omega)]
     have hg : d.aa.getD d.p 0 = d.get := by unfold Cu.aa; exact jL hlt
     have := HK (t := d.aa) (i := d.p) (by omega) z (by rw [hg]; exact f)
     rw [CM (by have := (qx d.aa d.p (by omega)).2; omega)] at this
     exact .inr (.inl ⟨rfl, this⟩)
   . rw [if_pos z, fO _ e3] at hc; exact absurd hc z
 rw [if_neg f] at h hc ⊢
 by_cases w : d.get.toNat = 116 ∨ d.get.toNat = 102
 . rw [if_pos w] at h ⊢
   refine hw _ ?_ h
   rcases w with w | w
   . exact .inl (UInt8.toNat_inj.1 w)
   . exact .inr (.inl (UInt8.toNat_inj.1 w))
 rw [if_neg w] at h hc ⊢
 by_cases v : d.get.toNat = 110
 . rw [if_pos v] at h ⊢; exact hw _ (.inr (.inr rfl)) h
 rw [if_neg v] at h; exact absurd rfl h
theorem KB {c : Cu} (hk : c.ok) : c.ea.2.length ≤ 4 * c.s.length := by
 have h1 := hk.1
 have h2 := hk.2
 have h3 := Ad (c.s.take c.e) (c.e - c.p) (c.p + 1) []
 rw [List.length_nil] at h3
 unfold Cu.ea
 repeat' split
 all_goals first
  | (show (ct (c.s.take c.e) (c.e - c.p) (c.p + 1) []).2.2.length ≤ _; omega)
  | (show ([] : List UInt8).length ≤ _; simp)
theorem An {x : CO} {k : UInt8} {n : Nat} (h : x.2.length ≤ n) : (held x k).2.t.length ≤ n := by
 unfold held
 by_cases a : x.1.c = 0
 . rw [if_pos a]; exact h
 . rw [if_neg a]; exact Nat.zero_le _
theorem M3 {c : Cu} (hk : c.ok) : c.fK.2.t.length ≤ 4 * c.s.length := by
 have hr := KB hk
 have hn : c.fP.2.length ≤ 4 * c.s.length := by
  unfold Cu.fP
  repeat' split
  all_goals first
   | (show ([] : List UInt8).length ≤ _; simp; done)
   | (show (sub _ _ _).length ≤ _; unfold sub; rw [List.length_drop, List.length_take]; omega)
 have hw : ∀ k, (c.cF k).2.t.length ≤ 4 * c.s.length := fun k => by
  unfold Cu.cF
  split <;> (show ([] : List UInt8).length ≤ _; simp)
 unfold Cu.fK
 repeat' split
 all_goals first
  | exact An hr
  | exact An hn
  | exact hw _
  | (show ([] : List UInt8).length ≤ _; simp)
theorem JE {c : Cu} (hk : c.ok) : c.aX.2.t.length ≤ 4 * c.s.length := by
 unfold Cu.aX
 split
 . exact Nat.zero_le _
 . have hr := qK cm c.aa c.p
   have hl := eB hk
   have hp := hk.1
   exact M3 (c := { c with p := cu cm c.aa c.p }) ⟨by show cu cm c.aa c.p ≤ c.e; omega, hk.2⟩
end Go.Proofs.YtllncocibkgjkaaGreat
