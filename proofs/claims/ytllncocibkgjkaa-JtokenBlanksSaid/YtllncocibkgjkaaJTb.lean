/-
  Tokens with blanks between them are read again as they are (plain law).
-/
import Derived.Test.YtllncocibkgjkaaJTu
import Derived.Test.YtllncocibkgjkaaJBr
set_option linter.unusedSimpArgs false
set_option linter.unusedVariables false
set_option maxHeartbeats 4000000
namespace Go.Proofs.Ytllncocibkgjkaa
open Go Go.VG
set_option maxRecDepth 100000
/-- two texts say the same from two places on, for so many bytes; behind these the second one has no more, or a byte that goes on no number -/
structure Ag (t : List UInt8) (p : Nat) (u : List UInt8) (q m : Nat) : Prop where
  lt : p + m ≤ t.length
  lu : q + m ≤ u.length
  eq : ∀ j, j < m → t.getD (p + j) 0 = u.getD (q + j) 0
  stop : q + m = u.length ∨ blkB (u.getD (q + m) 0) = true
section
variable {t u : List UInt8} {p q m : Nat}
theorem runD_moved {t : List UInt8} {i : Nat} (h : runD t i ≠ i) : i < t.length ∧ digB (t.getD i 0) = true := by
  rcases Nat.lt_or_ge i t.length with a | a
  · refine ⟨a, ?_⟩
    cases d : digB (t.getD i 0) with
    | true => rfl
    | false => exact absurd (runD_stop (.inr d)) h
  · exact absurd (runD_stop (.inl a)) h
theorem runD_stays {t : List UInt8} {i : Nat} (hi : i < t.length) (h : runD t i = i) : digB (t.getD i 0) = false := by
  cases d : digB (t.getD i 0) with
  | false => rfl
  | true =>
    have := runD_hit hi d
    have := (runD_le t (i + 1)).1
    omega
theorem blk_not {b : UInt8} (h : blkB b = true) : digB b = false := by
  rw [digB_f]; have := blkB_t.1 h; omega
theorem Ag.run (A : Ag t p u q m) : ∀ (d j k : Nat), k - j ≤ d → j ≤ k → k ≤ m → runD t (p + j) = p + k → runD u (q + j) = q + k
  | d, j, k, hd, hjk, hkm, h => by
    have hlt := A.lt
    have hlu := A.lu
    by_cases e : j = k
    · subst e
      refine runD_stop ?_
      by_cases hm : j < m
      · right
        rw [← A.eq j hm]
        exact runD_stays (by omega) h
      · obtain rfl : j = m := by omega
        rcases A.stop with s | s
        · left; omega
        · right; exact blk_not s
    · obtain ⟨h1, h2⟩ := runD_moved (t := t) (i := p + j) (by omega)
      have h3 := runD_hit h1 h2
      rw [h] at h3
      have h4 : digB (u.getD (q + j) 0) = true := by rw [← A.eq j (by omega)]; exact h2
      rw [runD_hit (by omega) h4]
      match d with
      | 0 => omega
      | d + 1 => exact A.run d (j + 1) k (by omega) (by omega) hkm h3.symm
theorem Ag.one (A : Ag t p u q m) {j a b : Nat} (hj : j < m) : oneD u (q + j) a b = oneD t (p + j) a b := by
  have hlt := A.lt
  have hlu := A.lu
  unfold oneD
  rw [A.eq j hj, decide_eq_true (show q + j < u.length by omega), decide_eq_true (show p + j < t.length by omega)]
theorem Ag.one_m (A : Ag t p u q m) {a b : Nat} (ha : a ≠ 32 ∧ a ≠ 9 ∧ a ≠ 10 ∧ a ≠ 13) (hb : b ≠ 32 ∧ b ≠ 9 ∧ b ≠ 10 ∧ b ≠ 13) : oneD u (q + m) a b = false := by
  rw [oneD_f]
  rcases A.stop with s | s
  · omega
  · have := blkB_t.1 s; omega
theorem Ag.need (A : Ag t p u q m) {j k : Nat} (hj : j ≤ m) (hk : k ≤ m) (h : needD t (p + j) = (p + k, 0)) : j < k ∧ needD u (q + j) = (q + k, 0) := by
  have hr := runD_le t (p + j)
  unfold needD at h
  by_cases a : runD t (p + j) > p + j
  · rw [if_pos a] at h
    have h := congrArg Prod.fst h
    simp only at h
    have r := A.run (k - j) j k (Nat.le_refl _) (by omega) hk h
    refine ⟨by omega, ?_⟩
    unfold needD
    rw [if_pos (by omega), r]
  · rw [if_neg a] at h
    split at h
    · have := congrArg Prod.snd h; simp at this
    · have := congrArg Prod.snd h; simp at this
theorem Ag.sgn (A : Ag t p u q m) {j a b : Nat} (hj : j < m) : ∃ s, j ≤ s ∧ sgnD t (p + j) a b = p + s ∧ sgnD u (q + j) a b = q + s := by
  unfold sgnD
  rw [A.one hj]
  split
  · exact ⟨j + 1, by omega, rfl, rfl⟩
  · exact ⟨j, Nat.le_refl _, rfl, rfl⟩
theorem Ag.whole (A : Ag t p u q m) {k : Nat} (h0 : 0 < m) (hk : k ≤ m) (h : wholeE t p = (p + k, 0)) : wholeE u q = (q + k, 0) := by
  obtain ⟨s, s1, s2, s3⟩ := A.sgn (j := 0) (a := 45) (b := 45) h0
  have s2 : sgnD t p 45 45 = p + s := s2
  have s3 : sgnD u q 45 45 = q + s := s3
  have sb : sgnD t p 45 45 ≤ p + 1 := by unfold sgnD; split <;> omega
  unfold wholeE at h ⊢
  rw [s2] at h sb
  rw [s3]
  by_cases c : oneD t (p + s) 48 48 = true
  · rw [if_pos c] at h
    have h := congrArg Prod.fst h
    simp only at h
    rw [if_pos (by rw [A.one (by omega)]; exact c)]
    exact Prod.ext (by show q + s + 1 = q + k; omega) rfl
  · rw [if_neg c] at h
    obtain ⟨n1, n2⟩ := A.need (j := s) (by omega) hk h
    rw [if_neg (by rw [A.one (by omega)]; exact c)]
    exact n2
theorem Ag.behind (A : Ag t p u q m) {i k : Nat} (hi : i ≤ m) (hk : k ≤ m) (h : behindE t (p + i, 0) = (p + k, 0)) : i ≤ k ∧ behindE u (q + i, 0) = (q + k, 0) := by
  unfold behindE at h ⊢
  by_cases c : oneD t (p + i) 46 46 = true
  · rw [if_pos ⟨rfl, c⟩] at h
    have hr := runD_le t (p + i + 1)
    have hn : needD t (p + (i + 1)) = (p + k, 0) := h
    by_cases im : i < m
    · obtain ⟨n1, n2⟩ := A.need (j := i + 1) (by omega) hk hn
      rw [if_pos ⟨rfl, by rw [A.one im]; exact c⟩]
      exact ⟨by omega, n2⟩
    · exfalso
      unfold needD at hn
      by_cases a : runD t (p + (i + 1)) > p + (i + 1)
      · rw [if_pos a] at hn
        have := congrArg Prod.fst hn
        simp only at this; omega
      · rw [if_neg a] at hn
        split at hn <;> (have := congrArg Prod.snd hn; simp at this)
  · rw [if_neg (fun x => c x.2)] at h
    have h := congrArg Prod.fst h
    simp only at h
    obtain rfl : i = k := by omega
    refine ⟨Nat.le_refl _, ?_⟩
    rw [if_neg]
    intro x
    by_cases im : i < m
    · have := x.2; rw [A.one im] at this; exact c this
    · obtain rfl : i = m := by omega
      have := x.2; rw [A.one_m (by decide) (by decide)] at this; cases this
theorem Ag.power (A : Ag t p u q m) {i : Nat} (hi : i ≤ m) (h : powerE t (p + i, 0) = (p + m, 0)) : powerE u (q + i, 0) = (q + m, 0) := by
  unfold powerE at h ⊢
  by_cases c : oneD t (p + i) 101 69 = true
  · rw [if_pos ⟨rfl, c⟩] at h
    have hsg : ∀ j, j ≤ sgnD t j 43 45 := fun j => by unfold sgnD; split <;> omega
    have far : m < i + 2 → False := fun hm => by
      have hr := hsg (p + i + 1)
      have h : needD t (sgnD t (p + i + 1) 43 45) = (p + m, 0) := h
      unfold needD at h
      by_cases a : runD t (sgnD t (p + i + 1) 43 45) > sgnD t (p + i + 1) 43 45
      · rw [if_pos a] at h
        have := congrArg Prod.fst h
        simp only at this; omega
      · rw [if_neg a] at h
        split at h <;> (have := congrArg Prod.snd h; simp at this)
    have im : i + 1 < m := by rcases Nat.lt_or_ge (i + 1) m with x | x; exact x; exact (far (by omega)).elim
    obtain ⟨s, s1, s2, s3⟩ := A.sgn (j := i + 1) (a := 43) (b := 45) im
    have s2 : sgnD t (p + i + 1) 43 45 = p + s := s2
    have s3 : sgnD u (q + i + 1) 43 45 = q + s := s3
    have h : needD t (sgnD t (p + i + 1) 43 45) = (p + m, 0) := h
    rw [s2] at h
    have sm : s ≤ m := by
      have := hsg (p + i + 1)
      rw [s2] at this
      have sb : sgnD t (p + i + 1) 43 45 ≤ p + i + 1 + 1 := by unfold sgnD; split <;> omega
      rw [s2] at sb; omega
    obtain ⟨n1, n2⟩ := A.need sm (Nat.le_refl _) h
    rw [if_pos ⟨rfl, by rw [A.one (by omega)]; exact c⟩]
    show needD u (sgnD u (q + i + 1) 43 45) = _
    rw [s3]; exact n2
  · rw [if_neg (fun x => c x.2)] at h
    have h := congrArg Prod.fst h
    simp only at h
    obtain rfl : i = m := by omega
    rw [if_neg]
    intro x
    have := x.2; rw [A.one_m (by decide) (by decide)] at this; cases this
theorem code0 {x : Nat × Int} (h : (behindE t x).2 = 0) : x.2 = 0 := by
  unfold behindE at h
  split at h
  · rename_i c; exact c.1
  · exact h
theorem code1 {x : Nat × Int} (h : (powerE t x).2 = 0) : x.2 = 0 := by
  unfold powerE at h
  split at h
  · rename_i c; exact c.1
  · exact h
/-- a number is read wherever it stands, if a blank or nothing stands behind it -/
theorem Ag.num (A : Ag t p u q m) (h0 : 0 < m) (h : numE t p = (p + m, 0)) : numE u q = (q + m, 0) := by
  have hlt := A.lt
  unfold numE at h ⊢
  have c1 := code1 (t := t) (x := behindE t (wholeE t p)) (by rw [h])
  have c0 := code0 c1
  have w1 : p ≤ (wholeE t p).1 := by
    have := sgnD_ge t p 45 45 (by omega)
    unfold wholeE; split
    · show p ≤ sgnD t p 45 45 + 1; omega
    · have := needD_ge t _ this.2; omega
  have b1 : (wholeE t p).1 ≤ (behindE t (wholeE t p)).1 := by
    generalize wholeE t p = x at *
    unfold behindE; split
    · have := (runD_le t (x.1 + 1)).1
      unfold needD; repeat' split
      all_goals (dsimp only; omega)
    · exact Nat.le_refl _
  have d1 : (behindE t (wholeE t p)).1 ≤ p + m := by
    have e : (powerE t (behindE t (wholeE t p))).1 = p + m := by rw [h]
    rw [← e]
    generalize behindE t (wholeE t p) = x at *
    unfold powerE; split
    · have h1 : x.1 + 1 ≤ sgnD t (x.1 + 1) 43 45 := by unfold sgnD; split <;> omega
      have h2 := (runD_le t (sgnD t (x.1 + 1) 43 45)).1
      unfold needD; repeat' split
      all_goals (dsimp only; omega)
    · exact Nat.le_refl _
  obtain ⟨k1, e1⟩ : ∃ k, (wholeE t p).1 = p + k := ⟨(wholeE t p).1 - p, by omega⟩
  obtain ⟨k2, e2⟩ : ∃ k, (behindE t (wholeE t p)).1 = p + k := ⟨(behindE t (wholeE t p)).1 - p, by omega⟩
  have hw : wholeE t p = (p + k1, 0) := Prod.ext e1 c0
  have hb : behindE t (wholeE t p) = (p + k2, 0) := Prod.ext e2 c1
  have w := A.whole h0 (by omega) hw
  rw [hw] at hb
  have b := (A.behind (i := k1) (by omega) (by omega) hb).2
  rw [w, b]
  rw [hw, hb] at h
  exact A.power (by omega) h
end
/-! tokens -/
def isNum (x : List UInt8) : Prop := 0 < x.length ∧ numE x 0 = (x.length, 0) ∧ ((x.getD 0 0).toNat = 45 ∨ digB (x.getD 0 0) = true)
def RT (t : Tk) : Prop := (t.k = 115 ∧ Txt t.t) ∨ (t.k = 110 ∧ isNum t.t) ∨ (signB t.k = true ∧ t.t = []) ∨ ((t.k = 116 ∨ t.k = 102 ∨ t.k = 122) ∧ t.t = [])
theorem sub_getD {t : List UInt8} {i j k : Nat} (h : i + k < j) : (sub t i j).getD k 0 = t.getD (i + k) 0 := by
  unfold sub
  rw [getD_drop, getD_take h]
theorem sub_len {t : List UInt8} {i j : Nat} (h : j ≤ t.length) : (sub t i j).length = j - i := by unfold sub; rw [List.length_drop, List.length_take]; omega
theorem isNum_of {t : List UInt8} {i : Nat} (hi : i ≤ t.length) (h : (numE t i).2 = 0) (hf : (t.getD i 0).toNat = 45 ∨ digB (t.getD i 0) = true) : isNum (sub t i (numE t i).1) := by
  have h1 := numE_lt t i hi h
  have h2 := numE_ge t i hi
  generalize hR : numE t i = R at *
  have hl := sub_len (t := t) (i := i) h2.2
  have A : Ag t i (sub t i R.1) 0 (R.1 - i) := ⟨by omega, by omega, fun j hj => by rw [Nat.zero_add, sub_getD (by omega)], .inl (by omega)⟩
  refine ⟨by omega, ?_, ?_⟩
  · have := A.num (by omega) (by rw [hR]; exact Prod.ext (by show R.1 = i + (R.1 - i); omega) h)
    rw [this, hl, Nat.zero_add]
  · rw [sub_getD (by omega), Nat.add_zero]; exact hf
theorem next_RT {c : Cu} (hk : c.ok) (h : c.nextD.2.k ≠ 0) : RT c.nextD.2 := by
  have hc := nextD_k h
  have hl := txt_len hk
  unfold Cu.nextD at h hc ⊢
  by_cases h0 : c.c ≠ 0
  · rw [if_pos h0] at h; exact absurd rfl h
  rw [if_neg h0] at h hc ⊢
  have hr := runW_le blkB c.txt c.p
  have hp := hk.1
  have hd : Cu.ok { c with p := runW blkB c.txt c.p } := ⟨by show runW blkB c.txt c.p ≤ c.e; omega, hk.2⟩
  have e3 : ({ c with p := runW blkB c.txt c.p } : Cu).c = 0 := by show c.c = 0; omega
  generalize ({ c with p := runW blkB c.txt c.p } : Cu) = d at *
  have hdl := txt_len hd
  have hw : ∀ k : UInt8, (k = 116 ∨ k = 102 ∨ k = 122) → (d.wordD k).2.k ≠ 0 → RT (d.wordD k).2 := fun k hk h => by
    unfold Cu.wordD at h ⊢
    by_cases z : wordE d (spell k) 0 ≠ 0
    · rw [if_pos z] at h; exact absurd rfl h
    · rw [if_neg z]; exact .inr (.inr (.inr ⟨hk, rfl⟩))
  unfold Cu.tokD at h hc ⊢
  by_cases a : d.p = d.e
  · rw [if_pos a] at h; exact absurd rfl h
  rw [if_neg a] at h hc ⊢
  have hlt : d.p < d.e := by have := hd.1; omega
  by_cases b : signB d.get = true
  · rw [if_pos b]; exact .inr (.inr (.inl ⟨b, rfl⟩))
  rw [if_neg b] at h hc ⊢
  by_cases g : d.get.toNat = 34
  · rw [if_pos g] at h hc ⊢
    have hc : d.readD.1.c = 0 := hc
    unfold held
    rw [if_pos hc]
    exact .inl ⟨rfl, readD_txt e3 hc⟩
  rw [if_neg g] at h hc ⊢
  by_cases f : d.get.toNat = 45 ∨ digB d.get = true
  · rw [if_pos f] at h hc ⊢
    have hc : d.numD.1.c = 0 := hc
    unfold held
    rw [if_pos hc]
    unfold Cu.numD at hc ⊢
    rw [if_neg (by omega)] at hc ⊢
    by_cases z : (numE d.txt d.p).2 = 0
    · rw [if_neg (by omega)]
      have hg : d.txt.getD d.p 0 = d.get := by unfold Cu.txt; exact getD_take hlt
      have := isNum_of (t := d.txt) (i := d.p) (by omega) z (by rw [hg]; exact f)
      rw [sub_txt (by have := (numE_ge d.txt d.p (by omega)).2; omega)] at this
      exact .inr (.inl ⟨rfl, this⟩)
    · rw [if_pos z, fail_c0 _ e3] at hc; exact absurd hc z
  rw [if_neg f] at h hc ⊢
  by_cases w : d.get.toNat = 116 ∨ d.get.toNat = 102
  · rw [if_pos w] at h ⊢
    refine hw _ ?_ h
    rcases w with w | w
    · exact .inl (UInt8.toNat_inj.1 w)
    · exact .inr (.inl (UInt8.toNat_inj.1 w))
  rw [if_neg w] at h hc ⊢
  by_cases v : d.get.toNat = 110
  · rw [if_pos v] at h ⊢; exact hw _ (.inr (.inr rfl)) h
  rw [if_neg v] at h; exact absurd rfl h
theorem wordE_ok (d : Cu) : ∀ (s r : List UInt8) (i : Nat), d.s.drop (d.p + i) = s ++ r → d.e = d.s.length → wordE d s i = 0
  | [], _, _, _, _ => rfl
  | b :: s, r, i, h, he => by
    have hl := congrArg List.length h
    rw [List.length_drop] at hl
    simp at hl
    have h0 : d.s.getD (d.p + i) 0 = b := at_drop h 0
    unfold wordE
    rw [if_neg (by omega), if_neg (fun x => x h0)]
    refine wordE_ok d s r (i + 1) ?_ he
    rw [show d.p + (i + 1) = (d.p + i) + 1 from rfl, ← List.drop_drop, h]; rfl
/-- a token is read of its bytes, if a blank stands behind -/
theorem tok_read {d : Cu} {t : Tk} {b : UInt8} {r : List UInt8} (he : d.e = d.s.length) (h0 : d.c = 0) (hb : blkB b = true) (hd : d.s.drop d.p = textT t ++ b :: r) (ht : RT t) :
    d.tokD = ({ d with p := d.p + (textT t).length }, t) := by
  have hl := congrArg List.length hd
  rw [List.length_drop, List.length_append, List.length_cons] at hl
  have htx : d.txt = d.s := by unfold Cu.txt; rw [he, List.take_length]
  have hat : ∀ k, k < (textT t).length → d.s.getD (d.p + k) 0 = (textT t).getD k 0 := fun k hk => by rw [at_drop hd k, getD_app hk]
  have hbat : d.s.getD (d.p + (textT t).length) 0 = b := by
    rw [at_drop hd, List.getD_eq_getElem?_getD, List.getElem?_append_right (Nat.le_refl _)]; simp
  obtain ⟨k, x⟩ := t
  unfold Cu.tokD
  rw [if_neg (show ¬ d.p = d.e by omega)]
  have hget : d.get = d.s.getD (d.p + 0) 0 := rfl
  rcases ht with ⟨rfl, h⟩ | ⟨rfl, h⟩ | ⟨h, rfl⟩ | ⟨h, rfl⟩
  · have e : textT ⟨115, x⟩ = quote x := rfl
    rw [e] at hd hat hl hbat ⊢
    have g : d.get = 34 := by rw [hget, hat 0 (by simp [quote])]; rfl
    rw [g, if_neg (by decide), if_pos (by decide)]
    have hd1 : d.s.drop (d.p + 1) = quoteB x ++ 34 :: (b :: r) := by
      rw [← List.drop_drop, hd]
      simp [quote]
    have hq := go_quote h d.s (b :: r) [] (d.e - d.p) (d.p + 1) hd1 (by omega)
    have hrd : d.readD = ({ d with p := d.p + (quote x).length }, x) := by
      unfold Cu.readD
      rw [if_neg (by omega), if_neg (by omega), if_neg (by rw [g]; decide), he, List.take_length, ← he, hq, if_pos rfl]
      refine Prod.ext ?_ (by simp)
      simp only [quote, List.length_cons, List.length_append, List.length_nil]
      congr 1
      omega
    unfold held
    rw [hrd, if_pos h0]
  · have e : textT ⟨110, x⟩ = x := rfl
    rw [e] at hd hat hl hbat ⊢
    obtain ⟨n1, n2, n3⟩ := (show isNum x from h)
    have g : d.get = x.getD 0 0 := by rw [hget, hat 0 n1]
    have gs : ¬ signB d.get = true := fun q => by
      have q : d.get.toNat = 123 ∨ d.get.toNat = 125 ∨ d.get.toNat = 91 ∨ d.get.toNat = 93 ∨ d.get.toNat = 58 ∨ d.get.toNat = 44 := of_decide_eq_true q
      rw [g] at q
      rcases n3 with z | z
      · omega
      · have := digB_t.1 z; omega
    have gq : ¬ d.get.toNat = 34 := fun q => by
      rw [g] at q
      rcases n3 with z | z
      · omega
      · have := digB_t.1 z; omega
    rw [if_neg gs, if_neg gq, if_pos (by rw [g]; exact n3)]
    have A : Ag x 0 d.s d.p x.length := ⟨by omega, by omega, fun j hj => by rw [Nat.zero_add, hat j hj], .inr (by rw [hbat]; exact hb)⟩
    have hn := A.num n1 (by rw [n2, Nat.zero_add])
    have hsub : sub d.s d.p (d.p + x.length) = x := by unfold sub; rw [List.drop_take, hd, Nat.add_sub_cancel_left, List.take_left]
    have hnd : d.numD = ({ d with p := d.p + x.length }, x) := by
      unfold Cu.numD
      rw [htx, hn, if_neg (by omega), if_neg (by simp), hsub]
    unfold held
    rw [hnd, if_pos h0]
  · have hs : k.toNat = 123 ∨ k.toNat = 125 ∨ k.toNat = 91 ∨ k.toNat = 93 ∨ k.toNat = 58 ∨ k.toNat = 44 := of_decide_eq_true h
    have e : textT ⟨k, []⟩ = [k] := by
      rw [show textT ⟨k, []⟩ = if k.toNat = 115 then quote [] else if k.toNat = 110 then [] else if signB k = true then [k] else spell k from rfl, if_neg (by omega), if_neg (by omega), if_pos h]
    rw [e] at hd hat hl hbat ⊢
    have g : d.get = k := by rw [hget, hat 0 (by simp)]; rfl
    rw [g, if_pos h]; rfl
  · have e : textT ⟨k, []⟩ = spell k := by
      rcases h with rfl | rfl | rfl <;> decide
    rw [e] at hd hat hl hbat ⊢
    have hw := wordE_ok d (spell k) (b :: r) 0 hd he
    have fin : d.wordD k = ({ d with p := d.p + (spell k).length }, ⟨k, []⟩) := by
      unfold Cu.wordD; rw [if_neg (by omega)]
    have g : d.get = (spell k).getD 0 0 := by rw [hget, hat 0 (by rcases h with rfl | rfl | rfl <;> decide)]
    rcases h with rfl | rfl | rfl
    · rw [show d.get = 116 from g, if_neg (by decide), if_neg (by decide), if_neg (by decide), if_pos (by decide)]; exact fin
    · rw [show d.get = 102 from g, if_neg (by decide), if_neg (by decide), if_neg (by decide), if_pos (by decide)]; exact fin
    · rw [show d.get = 110 from g, if_neg (by decide), if_neg (by decide), if_neg (by decide), if_neg (by decide), if_pos (by decide)]; exact fin
/-! blanks between tokens -/
theorem runW_blk {t : List UInt8} : ∀ (bs : List UInt8) (i : Nat) (r : List UInt8), t.drop i = bs ++ r → (∀ x ∈ bs, blkB x = true) → (r = [] ∨ blkB (r.getD 0 0) = false) → runW blkB t i = i + bs.length
  | [], i, r, h, _, hr => by
    refine runW_stop ?_
    rcases hr with rfl | hr
    · left; have := congrArg List.length h; rw [List.length_drop] at this; simp at this; omega
    · right
      have : t.getD i 0 = r.getD 0 0 := at_drop h 0
      rw [this]; exact hr
  | b :: bs, i, r, h, hb, hr => by
    have hl := congrArg List.length h
    rw [List.length_drop] at hl
    simp at hl
    have h0 : t.getD i 0 = b := at_drop h 0
    rw [runW_hit (by omega) (by rw [h0]; exact hb b (by simp)), runW_blk bs (i + 1) r (by rw [← List.drop_drop, h]; rfl) (fun x hx => hb x (List.mem_cons_of_mem _ hx)) hr]
    simp; omega
theorem textT_first {t : Tk} (h : RT t) : 0 < (textT t).length ∧ blkB ((textT t).getD 0 0) = false := by
  obtain ⟨k, x⟩ := t
  rcases h with ⟨rfl, h⟩ | ⟨rfl, h⟩ | ⟨h, rfl⟩ | ⟨h, rfl⟩
  · exact ⟨by show 0 < (quote x).length; simp [quote], by show blkB 34 = false; decide⟩
  · obtain ⟨n1, n2, n3⟩ := (show isNum x from h)
    refine ⟨n1, ?_⟩
    show blkB (x.getD 0 0) = false
    rw [blkB_f]
    rcases n3 with z | z
    · omega
    · have := digB_t.1 z; omega
  · have hs : k.toNat = 123 ∨ k.toNat = 125 ∨ k.toNat = 91 ∨ k.toNat = 93 ∨ k.toNat = 58 ∨ k.toNat = 44 := of_decide_eq_true h
    have e : textT ⟨k, []⟩ = [k] := by
      rw [show textT ⟨k, []⟩ = if k.toNat = 115 then quote [] else if k.toNat = 110 then [] else if signB k = true then [k] else spell k from rfl, if_neg (by omega), if_neg (by omega), if_pos h]
    rw [e]
    refine ⟨by simp, ?_⟩
    show blkB k = false
    rw [blkB_f]; omega
  · rcases h with rfl | rfl | rfl <;> decide
/-- what stands ahead of each token is blank -/
def Sep (f : Nat → List UInt8) : Prop := ∀ i, f i ≠ [] ∧ ∀ x ∈ f i, blkB x = true
def joinT (f : Nat → List UInt8) : List Tk → Nat → List UInt8
  | [], _ => []
  | t :: l, i => f i ++ (textT t ++ joinT f l (i + 1))
theorem joined_head (f : Nat → List UInt8) (hf : Sep f) (l : List Tk) (i : Nat) {z : List UInt8} (hz : z ≠ []) (hzb : ∀ x ∈ z, blkB x = true) : ∃ b r, joinT f l i ++ z = b :: r ∧ blkB b = true := by
  cases l with
  | nil =>
    cases z with
    | nil => exact absurd rfl hz
    | cons b r => exact ⟨b, r, rfl, hzb b (by simp)⟩
  | cons t l =>
    obtain ⟨h1, h2⟩ := hf i
    cases hfi : f i with
    | nil => exact absurd hfi h1
    | cons b r => exact ⟨b, _, by show (f i ++ _) ++ z = _; rw [hfi]; rfl, h2 b (by rw [hfi]; simp)⟩
theorem all_join (f : Nat → List UInt8) (hf : Sep f) {z : List UInt8} (hz : z ≠ []) (hzb : ∀ x ∈ z, blkB x = true) : ∀ (l : List Tk) (i n : Nat) (c : Cu) (acc : List Tk), (∀ t ∈ l, RT t) → c.e = c.s.length → c.p ≤ c.e → c.c = 0 →
    c.s.drop c.p = joinT f l i ++ z → l.length < n → allD n c acc = (acc ++ l, 0)
  | [], i, 0, c, acc, _, _, _, _, _, hn => absurd hn (by simp)
  | [], i, n + 1, c, acc, ht, he, hp, h0, hd, hn => by
    have htx : c.txt = c.s := by unfold Cu.txt; rw [he, List.take_length]
    have hd : c.s.drop c.p = z := hd
    have hl := congrArg List.length hd
    rw [List.length_drop] at hl
    have hr := runW_blk (t := c.s) z c.p [] (by rw [hd]; simp) hzb (.inl rfl)
    have hnx : c.nextD = ({ c with p := c.e }, .no) := by
      unfold Cu.nextD
      rw [if_neg (by omega), htx, hr, show c.p + z.length = c.e by omega]
      unfold Cu.tokD
      rw [if_pos rfl]
    rw [allD, hnx, if_neg (by show ¬ c.c ≠ 0; omega), if_pos rfl, List.append_nil]
  | t :: l, i, 0, c, acc, _, _, _, _, _, hn => absurd hn (by simp)
  | t :: l, i, n + 1, c, acc, ht, he, hp, h0, hd, hn => by
    have htx : c.txt = c.s := by unfold Cu.txt; rw [he, List.take_length]
    have hrt := ht t (by simp)
    obtain ⟨t1, t2⟩ := textT_first hrt
    obtain ⟨b, r, hbr, hbb⟩ := joined_head f hf l (i + 1) hz hzb
    have hd : c.s.drop c.p = f i ++ (textT t ++ b :: r) := by
      rw [hd, ← hbr]
      show (f i ++ (textT t ++ joinT f l (i + 1))) ++ z = _
      simp
    have hl := congrArg List.length hd
    rw [List.length_drop, List.length_append, List.length_append, List.length_cons] at hl
    have hr := runW_blk (t := c.s) (f i) c.p (textT t ++ b :: r) hd (hf i).2 (.inr (by rw [getD_app t1]; exact t2))
    have hd2 : c.s.drop (c.p + (f i).length) = textT t ++ b :: r := by rw [← List.drop_drop, hd, List.drop_left]
    have hnx : c.nextD = ({ c with p := c.p + (f i).length + (textT t).length }, t) := by
      unfold Cu.nextD
      rw [if_neg (by omega), htx, hr]
      exact tok_read (d := { c with p := c.p + (f i).length }) he h0 hbb hd2 hrt
    have hk : t.k ≠ 0 := by
      intro e
      rcases hrt with ⟨q, _⟩ | ⟨q, _⟩ | ⟨q, _⟩ | ⟨q, _⟩
      · rw [q] at e; exact absurd e (by decide)
      · rw [q] at e; exact absurd e (by decide)
      · rw [e] at q; exact absurd q (by decide)
      · rcases q with q | q | q <;> (rw [q] at e; exact absurd e (by decide))
    rw [allD, hnx, if_neg (by show ¬ c.c ≠ 0; omega), if_neg hk]
    rw [all_join f hf hz hzb l (i + 1) n { c with p := c.p + (f i).length + (textT t).length } (acc ++ [t]) (fun x hx => ht x (List.mem_cons_of_mem _ hx)) he (by show c.p + (f i).length + (textT t).length ≤ c.e; omega) h0
      (by show c.s.drop (c.p + (f i).length + (textT t).length) = _; rw [← List.drop_drop, hd2, List.drop_left, hbr]) (by simp at hn; omega)]
    simp
theorem all_RT : ∀ (n : Nat) (c : Cu) (l : List Tk), c.ok → (∀ t ∈ l, RT t) → ∀ t ∈ (allD n c l).1, RT t
  | 0, _, l, _, h => by rw [allD]; exact h
  | n + 1, c, l, hk, h => by
    rw [allD]
    by_cases a : c.nextD.1.c ≠ 0
    · rw [if_pos a]; intro t ht; cases ht
    rw [if_neg a]
    by_cases b : c.nextD.2.k = 0
    · rw [if_pos b]; exact h
    rw [if_neg b]
    refine all_RT n _ _ (nextD_on hk (by omega)).1 fun t ht => ?_
    rcases List.mem_append.1 ht with q | q
    · exact h t q
    · simp at q; subst q; exact next_RT hk b
theorem allT_RT (s : List UInt8) : ∀ t ∈ (allT s).1, RT t := all_RT _ _ _ (new_okT s) (by simp)
theorem textT_len1 {t : Tk} (h : RT t) : 1 ≤ (textT t).length := (textT_first h).1
theorem joinT_len (f : Nat → List UInt8) : ∀ (l : List Tk) (i : Nat), (∀ t ∈ l, RT t) → l.length ≤ (joinT f l i).length
  | [], _, _ => by simp
  | t :: l, i, h => by
    have := joinT_len f l (i + 1) fun x hx => h x (List.mem_cons_of_mem _ hx)
    have := textT_len1 (h t (by simp))
    show l.length + 1 ≤ (f i ++ (textT t ++ joinT f l (i + 1))).length
    rw [List.length_append, List.length_append]; omega
/-- any tokens that were read, with blanks between them, are read again -/
theorem allT_join (f : Nat → List UInt8) (hf : Sep f) {z : List UInt8} (hz : z ≠ []) (hzb : ∀ x ∈ z, blkB x = true) (s : List UInt8) : allT (joinT f (allT s).1 0 ++ z) = ((allT s).1, 0) := by
  have hr := allT_RT s
  have hl := joinT_len f (allT s).1 0 hr
  have := all_join f hf hz hzb (allT s).1 0 ((joinT f (allT s).1 0 ++ z).length + 1) (.new (joinT f (allT s).1 0 ++ z)) [] hr rfl (Nat.zero_le _) rfl rfl (by rw [List.length_append]; omega)
  exact this
theorem readD_lenC {c : Cu} (hk : c.ok) : c.readD.2.length ≤ 4 * c.s.length := by
  have h1 := hk.1
  have h2 := hk.2
  have h3 := go_len (c.s.take c.e) (c.e - c.p) (c.p + 1) []
  rw [List.length_nil] at h3
  unfold Cu.readD
  repeat' split
  all_goals first
    | (show (readDGo (c.s.take c.e) (c.e - c.p) (c.p + 1) []).2.2.length ≤ _; omega)
    | (show ([] : List UInt8).length ≤ _; simp)
theorem held_len {x : CO} {k : UInt8} {n : Nat} (h : x.2.length ≤ n) : (held x k).2.t.length ≤ n := by
  unfold held
  by_cases a : x.1.c = 0
  · rw [if_pos a]; exact h
  · rw [if_neg a]; exact Nat.zero_le _
theorem tokD_len {c : Cu} (hk : c.ok) : c.tokD.2.t.length ≤ 4 * c.s.length := by
  have hr := readD_lenC hk
  have hn : c.numD.2.length ≤ 4 * c.s.length := by
    unfold Cu.numD
    repeat' split
    all_goals first
      | (show ([] : List UInt8).length ≤ _; simp; done)
      | (show (sub _ _ _).length ≤ _; unfold sub; rw [List.length_drop, List.length_take]; omega)
  have hw : ∀ k, (c.wordD k).2.t.length ≤ 4 * c.s.length := fun k => by
    unfold Cu.wordD
    split <;> (show ([] : List UInt8).length ≤ _; simp)
  unfold Cu.tokD
  repeat' split
  all_goals first
    | exact held_len hr
    | exact held_len hn
    | exact hw _
    | (show ([] : List UInt8).length ≤ _; simp)
theorem nextD_len {c : Cu} (hk : c.ok) : c.nextD.2.t.length ≤ 4 * c.s.length := by
  unfold Cu.nextD
  split
  · exact Nat.zero_le _
  · have hr := runW_le blkB c.txt c.p
    have hl := txt_len hk
    have hp := hk.1
    exact tokD_len (c := { c with p := runW blkB c.txt c.p }) ⟨by show runW blkB c.txt c.p ≤ c.e; omega, hk.2⟩
theorem all_txt : ∀ (n : Nat) (c : Cu) (l : List Tk) (m : Nat), c.ok → 4 * c.s.length ≤ m → (∀ t ∈ l, t.t.length ≤ m) → ∀ t ∈ (allD n c l).1, t.t.length ≤ m
  | 0, _, l, _, _, _, h => by rw [allD]; exact h
  | n + 1, c, l, m, hk, hm, h => by
    rw [allD]
    by_cases a : c.nextD.1.c ≠ 0
    · rw [if_pos a]; intro t ht; cases ht
    rw [if_neg a]
    by_cases b : c.nextD.2.k = 0
    · rw [if_pos b]; exact h
    rw [if_neg b]
    have o := nextD_on hk (by omega)
    refine all_txt n _ _ m o.1 (by rw [o.2.1]; exact hm) fun t ht => ?_
    rcases List.mem_append.1 ht with q | q
    · exact h t q
    · simp at q; subst q; have := nextD_len hk; omega
theorem allT_txt (s : List UInt8) : ∀ t ∈ (allT s).1, t.t.length ≤ 4 * s.length := all_txt _ _ _ _ (new_okT s) (Nat.le_refl _) (by simp)
theorem all_few : ∀ (n : Nat) (c : Cu) (l : List Tk), c.ok → (allD n c l).1.length ≤ l.length + (c.e - c.p)
  | 0, _, l, _ => by rw [allD]; simp
  | n + 1, c, l, hk => by
    rw [allD]
    by_cases a : c.nextD.1.c ≠ 0
    · rw [if_pos a]; simp
    rw [if_neg a]
    by_cases b : c.nextD.2.k = 0
    · rw [if_pos b]; simp
    rw [if_neg b]
    have o := nextD_on hk (by omega)
    have o6 := o.2.2.2.2.2 b
    have := all_few n _ (l ++ [c.nextD.2]) o.1
    have h3 := o.2.2.1
    have h1 := o.1.1
    rw [List.length_append, List.length_singleton] at this
    omega
theorem allT_few (s : List UInt8) : (allT s).1.length ≤ s.length := by have := all_few (s.length + 1) (.new s) [] (new_okT s); rw [List.length_nil, Nat.zero_add] at this; exact this
theorem all_none : ∀ (n : Nat) (c : Cu) (l : List Tk), (allD n c l).2 ≠ 0 → (allD n c l).1 = []
  | 0, _, l, h => by rw [allD] at h; exact absurd rfl h
  | n + 1, c, l, h => by
    rw [allD] at h ⊢
    by_cases a : c.nextD.1.c ≠ 0
    · rw [if_pos a]
    rw [if_neg a] at h ⊢
    by_cases b : c.nextD.2.k = 0
    · rw [if_pos b] at h; exact absurd rfl h
    rw [if_neg b] at h ⊢
    exact all_none n _ _ h
theorem allT_none {s : List UInt8} (h : (allT s).2 ≠ 0) : (allT s).1 = [] := all_none _ _ _ h
theorem joinT_snoc (f : Nat → List UInt8) : ∀ (l : List Tk) (t : Tk) (i : Nat), joinT f (l ++ [t]) i = joinT f l i ++ (f (i + l.length) ++ textT t)
  | [], t, i => by show f i ++ (textT t ++ []) = [] ++ (f (i + 0) ++ textT t); simp
  | x :: l, t, i => by
    show f i ++ (textT x ++ joinT f (l ++ [t]) (i + 1)) = (f i ++ (textT x ++ joinT f l (i + 1))) ++ (f (i + (l.length + 1)) ++ textT t)
    rw [joinT_snoc f l t (i + 1), show i + 1 + l.length = i + (l.length + 1) by omega]
    simp
theorem joinT_upto (f : Nat → List UInt8) {m k : Nat} (hf : ∀ i, (f i).length ≤ k) : ∀ (l : List Tk) (i : Nat), (∀ t ∈ l, t.t.length ≤ m) → (joinT f l i).length ≤ l.length * (6 * m + 5 + k)
  | [], _, _ => by simp [joinT]
  | t :: l, i, h => by
    have h1 := joinT_upto f hf l (i + 1) fun x hx => h x (List.mem_cons_of_mem _ hx)
    have h2 := textT_len t
    have h3 := h t (by simp)
    have h4 := hf i
    show (f i ++ (textT t ++ joinT f l (i + 1))).length ≤ (l.length + 1) * (6 * m + 5 + k)
    rw [List.length_append, List.length_append, Nat.add_mul, Nat.one_mul]; omega
/-- the blanks ahead of the i-th token -/
def blkOf (b : UInt8) : UInt8 := ([32, 9, 10, 13] : List UInt8).getD (b.toNat % 4) 0
theorem blkOf_blk (b : UInt8) : blkB (blkOf b) = true := by
  unfold blkOf
  have : b.toNat % 4 = 0 ∨ b.toNat % 4 = 1 ∨ b.toNat % 4 = 2 ∨ b.toNat % 4 = 3 := by omega
  rcases this with h | h | h | h <;> rw [h] <;> decide
def sepB (b : List UInt8) (i : Nat) : List UInt8 := if i < b.length then [32, blkOf (b.getD i 0)] else [32]
theorem sepB_sep (b : List UInt8) : Sep (sepB b) := fun i => by
  unfold sepB
  split
  · refine ⟨by simp, fun x hx => ?_⟩
    simp at hx
    rcases hx with rfl | rfl
    · decide
    · exact blkOf_blk _
  · refine ⟨by simp, fun x hx => ?_⟩
    simp at hx
    subst hx; decide
theorem sepB_len (b : List UInt8) (i : Nat) : (sepB b i).length ≤ 2 := by unfold sepB; split <;> simp
end Go.Proofs.Ytllncocibkgjkaa
