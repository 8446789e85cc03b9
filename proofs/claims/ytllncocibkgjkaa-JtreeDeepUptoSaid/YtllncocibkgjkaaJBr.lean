/-
  A part of the proof.
-/
import Derived.Test.YtllncocibkgjkaaJRe
set_option linter.unusedSimpArgs false
set_option linter.unusedVariables false
set_option maxHeartbeats 4000000
namespace Go.Proofs.Ytllncocibkgjkaa
open Go Go.VG
set_option maxRecDepth 100000
def j4 (x : List UInt8) : Prop := 0 < x.length ∧ (ba x 0).2 = x.length
inductive cK : List UInt8 → Prop where
 | nil : cK []
 | cons (x r : List UInt8) (h : j4 x) (k : cK r) : cK (x ++ r)
theorem cK.append {x y : List UInt8} (h : cK x) (k : cK y) : cK (x ++ y) := by
 induction h with
 | nil => exact k
 | cons x r h _ ih => rw [List.append_assoc]; exact .cons x _ h ih
theorem cK.one {x : List UInt8} (h : j4 x) : cK x := by have := cK.cons x [] h .nil; simpa using this
theorem yY (t : List UInt8) (i k : Nat) : (t.drop i).getD k 0 = t.getD (i + k) 0 := by
 rw [List.getD_eq_getElem?_getD, List.getD_eq_getElem?_getD, List.getElem?_drop]
theorem pc {x r : List UInt8} {k : Nat} (h : k < x.length) : (x ++ r).getD k 0 = x.getD k 0 := by
 rw [List.getD_eq_getElem?_getD, List.getD_eq_getElem?_getD, List.getElem?_append_left h]
theorem tu {x : List UInt8} (h : j4 x) : aS (x.getD 0 0).toNat = x.length ∧ ∀ j, 1 ≤ j → j < x.length → cont (x.getD j 0) = true := by
 obtain ⟨h1, h2⟩ := h
 rw [← jN] at h2
 rcases s8 x h1 with k | ⟨k1, k2, k3, k4⟩
 . omega
 . exact ⟨by omega, fun j a b => k4 j a (by omega)⟩
theorem CL {x r t : List UInt8} {i : Nat} (h : j4 x) (e : t.drop i = x ++ r) : ba t i = ba x 0 := by
 have hl := congrArg List.length e
 rw [List.length_drop, List.length_append] at hl
 have h1 := h.1
 rw [sa, if_neg (by omega), e, ← jN, ← jN]
 have hn := (tu h).1
 have := s9 (x ++ r) x.length (by rw [pc h1]; omega) h1 (by simp)
 rw [List.take_left] at this
 exact this.symm
theorem CM {t : List UInt8} {i : Nat} (hi : i < t.length) (h : (ba t i).2 ≠ 0) : j4 ((t.drop i).take (ba t i).2) ∧ ((t.drop i).take (ba t i).2).length = (ba t i).2 := by
 have hr := ql t i
 have hl : ((t.drop i).take (ba t i).2).length = (ba t i).2 := by rw [List.length_take, List.length_drop]; omega
 refine ⟨⟨by omega, ?_⟩, hl⟩
 rw [hl]
 have e := sa t i
 rw [if_neg (by omega)] at e
 rw [e] at h ⊢
 generalize t.drop i = x at *
 rw [← jN] at h ⊢
 have hx : 0 < x.length := by
  rcases Nat.lt_or_ge 0 x.length with q | q
  . exact q
  . exact absurd (by unfold cJ; rw [if_pos (by omega)]) h
 rcases s8 x hx with k | ⟨k1, k2, k3, k4⟩
 . exact absurd k h
 . rw [← jN, s9 x _ (by omega) (by omega) (by omega)]
theorem CK {b : UInt8} (h : b.toNat < 128) : j4 [b] := by
 refine ⟨by simp, ?_⟩
 rw [← jN]
 unfold cJ
 have e : ([b] : List UInt8).getD 0 0 = b := rfl
 have u : aS b.toNat = 1 := by unfold aS; rw [if_pos h]
 rw [e, u, if_neg (by simp), if_neg (by omega), if_neg (by simp), if_pos rfl]; rfl
theorem xR {n : Int} (h0 : 0 ≤ n) (h1 : n ≤ 1114111) (hs : n < 55296 ∨ 57343 < n) : j4 (b6 n) := by
 have hl := oC n
 refine ⟨by omega, ?_⟩
 have hg : b9 (b6 n) = n := by
  unfold b6
  repeat' split
  all_goals
   simp only [b9, dW, List.getD_cons_zero, List.getD_cons_succ, List.length_cons, List.length_nil]
   repeat (first | rw [d6 (by omega)])
  . split
    . rfl
    . have := d6 (n := n) (by omega); omega
  . have a := d6 (n := 192 + n / 64) (by omega)
    have b := d6 (n := 128 + n % 64) (by omega)
    rw [if_neg (by omega), if_neg (by omega), if_neg (by omega), if_neg (by omega)]; omega
  . have a := d6 (n := 224 + n / 4096) (by omega)
    have b := d6 (n := 128 + n / 64 % 64) (by omega)
    have c := d6 (n := 128 + n % 64) (by omega)
    rw [if_neg (by omega), if_neg (by omega), if_pos (by omega), if_neg (by omega), if_neg (by omega)]; omega
  . have a := d6 (n := 240 + n / 262144) (by omega)
    have b := d6 (n := 128 + n / 4096 % 64) (by omega)
    have c := d6 (n := 128 + n / 64 % 64) (by omega)
    have d := d6 (n := 128 + n % 64) (by omega)
    rw [if_neg (by omega), if_pos (by omega), if_neg (by omega), if_neg (by omega), if_neg (by omega)]; omega
 unfold ba
 have hi : cE n = true := (gE n).2 ⟨h0, h1, hs⟩
 rw [List.drop_zero, hg, if_neg (by omega), if_neg (by rw [hi]; simp; omega), if_pos (by rw [List.take_length])]
end Go.Proofs.Ytllncocibkgjkaa
namespace Go.Proofs.Ytllncocibkgjkaa
open Go Go.VG
set_option maxRecDepth 100000
theorem fG {t : List UInt8} {i : Nat} {y : List UInt8} (e : t.drop i = y) (k : Nat) : t.getD (i + k) 0 = y.getD k 0 := by rw [← e, yY]
theorem xG (b : UInt8) : byte (b.toNat : Int) = b := bH b
theorem CQ : ∀ b : Nat, b < 32 → et (cj (fU (b / 16))) = true ∧ et (cj (fU (b % 16))) = true ∧ 16 * dn (cj (fU (b / 16))) + dn (cj (fU (b % 16))) = b := by decide
theorem xb : et (cj 48) = true ∧ dn (cj 48) = 0 := by decide
theorem Im {t r : List UInt8} {i : Nat} {b : UInt8} (hb : b.toNat < 32) (e : t.drop i = [92, 117, 48, 48, fU (b.toNat / 16), fU (b.toNat % 16)] ++ r) : bm t i = ([b], (i : Int) + 6, 0) := by
 have g0 : t.getD i 0 = 92 := fG e 0
 have g1 : t.getD (i + 1) 0 = 117 := fG e 1
 have g2 : t.getD (i + 2) 0 = 48 := fG e 2
 have g3 : t.getD (i + 3) 0 = 48 := fG e 3
 have g4 : t.getD (i + 4) 0 = fU (b.toNat / 16) := fG e 4
 have g5 : t.getD (i + 5) 0 = fU (b.toNat % 16) := fG e 5
 have hl := congrArg List.length e
 rw [List.length_drop] at hl
 simp at hl
 obtain ⟨k1, k2, k3⟩ := CQ b.toNat hb
 have hd : bd t 4 (i + 2) 0 = ((b.toNat : Int), 0) := by
  rw [bd, if_neg (by omega), g2, if_pos xb.1, bd, if_neg (by omega), show i + 2 + 1 = i + 3 from rfl, g3, if_pos xb.1, bd, if_neg (by omega), show i + 3 + 1 = i + 4 from rfl, g4, if_pos k1,
   bd, if_neg (by omega), show i + 4 + 1 = i + 5 from rfl, g5, if_pos k2, bd, xb.2]
  refine Prod.ext ?_ rfl
  show (16 * (16 * (16 * (16 * 0 + ((0 : Nat) : Int)) + ((0 : Nat) : Int)) + ((dn (cj (fU (b.toNat / 16))) : Nat) : Int)) + ((dn (cj (fU (b.toNat % 16))) : Nat) : Int)) = _
  omega
 unfold bm
 rw [g0, if_pos (by decide)]
 unfold cz
 rw [if_neg (by omega), g1, if_neg (by decide), hd, if_neg (by simp), if_neg (by simp; omega), if_neg (by simp; omega)]
 refine Prod.ext ?_ (Prod.ext (by show ((i + 1 : Nat) : Int) + 5 = (i : Int) + 6; omega) rfl)
 show b6 (b.toNat : Int) = [b]
 unfold b6
 rw [if_pos (by omega), xG]
theorem Io {t r : List UInt8} {i : Nat} {b : UInt8} (hb : b.toNat = 34 ∨ b.toNat = 92) (e : t.drop i = [92, b] ++ r) : bm t i = ([b], (i : Int) + 2, 0) := by
 have g0 : t.getD i 0 = 92 := fG e 0
 have g1 : t.getD (i + 1) 0 = b := fG e 1
 have hl := congrArg List.length e
 rw [List.length_drop] at hl
 simp at hl
 have hp : dU b = true := by unfold dU; rw [decide_eq_true_eq]; omega
 have hv : jL b = b.toNat := by unfold jL; rw [if_pos (by omega)]
 unfold bm
 rw [g0, if_pos (by decide)]
 unfold cz
 rw [if_neg (by omega), g1, if_pos (by omega), if_pos hp]
 refine Prod.ext ?_ (Prod.ext (by show ((i + 1 : Nat) : Int) + 1 = (i : Int) + 2; omega) rfl)
 show fD b = [b]
 unfold fD
 rw [if_pos hp, hv, xG]
theorem Iq {t r x : List UInt8} {i : Nat} (h : j4 x) (h1 : (x.getD 0 0).toNat ≠ 92) (h2 : 32 ≤ (x.getD 0 0).toNat) (e : t.drop i = x ++ r) : bm t i = (x, ((i + x.length : Nat) : Int), 0) := by
 have g0 : t.getD i 0 = x.getD 0 0 := (fG e 0).trans (pc h.1)
 have hr := (CL h e)
 have hn := h.2
 have hp := h.1
 unfold bm
 rw [g0, if_neg h1, if_neg (by omega), hr, hn, if_neg (by omega)]
 refine Prod.ext ?_ rfl
 show (t.take (i + x.length)).drop i = x
 rw [List.drop_take, e, Nat.add_sub_cancel_left, List.take_left]
theorem v7 (x y : List UInt8) : cY (x ++ y) = cY x ++ cY y := by simp [cY]
theorem IJ {x : List UInt8} (h : ∀ b ∈ x, ir b = [b]) : cY x = x := by
 induction x with
 | nil => rfl
 | cons b x ih =>
   rw [show b :: x = [b] ++ x from rfl, v7, ih fun c hc => h c (List.mem_cons_of_mem _ hc)]
   simp [cY, h b (by simp)]
theorem B3 {b : UInt8} (h1 : b.toNat ≠ 34) (h2 : b.toNat ≠ 92) (h3 : 32 ≤ b.toNat) : ir b = [b] := by
 unfold ir; rw [if_neg (by omega), if_neg (by omega)]
theorem xS {x : List UInt8} (h : j4 x) (hb : (x.getD 0 0).toNat < 128) : x = [x.getD 0 0] := by
 have h1 := (tu h).1
 have : aS (x.getD 0 0).toNat = 1 := by unfold aS; rw [if_pos hb]
 match x, h1.symm.trans this with
 | [b], _ => rfl
theorem CN {x : List UInt8} (h : j4 x) (h1 : (x.getD 0 0).toNat ≠ 34) (h2 : (x.getD 0 0).toNat ≠ 92) (h3 : 32 ≤ (x.getD 0 0).toNat) : cY x = x := by
 refine IJ fun b hb => ?_
 obtain ⟨j, hj, rfl⟩ := List.getElem_of_mem hb
 have e : x[j] = x.getD j 0 := by rw [List.getD_eq_getElem?_getD, List.getElem?_eq_getElem hj]; rfl
 rw [e]
 by_cases hj0 : j = 0
 . subst hj0; exact B3 h1 h2 h3
 . have := (ga _).1 ((tu h).2 j (by omega) hj)
   exact B3 (by omega) (by omega) (by omega)
theorem FW {s : List UInt8} (h : cK s) : ∀ (t r o : List UInt8) (n i : Nat), t.drop i = cY s ++ 34 :: r → t.length - i + 1 ≤ n → bR t n i o = (0, i + (cY s).length + 1, o ++ s) := by
 induction h with
 | nil =>
   intro t r o n i e hn
   have hl := congrArg List.length e
   rw [List.length_drop] at hl
   simp [cY] at hl
   have g0 : t.getD i 0 = 34 := fG e 0
   match n with
   | 0 => omega
   | n + 1 =>
     rw [bR, if_neg (by omega), g0, if_pos (by decide)]
     simp [cY]
 | cons x s h hs ih =>
   intro t r o n i e hn
   rw [v7, List.append_assoc] at e
   have step : ∀ m : Nat, 0 < m → t.drop (i + m) = cY s ++ 34 :: r → i < t.length → t.getD i 0 ≠ 34 → bm t i = (x, ((i + m : Nat) : Int), 0) → (cY x).length = m →
      bR t n i o = (0, i + (cY (x ++ s)).length + 1, o ++ (x ++ s)) := fun m hm hd hi h34 hp hq => by
    match n with
    | 0 => omega
    | n + 1 =>
      have q : (t.getD i 0).toNat ≠ 34 := fun k => h34 (UInt8.toNat_inj.1 (by rw [k]; rfl))
      rw [bR, if_neg (by omega), if_neg q, hp, if_neg (by simp), show ((i + m : Nat) : Int).toNat = i + m from rfl, ih t r (o ++ x) n (i + m) hd (by omega), v7, List.length_append, hq]
      refine Prod.ext rfl (Prod.ext ?_ ?_)
      . show i + m + _ + 1 = i + (m + _) + 1; omega
      . show o ++ x ++ s = _; rw [List.append_assoc]
   have hdrop : t.drop (i + (cY x).length) = cY s ++ 34 :: r := by rw [← List.drop_drop, e, List.drop_left]
   have hl := congrArg List.length e
   rw [List.length_drop, List.length_append, List.length_append] at hl
   simp only [List.length_cons] at hl
   by_cases hb : (x.getD 0 0).toNat = 34 ∨ (x.getD 0 0).toNat = 92
   . have hx := xS h (by omega)
     generalize x.getD 0 0 = b at *
     subst hx
     have hq : cY [b] = [92, b] := by
      show ir b ++ [] = _
      unfold ir; rw [if_pos hb]; rfl
     rw [hq] at hdrop e
     refine step 2 (by omega) hdrop (by omega) ?_ (Io hb e) (by rw [hq]; rfl)
     rw [show t.getD i 0 = 92 from fG e 0]; decide
   by_cases hc : (x.getD 0 0).toNat < 32
   . have hx := xS h (by omega)
     generalize x.getD 0 0 = b at *
     subst hx
     have hq : cY [b] = [92, 117, 48, 48, fU (b.toNat / 16), fU (b.toNat % 16)] := by
      show ir b ++ [] = _
      unfold ir; rw [if_neg hb, if_pos hc]; rfl
     rw [hq] at hdrop e
     refine step 6 (by omega) hdrop (by omega) ?_ (Im hc e) (by rw [hq]; rfl)
     rw [show t.getD i 0 = 92 from fG e 0]; decide
   . have hq := CN h (by omega) (by omega) (by omega)
     rw [hq] at hdrop e
     have hp := h.1
     refine step x.length h.1 hdrop (by omega) ?_ (Iq h (by omega) (by omega) e) (by rw [hq])
     rw [show t.getD i 0 = x.getD 0 0 from (fG e 0).trans (pc hp)]
     intro k
     rw [k] at hb
     exact hb (.inl rfl)
theorem D8 (t : List UInt8) (i : Nat) : (     cz t i).2.2 = 0 → cK (cz t i).1 := by
  have hd := fun j => qR t 4 j 0 1 (by omega) (by omega) (by omega)
  have h1 := hd (i + 1)
  have h2 := hd (i + 5 + 2)
  unfold cz cI
  repeat' split
  all_goals intro h
  all_goals first
    | (exfalso; simp at h; done)
    | (exfalso; exact absurd h (by assumption))
    | skip
  . rename_i hp
    refine cK.one ?_
    show j4 (fD _)
    unfold fD
    rw [if_pos hp]
    have hv : jL (t.getD i 0) < 128 := by     unfold jL; repeat' split
                                              all_goals omega
    exact CK (by have := d6 (n := jL (t.getD i 0)) (by omega); omega)
  . refine cK.one (xR ?_ ?_ ?_) <;> omega
  . refine cK.one (xR ?_ ?_ ?_) <;> omega
theorem Ir (t : List UInt8) (i : Nat) (hi : i < t.length) : (bm t i).2.2 = 0 → cK (bm t i).1 := by
 unfold bm
 repeat' split
 all_goals intro h
 . exact D8 t _ h
 . exfalso; simp at h
 . exfalso; simp at h
 . rename_i q
   rw [List.drop_take, Nat.add_sub_cancel_left]
   exact cK.one (CM hi q).1
theorem zi (t : List UInt8) : ∀ (n i : Nat) (o : List UInt8), cK o → (bR t n i o).1 = 0 → cK (bR t n i o).2.2
 | 0, _, _, _, h => by rw [bR] at h; simp at h
 | n + 1, i, o, ho, h => by
   rw [bR] at h ⊢
   by_cases a : t.length ≤ i
   . rw [if_pos a] at h; simp at h
   . rw [if_neg a] at h ⊢
     by_cases b : (t.getD i 0).toNat = 34
     . rw [if_pos b]; exact ho
     . rw [if_neg b] at h ⊢
       by_cases c : (bm t i).2.2 ≠ 0
       . rw [if_pos c] at h; exact absurd h c
       . rw [if_neg c] at h ⊢
         exact zi t n _ _ (ho.append (Ir t i (by omega) (by omega))) h
theorem IS {c : Cu} (h0 : c.c = 0) (h : c.dr.1.c = 0) : cK c.dr.2 := by
 have e : ∀ k : Int, k ≠ 0 → (c.fail k).c ≠ 0 := fun k hk => by rw [fI _ h0]; exact hk
 unfold Cu.dr at h ⊢
 rw [if_neg (by omega)] at h ⊢
 by_cases a : c.p = c.e
 . rw [if_pos a] at h; exact absurd h (e 1 (by decide))
 rw [if_neg a] at h ⊢
 by_cases b : c.get.toNat ≠ 34
 . rw [if_pos b] at h; exact absurd h (e 3 (by decide))
 rw [if_neg b] at h ⊢
 by_cases d : (bR (c.s.take c.e) (c.e - c.p) (c.p + 1) []).1 = 0
 . rw [if_pos d]; exact zi _ _ _ _ .nil d
 . rw [if_neg d] at h; exact absurd h (e _ d)
theorem Ip (t : List UInt8) (i : Nat) : (bm t i).2.2 = 0 → (bm t i).1.length ≤ 4 := by
 have hr := ql t i
 unfold bm
 repeat' split
 all_goals intro h
 . have := yx t (i + 1) h; omega
 . exfalso; simp at h
 . exfalso; simp at h
 . show ((t.take (i + (ba t i).2)).drop i).length ≤ 4
   rw [List.length_drop, List.length_take]; omega
theorem zf : ∀ (t : List UInt8) (n i : Nat) (o : List UInt8), (bR t n i o).2.2.length ≤ o.length + 4 * n
 | t, 0, _, _ => by rw [bR]; simp
 | t, n + 1, i, o => by
   rw [bR]
   repeat' split
   . simp
   . show o.length ≤ _; omega
   . simp
   . have h := Ip t i (by omega)
     have := zf t n (bm t i).2.1.toNat (o ++ (bm t i).1)
     rw [List.length_append] at this; omega
end Go.Proofs.Ytllncocibkgjkaa
