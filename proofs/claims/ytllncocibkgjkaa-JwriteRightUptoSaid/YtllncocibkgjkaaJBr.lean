/-
  A part of the proof.
-/
import Derived.Test.YtllncocibkgjkaaJRe
set_option linter.unusedSimpArgs false
set_option linter.unusedVariables false
set_option maxHeartbeats 4000000
namespace Go.Proofs.Ytllncocibkgjkaa
open Go Go.VG
set_option maxRecDepth 100000
def jq (x : List UInt8) : Prop := 0 < x.length ∧ (aW x 0).2 = x.length
inductive gP : List UInt8 → Prop where
 | nil : gP []
 | cons (x r : List UInt8) (h : jq x) (k : gP r) : gP (x ++ r)
theorem Ej (t : List UInt8) (i k : Nat) : (t.drop i).getD k 0 = t.getD (i + k) 0 := by
 rw [List.getD_eq_getElem?_getD, List.getD_eq_getElem?_getD, List.getElem?_drop]
theorem oH {x r : List UInt8} {k : Nat} (h : k < x.length) : (x ++ r).getD k 0 = x.getD k 0 := by
 rw [List.getD_eq_getElem?_getD, List.getD_eq_getElem?_getD, List.getElem?_append_left h]
theorem qe {x : List UInt8} (h : jq x) : aK (x.getD 0 0).toNat = x.length ∧ ∀ j, 1 ≤ j → j < x.length → cont (x.getD j 0) = true := by
 obtain ⟨h1, h2⟩ := h
 rw [← ji] at h2
 rcases rl x h1 with k | ⟨k1, k2, k3, k4⟩
 . omega
 . exact ⟨by omega, fun j a b => k4 j a (by omega)⟩
theorem BE {x r t : List UInt8} {i : Nat} (h : jq x) (e : t.drop i = x ++ r) : aW t i = aW x 0 := by
 have hl := congrArg List.length e
 rw [List.length_drop, List.length_append] at hl
 have h1 := h.1
 rw [rn, if_neg (by omega), e, ← ji, ← ji]
 have hn := (qe h).1
 have := rm (x ++ r) x.length (by rw [oH h1]; omega) h1 (by simp)
 rw [List.take_left] at this
 exact this.symm
theorem BF {t : List UInt8} {i : Nat} (hi : i < t.length) (h : (aW t i).2 ≠ 0) : jq ((t.drop i).take (aW t i).2) ∧ ((t.drop i).take (aW t i).2).length = (aW t i).2 := by
 have hr := vw t i
 have hl : ((t.drop i).take (aW t i).2).length = (aW t i).2 := by rw [List.length_take, List.length_drop]; omega
 refine ⟨⟨by omega, ?_⟩, hl⟩
 rw [hl]
 have e := rn t i
 rw [if_neg (by omega)] at e
 rw [e] at h ⊢
 generalize t.drop i = x at *
 rw [← ji] at h ⊢
 have hx : 0 < x.length := by
  rcases Nat.lt_or_ge 0 x.length with q | q
  . exact q
  . exact absurd (by unfold cf; rw [if_pos (by omega)]) h
 rcases rl x hx with k | ⟨k1, k2, k3, k4⟩
 . exact absurd k h
 . rw [← ji, rm x _ (by omega) (by omega) (by omega)]
theorem wD {b : UInt8} (h : b.toNat < 128) : jq [b] := by
 refine ⟨by simp, ?_⟩
 rw [← ji]
 unfold cf
 have e : ([b] : List UInt8).getD 0 0 = b := rfl
 have u : aK b.toNat = 1 := by unfold aK; rw [if_pos h]
 rw [e, u, if_neg (by simp), if_neg (by omega), if_neg (by simp), if_pos rfl]; rfl
end Go.Proofs.Ytllncocibkgjkaa
namespace Go.Proofs.Ytllncocibkgjkaa
open Go Go.VG
set_option maxRecDepth 100000
theorem dD {t : List UInt8} {i : Nat} {y : List UInt8} (e : t.drop i = y) (k : Nat) : t.getD (i + k) 0 = y.getD k 0 := by rw [← e, Ej]
theorem wj (b : UInt8) : byte (b.toNat : Int) = b := cF b
theorem BI : ∀ b : Nat, b < 32 → eS (cP (dX (b / 16))) = true ∧ eS (cP (dX (b % 16))) = true ∧ 16 * e9 (cP (dX (b / 16))) + e9 (cP (dX (b % 16))) = b := by decide
theorem vG : eS (cP 48) = true ∧ e9 (cP 48) = 0 := by decide
theorem zD {t r : List UInt8} {i : Nat} {b : UInt8} (hb : b.toNat < 32) (e : t.drop i = [92, 117, 48, 48, dX (b.toNat / 16), dX (b.toNat % 16)] ++ r) : c6 t i = ([b], (i : Int) + 6, 0) := by
 have g0 : t.getD i 0 = 92 := dD e 0
 have g1 : t.getD (i + 1) 0 = 117 := dD e 1
 have g2 : t.getD (i + 2) 0 = 48 := dD e 2
 have g3 : t.getD (i + 3) 0 = 48 := dD e 3
 have g4 : t.getD (i + 4) 0 = dX (b.toNat / 16) := dD e 4
 have g5 : t.getD (i + 5) 0 = dX (b.toNat % 16) := dD e 5
 have hl := congrArg List.length e
 rw [List.length_drop] at hl
 simp at hl
 obtain ⟨k1, k2, k3⟩ := BI b.toNat hb
 have hd : bE t 4 (i + 2) 0 = ((b.toNat : Int), 0) := by
  rw [bE, if_neg (by omega), g2, if_pos vG.1, bE, if_neg (by omega), show i + 2 + 1 = i + 3 from rfl, g3, if_pos vG.1, bE, if_neg (by omega), show i + 3 + 1 = i + 4 from rfl, g4, if_pos k1,
   bE, if_neg (by omega), show i + 4 + 1 = i + 5 from rfl, g5, if_pos k2, bE, vG.2]
  refine Prod.ext ?_ rfl
  show (16 * (16 * (16 * (16 * 0 + ((0 : Nat) : Int)) + ((0 : Nat) : Int)) + ((e9 (cP (dX (b.toNat / 16))) : Nat) : Int)) + ((e9 (cP (dX (b.toNat % 16))) : Nat) : Int)) = _
  omega
 unfold c6
 rw [g0, if_pos (by decide)]
 unfold ep
 rw [if_neg (by omega), g1, if_neg (by decide), hd, if_neg (by simp), if_neg (by simp; omega), if_neg (by simp; omega)]
 refine Prod.ext ?_ (Prod.ext (by show ((i + 1 : Nat) : Int) + 5 = (i : Int) + 6; omega) rfl)
 show bI (b.toNat : Int) = [b]
 unfold bI
 rw [if_pos (by omega), wj]
theorem zE {t r : List UInt8} {i : Nat} {b : UInt8} (hb : b.toNat = 34 ∨ b.toNat = 92) (e : t.drop i = [92, b] ++ r) : c6 t i = ([b], (i : Int) + 2, 0) := by
 have g0 : t.getD i 0 = 92 := dD e 0
 have g1 : t.getD (i + 1) 0 = b := dD e 1
 have hl := congrArg List.length e
 rw [List.length_drop] at hl
 simp at hl
 have hp : gF b = true := by unfold gF; rw [decide_eq_true_eq]; omega
 have hv : lV b = b.toNat := by unfold lV; rw [if_pos (by omega)]
 unfold c6
 rw [g0, if_pos (by decide)]
 unfold ep
 rw [if_neg (by omega), g1, if_pos (by omega), if_pos hp]
 refine Prod.ext ?_ (Prod.ext (by show ((i + 1 : Nat) : Int) + 1 = (i : Int) + 2; omega) rfl)
 show m9 b = [b]
 unfold m9
 rw [if_pos hp, hv, wj]
theorem zF {t r x : List UInt8} {i : Nat} (h : jq x) (h1 : (x.getD 0 0).toNat ≠ 92) (h2 : 32 ≤ (x.getD 0 0).toNat) (e : t.drop i = x ++ r) : c6 t i = (x, ((i + x.length : Nat) : Int), 0) := by
 have g0 : t.getD i 0 = x.getD 0 0 := (dD e 0).trans (oH h.1)
 have hr := (BE h e)
 have hn := h.2
 have hp := h.1
 unfold c6
 rw [g0, if_neg h1, if_neg (by omega), hr, hn, if_neg (by omega)]
 refine Prod.ext ?_ rfl
 show (t.take (i + x.length)).drop i = x
 rw [List.drop_take, e, Nat.add_sub_cancel_left, List.take_left]
theorem r8 (x y : List UInt8) : b8 (x ++ y) = b8 x ++ b8 y := by simp [b8]
theorem GX {x : List UInt8} (h : ∀ b ∈ x, cq b = [b]) : b8 x = x := by
 induction x with
 | nil => rfl
 | cons b x ih =>
   rw [show b :: x = [b] ++ x from rfl, r8, ih fun c hc => h c (List.mem_cons_of_mem _ hc)]
   simp [b8, h b (by simp)]
theorem uf {b : UInt8} (h1 : b.toNat ≠ 34) (h2 : b.toNat ≠ 92) (h3 : 32 ≤ b.toNat) : cq b = [b] := by
 unfold cq; rw [if_neg (by omega), if_neg (by omega)]
theorem wE {x : List UInt8} (h : jq x) (hb : (x.getD 0 0).toNat < 128) : x = [x.getD 0 0] := by
 have h1 := (qe h).1
 have : aK (x.getD 0 0).toNat = 1 := by unfold aK; rw [if_pos hb]
 match x, h1.symm.trans this with
 | [b], _ => rfl
theorem wF {x : List UInt8} (h : jq x) (h1 : (x.getD 0 0).toNat ≠ 34) (h2 : (x.getD 0 0).toNat ≠ 92) (h3 : 32 ≤ (x.getD 0 0).toNat) : b8 x = x := by
 refine GX fun b hb => ?_
 obtain ⟨j, hj, rfl⟩ := List.getElem_of_mem hb
 have e : x[j] = x.getD j 0 := by rw [List.getD_eq_getElem?_getD, List.getElem?_eq_getElem hj]; rfl
 rw [e]
 by_cases hj0 : j = 0
 . subst hj0; exact uf h1 h2 h3
 . have := (ff _).1 ((qe h).2 j (by omega) hj)
   exact uf (by omega) (by omega) (by omega)
theorem Ep {s : List UInt8} (h : gP s) : ∀ (t r o : List UInt8) (n i : Nat), t.drop i = b8 s ++ 34 :: r → t.length - i + 1 ≤ n → cA t n i o = (0, i + (b8 s).length + 1, o ++ s) := by
 induction h with
 | nil =>
   intro t r o n i e hn
   have hl := congrArg List.length e
   rw [List.length_drop] at hl
   simp [b8] at hl
   have g0 : t.getD i 0 = 34 := dD e 0
   match n with
   | 0 => omega
   | n + 1 =>
     rw [cA, if_neg (by omega), g0, if_pos (by decide)]
     simp [b8]
 | cons x s h hs ih =>
   intro t r o n i e hn
   rw [r8, List.append_assoc] at e
   have step : ∀ m : Nat, 0 < m → t.drop (i + m) = b8 s ++ 34 :: r → i < t.length → t.getD i 0 ≠ 34 → c6 t i = (x, ((i + m : Nat) : Int), 0) → (b8 x).length = m →
      cA t n i o = (0, i + (b8 (x ++ s)).length + 1, o ++ (x ++ s)) := fun m hm hd hi h34 hp hq => by
    match n with
    | 0 => omega
    | n + 1 =>
      have q : (t.getD i 0).toNat ≠ 34 := fun k => h34 (UInt8.toNat_inj.1 (by rw [k]; rfl))
      rw [cA, if_neg (by omega), if_neg q, hp, if_neg (by simp), show ((i + m : Nat) : Int).toNat = i + m from rfl, ih t r (o ++ x) n (i + m) hd (by omega), r8, List.length_append, hq]
      refine Prod.ext rfl (Prod.ext ?_ ?_)
      . show i + m + _ + 1 = i + (m + _) + 1; omega
      . show o ++ x ++ s = _; rw [List.append_assoc]
   have hdrop : t.drop (i + (b8 x).length) = b8 s ++ 34 :: r := by rw [← List.drop_drop, e, List.drop_left]
   have hl := congrArg List.length e
   rw [List.length_drop, List.length_append, List.length_append] at hl
   simp only [List.length_cons] at hl
   by_cases hb : (x.getD 0 0).toNat = 34 ∨ (x.getD 0 0).toNat = 92
   . have hx := wE h (by omega)
     generalize x.getD 0 0 = b at *
     subst hx
     have hq : b8 [b] = [92, b] := by
      show cq b ++ [] = _
      unfold cq; rw [if_pos hb]; rfl
     rw [hq] at hdrop e
     refine step 2 (by omega) hdrop (by omega) ?_ (zE hb e) (by rw [hq]; rfl)
     rw [show t.getD i 0 = 92 from dD e 0]; decide
   by_cases hc : (x.getD 0 0).toNat < 32
   . have hx := wE h (by omega)
     generalize x.getD 0 0 = b at *
     subst hx
     have hq : b8 [b] = [92, 117, 48, 48, dX (b.toNat / 16), dX (b.toNat % 16)] := by
      show cq b ++ [] = _
      unfold cq; rw [if_neg hb, if_pos hc]; rfl
     rw [hq] at hdrop e
     refine step 6 (by omega) hdrop (by omega) ?_ (zD hc e) (by rw [hq]; rfl)
     rw [show t.getD i 0 = 92 from dD e 0]; decide
   . have hq := wF h (by omega) (by omega) (by omega)
     rw [hq] at hdrop e
     have hp := h.1
     refine step x.length h.1 hdrop (by omega) ?_ (zF h (by omega) (by omega) e) (by rw [hq])
     rw [show t.getD i 0 = x.getD 0 0 from (dD e 0).trans (oH hp)]
     intro k
     rw [k] at hb
     exact hb (.inl rfl)
end Go.Proofs.Ytllncocibkgjkaa
