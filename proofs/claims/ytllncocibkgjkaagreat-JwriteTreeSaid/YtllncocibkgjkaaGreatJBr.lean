/-
  A part of the proof.
-/
import Derived.Test.YtllncocibkgjkaaGreatJRe
set_option linter.unusedSimpArgs false
set_option linter.unusedVariables false
set_option maxHeartbeats 4000000
namespace Go.Proofs.YtllncocibkgjkaaGreat
open Go Go.VG
set_option maxRecDepth 100000
def ji (x : List UInt8) : Prop := 0 < x.length ∧ (b8 x 0).2 = x.length
inductive cN : List UInt8 → Prop where
 | nil : cN []
 | cons (x r : List UInt8) (h : ji x) (k : cN r) : cN (x ++ r)
theorem cN.append {x y : List UInt8} (h : cN x) (k : cN y) : cN (x ++ y) := by
 induction h with
 | nil => exact k
 | cons x r h _ ih => rw [List.append_assoc]; exact .cons x _ h ih
theorem cN.one {x : List UInt8} (h : ji x) : cN x := by have := cN.cons x [] h .nil; simpa using this
theorem zu (t : List UInt8) (i k : Nat) : (t.drop i).getD k 0 = t.getD (i + k) 0 := by
 rw [List.getD_eq_getElem?_getD, List.getD_eq_getElem?_getD, List.getElem?_drop]
theorem pG {x r : List UInt8} {k : Nat} (h : k < x.length) : (x ++ r).getD k 0 = x.getD k 0 := by
 rw [List.getD_eq_getElem?_getD, List.getD_eq_getElem?_getD, List.getElem?_append_left h]
theorem u6 {x : List UInt8} (h : ji x) : aO (x.getD 0 0).toNat = x.length ∧ ∀ j, 1 ≤ j → j < x.length → cont (x.getD j 0) = true := by
 obtain ⟨h1, h2⟩ := h
 rw [← kd] at h2
 rcases sy x h1 with k | ⟨k1, k2, k3, k4⟩
 . omega
 . exact ⟨by omega, fun j a b => k4 j a (by omega)⟩
theorem Dx {x r t : List UInt8} {i : Nat} (h : ji x) (e : t.drop i = x ++ r) : b8 t i = b8 x 0 := by
 have hl := congrArg List.length e
 rw [List.length_drop, List.length_append] at hl
 have h1 := h.1
 rw [sD, if_neg (by omega), e, ← kd, ← kd]
 have hn := (u6 h).1
 have := sC (x ++ r) x.length (by rw [pG h1]; omega) h1 (by simp)
 rw [List.take_left] at this
 exact this.symm
theorem Dy {t : List UInt8} {i : Nat} (hi : i < t.length) (h : (b8 t i).2 ≠ 0) : ji ((t.drop i).take (b8 t i).2) ∧ ((t.drop i).take (b8 t i).2).length = (b8 t i).2 := by
 have hr := qE t i
 have hl : ((t.drop i).take (b8 t i).2).length = (b8 t i).2 := by rw [List.length_take, List.length_drop]; omega
 refine ⟨⟨by omega, ?_⟩, hl⟩
 rw [hl]
 have e := sD t i
 rw [if_neg (by omega)] at e
 rw [e] at h ⊢
 generalize t.drop i = x at *
 rw [← kd] at h ⊢
 have hx : 0 < x.length := by
  rcases Nat.lt_or_ge 0 x.length with q | q
  . exact q
  . exact absurd (by unfold cM; rw [if_pos (by omega)]) h
 rcases sy x hx with k | ⟨k1, k2, k3, k4⟩
 . exact absurd k h
 . rw [← kd, sC x _ (by omega) (by omega) (by omega)]
theorem Dw {b : UInt8} (h : b.toNat < 128) : ji [b] := by
 refine ⟨by simp, ?_⟩
 rw [← kd]
 unfold cM
 have e : ([b] : List UInt8).getD 0 0 = b := rfl
 have u : aO b.toNat = 1 := by unfold aO; rw [if_pos h]
 rw [e, u, if_neg (by simp), if_neg (by omega), if_neg (by simp), if_pos rfl]; rfl
theorem yv {n : Int} (h0 : 0 ≤ n) (h1 : n ≤ 1114111) (hs : n < 55296 ∨ 57343 < n) : ji (aZ n) := by
 have hl := oU n
 refine ⟨by omega, ?_⟩
 have hg : b7 (aZ n) = n := by
  unfold aZ
  repeat' split
  all_goals
   simp only [b7, dY, List.getD_cons_zero, List.getD_cons_succ, List.length_cons, List.length_nil]
   repeat (first | rw [d8 (by omega)])
  . split
    . rfl
    . have := d8 (n := n) (by omega); omega
  . have a := d8 (n := 192 + n / 64) (by omega)
    have b := d8 (n := 128 + n % 64) (by omega)
    rw [if_neg (by omega), if_neg (by omega), if_neg (by omega), if_neg (by omega)]; omega
  . have a := d8 (n := 224 + n / 4096) (by omega)
    have b := d8 (n := 128 + n / 64 % 64) (by omega)
    have c := d8 (n := 128 + n % 64) (by omega)
    rw [if_neg (by omega), if_neg (by omega), if_pos (by omega), if_neg (by omega), if_neg (by omega)]; omega
  . have a := d8 (n := 240 + n / 262144) (by omega)
    have b := d8 (n := 128 + n / 4096 % 64) (by omega)
    have c := d8 (n := 128 + n / 64 % 64) (by omega)
    have d := d8 (n := 128 + n % 64) (by omega)
    rw [if_neg (by omega), if_pos (by omega), if_neg (by omega), if_neg (by omega), if_neg (by omega)]; omega
 unfold b8
 have hi : cF n = true := (gQ n).2 ⟨h0, h1, hs⟩
 rw [List.drop_zero, hg, if_neg (by omega), if_neg (by rw [hi]; simp; omega), if_pos (by rw [List.take_length])]
end Go.Proofs.YtllncocibkgjkaaGreat
namespace Go.Proofs.YtllncocibkgjkaaGreat
open Go Go.VG
set_option maxRecDepth 100000
theorem fH {t : List UInt8} {i : Nat} {y : List UInt8} (e : t.drop i = y) (k : Nat) : t.getD (i + k) 0 = y.getD k 0 := by rw [← e, zu]
theorem yi (b : UInt8) : byte (b.toNat : Int) = b := c5 b
theorem DC : ∀ b : Nat, b < 32 → ew (cf (fY (b / 16))) = true ∧ ew (cf (fY (b % 16))) = true ∧ 16 * dq (cf (fY (b / 16))) + dq (cf (fY (b % 16))) = b := by decide
theorem xJ : ew (cf 48) = true ∧ dq (cf 48) = 0 := by decide
theorem JE {t r : List UInt8} {i : Nat} {b : UInt8} (hb : b.toNat < 32) (e : t.drop i = [92, 117, 48, 48, fY (b.toNat / 16), fY (b.toNat % 16)] ++ r) : bh t i = ([b], (i : Int) + 6, 0) := by
 have g0 : t.getD i 0 = 92 := fH e 0
 have g1 : t.getD (i + 1) 0 = 117 := fH e 1
 have g2 : t.getD (i + 2) 0 = 48 := fH e 2
 have g3 : t.getD (i + 3) 0 = 48 := fH e 3
 have g4 : t.getD (i + 4) 0 = fY (b.toNat / 16) := fH e 4
 have g5 : t.getD (i + 5) 0 = fY (b.toNat % 16) := fH e 5
 have hl := congrArg List.length e
 rw [List.length_drop] at hl
 simp at hl
 obtain ⟨k1, k2, k3⟩ := DC b.toNat hb
 have hd : ba t 4 (i + 2) 0 = ((b.toNat : Int), 0) := by
  rw [ba, if_neg (by omega), g2, if_pos xJ.1, ba, if_neg (by omega), show i + 2 + 1 = i + 3 from rfl, g3, if_pos xJ.1, ba, if_neg (by omega), show i + 3 + 1 = i + 4 from rfl, g4, if_pos k1,
   ba, if_neg (by omega), show i + 4 + 1 = i + 5 from rfl, g5, if_pos k2, ba, xJ.2]
  refine Prod.ext ?_ rfl
  show (16 * (16 * (16 * (16 * 0 + ((0 : Nat) : Int)) + ((0 : Nat) : Int)) + ((dq (cf (fY (b.toNat / 16))) : Nat) : Int)) + ((dq (cf (fY (b.toNat % 16))) : Nat) : Int)) = _
  omega
 unfold bh
 rw [g0, if_pos (by decide)]
 unfold cA
 rw [if_neg (by omega), g1, if_neg (by decide), hd, if_neg (by simp), if_neg (by simp; omega), if_neg (by simp; omega)]
 refine Prod.ext ?_ (Prod.ext (by show ((i + 1 : Nat) : Int) + 5 = (i : Int) + 6; omega) rfl)
 show aZ (b.toNat : Int) = [b]
 unfold aZ
 rw [if_pos (by omega), yi]
theorem JF {t r : List UInt8} {i : Nat} {b : UInt8} (hb : b.toNat = 34 ∨ b.toNat = 92) (e : t.drop i = [92, b] ++ r) : bh t i = ([b], (i : Int) + 2, 0) := by
 have g0 : t.getD i 0 = 92 := fH e 0
 have g1 : t.getD (i + 1) 0 = b := fH e 1
 have hl := congrArg List.length e
 rw [List.length_drop] at hl
 simp at hl
 have hp : dW b = true := by unfold dW; rw [decide_eq_true_eq]; omega
 have hv : kb b = b.toNat := by unfold kb; rw [if_pos (by omega)]
 unfold bh
 rw [g0, if_pos (by decide)]
 unfold cA
 rw [if_neg (by omega), g1, if_pos (by omega), if_pos hp]
 refine Prod.ext ?_ (Prod.ext (by show ((i + 1 : Nat) : Int) + 1 = (i : Int) + 2; omega) rfl)
 show fE b = [b]
 unfold fE
 rw [if_pos hp, hv, yi]
theorem JH {t r x : List UInt8} {i : Nat} (h : ji x) (h1 : (x.getD 0 0).toNat ≠ 92) (h2 : 32 ≤ (x.getD 0 0).toNat) (e : t.drop i = x ++ r) : bh t i = (x, ((i + x.length : Nat) : Int), 0) := by
 have g0 : t.getD i 0 = x.getD 0 0 := (fH e 0).trans (pG h.1)
 have hr := (Dx h e)
 have hn := h.2
 have hp := h.1
 unfold bh
 rw [g0, if_neg h1, if_neg (by omega), hr, hn, if_neg (by omega)]
 refine Prod.ext ?_ rfl
 show (t.take (i + x.length)).drop i = x
 rw [List.drop_take, e, Nat.add_sub_cancel_left, List.take_left]
theorem vD (x y : List UInt8) : d5 (x ++ y) = d5 x ++ d5 y := by simp [d5]
theorem JZ {x : List UInt8} (h : ∀ b ∈ x, iK b = [b]) : d5 x = x := by
 induction x with
 | nil => rfl
 | cons b x ih =>
   rw [show b :: x = [b] ++ x from rfl, vD, ih fun c hc => h c (List.mem_cons_of_mem _ hc)]
   simp [d5, h b (by simp)]
theorem BK {b : UInt8} (h1 : b.toNat ≠ 34) (h2 : b.toNat ≠ 92) (h3 : 32 ≤ b.toNat) : iK b = [b] := by
 unfold iK; rw [if_neg (by omega), if_neg (by omega)]
theorem yw {x : List UInt8} (h : ji x) (hb : (x.getD 0 0).toNat < 128) : x = [x.getD 0 0] := by
 have h1 := (u6 h).1
 have : aO (x.getD 0 0).toNat = 1 := by unfold aO; rw [if_pos hb]
 match x, h1.symm.trans this with
 | [b], _ => rfl
theorem Dz {x : List UInt8} (h : ji x) (h1 : (x.getD 0 0).toNat ≠ 34) (h2 : (x.getD 0 0).toNat ≠ 92) (h3 : 32 ≤ (x.getD 0 0).toNat) : d5 x = x := by
 refine JZ fun b hb => ?_
 obtain ⟨j, hj, rfl⟩ := List.getElem_of_mem hb
 have e : x[j] = x.getD j 0 := by rw [List.getD_eq_getElem?_getD, List.getElem?_eq_getElem hj]; rfl
 rw [e]
 by_cases hj0 : j = 0
 . subst hj0; exact BK h1 h2 h3
 . have := (gw _).1 ((u6 h).2 j (by omega) hj)
   exact BK (by omega) (by omega) (by omega)
theorem H3 {s : List UInt8} (h : cN s) : ∀ (t r o : List UInt8) (n i : Nat), t.drop i = d5 s ++ 34 :: r → t.length - i + 1 ≤ n → bU t n i o = (0, i + (d5 s).length + 1, o ++ s) := by
 induction h with
 | nil =>
   intro t r o n i e hn
   have hl := congrArg List.length e
   rw [List.length_drop] at hl
   simp [d5] at hl
   have g0 : t.getD i 0 = 34 := fH e 0
   match n with
   | 0 => omega
   | n + 1 =>
     rw [bU, if_neg (by omega), g0, if_pos (by decide)]
     simp [d5]
 | cons x s h hs ih =>
   intro t r o n i e hn
   rw [vD, List.append_assoc] at e
   have step : ∀ m : Nat, 0 < m → t.drop (i + m) = d5 s ++ 34 :: r → i < t.length → t.getD i 0 ≠ 34 → bh t i = (x, ((i + m : Nat) : Int), 0) → (d5 x).length = m →
      bU t n i o = (0, i + (d5 (x ++ s)).length + 1, o ++ (x ++ s)) := fun m hm hd hi h34 hp hq => by
    match n with
    | 0 => omega
    | n + 1 =>
      have q : (t.getD i 0).toNat ≠ 34 := fun k => h34 (UInt8.toNat_inj.1 (by rw [k]; rfl))
      rw [bU, if_neg (by omega), if_neg q, hp, if_neg (by simp), show ((i + m : Nat) : Int).toNat = i + m from rfl, ih t r (o ++ x) n (i + m) hd (by omega), vD, List.length_append, hq]
      refine Prod.ext rfl (Prod.ext ?_ ?_)
      . show i + m + _ + 1 = i + (m + _) + 1; omega
      . show o ++ x ++ s = _; rw [List.append_assoc]
   have hdrop : t.drop (i + (d5 x).length) = d5 s ++ 34 :: r := by rw [← List.drop_drop, e, List.drop_left]
   have hl := congrArg List.length e
   rw [List.length_drop, List.length_append, List.length_append] at hl
   simp only [List.length_cons] at hl
   by_cases hb : (x.getD 0 0).toNat = 34 ∨ (x.getD 0 0).toNat = 92
   . have hx := yw h (by omega)
     generalize x.getD 0 0 = b at *
     subst hx
     have hq : d5 [b] = [92, b] := by
      show iK b ++ [] = _
      unfold iK; rw [if_pos hb]; rfl
     rw [hq] at hdrop e
     refine step 2 (by omega) hdrop (by omega) ?_ (JF hb e) (by rw [hq]; rfl)
     rw [show t.getD i 0 = 92 from fH e 0]; decide
   by_cases hc : (x.getD 0 0).toNat < 32
   . have hx := yw h (by omega)
     generalize x.getD 0 0 = b at *
     subst hx
     have hq : d5 [b] = [92, 117, 48, 48, fY (b.toNat / 16), fY (b.toNat % 16)] := by
      show iK b ++ [] = _
      unfold iK; rw [if_neg hb, if_pos hc]; rfl
     rw [hq] at hdrop e
     refine step 6 (by omega) hdrop (by omega) ?_ (JE hc e) (by rw [hq]; rfl)
     rw [show t.getD i 0 = 92 from fH e 0]; decide
   . have hq := Dz h (by omega) (by omega) (by omega)
     rw [hq] at hdrop e
     have hp := h.1
     refine step x.length h.1 hdrop (by omega) ?_ (JH h (by omega) (by omega) e) (by rw [hq])
     rw [show t.getD i 0 = x.getD 0 0 from (fH e 0).trans (pG hp)]
     intro k
     rw [k] at hb
     exact hb (.inl rfl)
theorem DX (t : List UInt8) (i : Nat) : (     cA t i).2.2 = 0 → cN (cA t i).1 := by
  have hd := fun j => re t 4 j 0 1 (by omega) (by omega) (by omega)
  have h1 := hd (i + 1)
  have h2 := hd (i + 5 + 2)
  unfold cA cL
  repeat' split
  all_goals intro h
  all_goals first
    | (exfalso; simp at h; done)
    | (exfalso; exact absurd h (by assumption))
    | skip
  . rename_i hp
    refine cN.one ?_
    show ji (fE _)
    unfold fE
    rw [if_pos hp]
    have hv : kb (t.getD i 0) < 128 := by     unfold kb; repeat' split
                                              all_goals omega
    exact Dw (by have := d8 (n := kb (t.getD i 0)) (by omega); omega)
  . refine cN.one (yv ?_ ?_ ?_) <;> omega
  . refine cN.one (yv ?_ ?_ ?_) <;> omega
theorem JI (t : List UInt8) (i : Nat) (hi : i < t.length) : (bh t i).2.2 = 0 → cN (bh t i).1 := by
 unfold bh
 repeat' split
 all_goals intro h
 . exact DX t _ h
 . exfalso; simp at h
 . exfalso; simp at h
 . rename_i q
   rw [List.drop_take, Nat.add_sub_cancel_left]
   exact cN.one (Dy hi q).1
theorem zH (t : List UInt8) : ∀ (n i : Nat) (o : List UInt8), cN o → (bU t n i o).1 = 0 → cN (bU t n i o).2.2
 | 0, _, _, _, h => by rw [bU] at h; simp at h
 | n + 1, i, o, ho, h => by
   rw [bU] at h ⊢
   by_cases a : t.length ≤ i
   . rw [if_pos a] at h; simp at h
   . rw [if_neg a] at h ⊢
     by_cases b : (t.getD i 0).toNat = 34
     . rw [if_pos b]; exact ho
     . rw [if_neg b] at h ⊢
       by_cases c : (bh t i).2.2 ≠ 0
       . rw [if_pos c] at h; exact absurd h c
       . rw [if_neg c] at h ⊢
         exact zH t n _ _ (ho.append (JI t i (by omega) (by omega))) h
theorem K8 {c : Cu} (h0 : c.c = 0) (h : c.dt.1.c = 0) : cN c.dt.2 := by
 have e : ∀ k : Int, k ≠ 0 → (c.fail k).c ≠ 0 := fun k hk => by rw [fK _ h0]; exact hk
 unfold Cu.dt at h ⊢
 rw [if_neg (by omega)] at h ⊢
 by_cases a : c.p = c.e
 . rw [if_pos a] at h; exact absurd h (e 1 (by decide))
 rw [if_neg a] at h ⊢
 by_cases b : c.get.toNat ≠ 34
 . rw [if_pos b] at h; exact absurd h (e 3 (by decide))
 rw [if_neg b] at h ⊢
 by_cases d : (bU (c.s.take c.e) (c.e - c.p) (c.p + 1) []).1 = 0
 . rw [if_pos d]; exact zH _ _ _ _ .nil d
 . rw [if_neg d] at h; exact absurd h (e _ d)
theorem JG (t : List UInt8) (i : Nat) : (bh t i).2.2 = 0 → (bh t i).1.length ≤ 4 := by
 have hr := qE t i
 unfold bh
 repeat' split
 all_goals intro h
 . have := yY t (i + 1) h; omega
 . exfalso; simp at h
 . exfalso; simp at h
 . show ((t.take (i + (b8 t i).2)).drop i).length ≤ 4
   rw [List.length_drop, List.length_take]; omega
theorem zE : ∀ (t : List UInt8) (n i : Nat) (o : List UInt8), (bU t n i o).2.2.length ≤ o.length + 4 * n
 | t, 0, _, _ => by rw [bU]; simp
 | t, n + 1, i, o => by
   rw [bU]
   repeat' split
   . simp
   . show o.length ≤ _; omega
   . simp
   . have h := JG t i (by omega)
     have := zE t n (bh t i).2.1.toNat (o ++ (bh t i).1)
     rw [List.length_append] at this; omega
end Go.Proofs.YtllncocibkgjkaaGreat
