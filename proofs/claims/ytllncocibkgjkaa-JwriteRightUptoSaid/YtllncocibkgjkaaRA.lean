/-
  A part of the proof.
-/
import Derived.Test.YtllncocibkgjkaaTRk
set_option linter.unusedSimpArgs false
set_option linter.unusedVariables false
set_option maxHeartbeats 4000000
namespace Go.Proofs.Ytllncocibkgjkaa
open Go Go.VG
set_option maxRecDepth 100000
def bq (c : Cu) (n : Nat) : Cu := { c with p := c.p + n }
theorem hP (c : Cu) (n m : Nat) : bq (bq c n) m = bq c (n + m) := by unfold bq; simp only [Nat.add_assoc]
structure At (c : Cu) (x : List UInt8) : Prop where
 live : c.live
 e : c.e = c.s.length
 d : c.s.drop c.p = x
theorem At.len {c : Cu} {x : List UInt8} (h : At c x) : c.p + x.length = c.e := by
 have h1 := congrArg List.length h.d
 rw [List.length_drop] at h1
 have h2 := h.e
 have h3 := h.live.1.1
 omega
theorem At.bq {c : Cu} {x r : List UInt8} (h : At c (x ++ r)) : At (bq c x.length) r := by
 have hl := h.len
 rw [List.length_append] at hl
 refine ⟨⟨⟨by show c.p + x.length ≤ c.e; omega, h.live.1.2⟩, h.live.2⟩, h.e, ?_⟩
 show c.s.drop (c.p + x.length) = r
 rw [← List.drop_drop, h.d, List.drop_left]
theorem tkR_k {t : Tk} (h : lg t) : t.k ≠ 0 := by
 intro e
 rcases h with ⟨q, _⟩ | ⟨q, _⟩ | ⟨q, _⟩ | ⟨q, _⟩
 . rw [q] at e; exact absurd e (by decide)
 . rw [q] at e; exact absurd e (by decide)
 . rw [e] at q; exact absurd q (by decide)
 . rcases q with q | q | q <;> (rw [q] at e; exact absurd e (by decide))
theorem At.tok {c : Cu} {t : Tk} {r : List UInt8} (h : At c (bG t ++ r)) (ht : lg t) (hs : t.k = 110 → r = [] ∨ jQ (r.getD 0 0) = true) : c.aE = 0 ∧ c.next = (Go.Proofs.Ytllncocibkgjkaa.bq c (bG t).length, t) := by
 obtain ⟨f1, f2⟩ := AB ht
 have htx : c.a8 = c.s := by unfold Cu.a8; rw [h.e, List.take_length]
 have h0 : c.s.getD c.p 0 = (bG t).getD 0 0 := by
  have := dD h.d 0
  rw [oH f1] at this; exact this
 have hn : c.bF = (Go.Proofs.Ytllncocibkgjkaa.bq c (bG t).length, t) := by
  unfold Cu.bF
  rw [if_neg (show ¬ c.c ≠ 0 from fun q => q h.live.2.1), htx, nD (.inr (by rw [h0]; exact f2))]
  exact Im h.e h.live.2.1 h.d ht hs
 have hq := nr h.live.1
 have hc : c.bF.1.c = 0 := by rw [hn]; exact h.live.2.1
 have e : c.next = c.bF := Prod.ext (hq.2.2 hc) hq.1
 refine ⟨?_, by rw [e, hn]⟩
 unfold Cu.aE
 rw [e, if_neg (fun q => q hc), if_neg (by rw [hn]; exact tkR_k ht)]
theorem At.sign {c : Cu} {k : UInt8} {r : List UInt8} (h : At c (k :: r)) (hk : dL k = true) (he : bG ⟨k, []⟩ = [k]) : c.aE = 0 ∧ c.next = (Go.Proofs.Ytllncocibkgjkaa.bq c 1, ⟨k, []⟩) ∧ At (Go.Proofs.Ytllncocibkgjkaa.bq c 1) r := by
 have h' : At c (bG ⟨k, []⟩ ++ r) := by rw [he]; exact h
 have ht : lg ⟨k, []⟩ := .inr (.inr (.inl ⟨hk, rfl⟩))
 have := h'.tok ht (fun q => by
  have q : k = 110 := q
  rw [q] at hk; exact absurd hk (by decide))
 rw [he] at this
 exact ⟨this.1, this.2, At.bq (x := [k]) h⟩
theorem yM {k : UInt8} (h : eQ k = true) : k.toNat = 115 ∨ k.toNat = 110 ∨ k.toNat = 116 ∨ k.toNat = 102 ∨ k.toNat = 122 := of_decide_eq_true h
theorem sE (g : It → List UInt8) : ∀ (l : List It) (i : Nat), l.length ≤ (aC g l (i + 1)).length
 | [], _ => Nat.zero_le _
 | x :: l, i => by
   have := sE g l (i + 1)
   show l.length + 1 ≤ ((if i + 1 = 0 then ([] : List UInt8) else [44]) ++ (g x ++ aC g l (i + 1 + 1))).length
   rw [if_neg (by omega), List.length_append, List.length_append, List.length_singleton]; omega
theorem oh (g : It → List UInt8) (x : It) (l : List It) (i : Nat) : aC g (x :: l) (i + 1) = 44 :: (g x ++ aC g l (i + 1 + 1)) := by
 show (if i + 1 = 0 then ([] : List UInt8) else [44]) ++ (g x ++ aC g l (i + 1 + 1)) = _
 rw [if_neg (by omega)]; rfl
theorem om (g : It → List UInt8) (l : List It) (i : Nat) (k : UInt8) (r : List UInt8) (hk : jQ k = true) : aC g l (i + 1) ++ k :: r = [] ∨ jQ ((aC g l (i + 1) ++ k :: r).getD 0 0) = true := by
 right
 cases l with
 | nil => exact hk
 | cons x l => rw [oh]; show jQ 44 = true; decide
theorem At.fin {c : Cu} (h : At c []) : c.next.2.k = 0 ∧ c.next.1.c = 0 := by
 have hl := h.len
 have htx : c.a8 = c.s := by unfold Cu.a8; rw [h.e, List.take_length]
 have hn : c.bF = (c, .no) := by
  unfold Cu.bF
  rw [if_neg (show ¬ c.c ≠ 0 from fun q => q h.live.2.1), htx, nD (.inl (by have := h.e; simp at hl; omega))]
  show c.iA = _
  unfold Cu.iA
  rw [if_pos (by simpa using hl)]
 have hq := nr h.live.1
 rw [hn] at hq
 exact ⟨by rw [hq.1], by rw [hq.2.1]; exact h.live.2.1⟩
theorem At.new {s : List UInt8} (h : s.length ≤ 10000000) : At (.new s) s := ⟨⟨⟨Nat.zero_le _, Nat.le_refl _⟩, rfl, h⟩, rfl, rfl⟩
end Go.Proofs.Ytllncocibkgjkaa
namespace Go.Proofs.Ytllncocibkgjkaa
open Go Go.VG
set_option maxRecDepth 100000
theorem wN : ∀ (x s y r : List UInt8), (∀ b ∈ x, 128 ≤ b.toNat) → b8 s ++ 34 :: r = x ++ y → ∃ z, s = x ++ z
 | [], s, _, _, _, _ => ⟨s, rfl⟩
 | c :: x, [], y, r, h, e => by
   have e : (34 : UInt8) :: r = c :: (x ++ y) := e
   have hc := h c List.mem_cons_self
   rw [← (List.cons.inj e).1] at hc
   exact absurd hc (by decide)
 | c :: x, b :: s, y, r, h, e => by
   have hc := h c List.mem_cons_self
   have e : (cq b ++ b8 s) ++ 34 :: r = c :: (x ++ y) := e
   by_cases h1 : b.toNat = 34 ∨ b.toNat = 92
   . rw [show cq b = [92, b] by unfold cq; rw [if_pos h1]] at e
     have := (List.cons.inj e).1
     rw [← this] at hc
     exact absurd hc (by decide)
   by_cases h2 : b.toNat < 32
   . rw [show cq b = [92, 117, 48, 48, dX (b.toNat / 16), dX (b.toNat % 16)] by unfold cq; rw [if_neg h1, if_pos h2]; rfl] at e
     have := (List.cons.inj e).1
     rw [← this] at hc
     exact absurd hc (by decide)
   . rw [show cq b = [b] by unfold cq; rw [if_neg h1, if_neg h2]] at e
     obtain ⟨e1, e2⟩ := List.cons.inj (show b :: (b8 s ++ 34 :: r) = c :: (x ++ y) by simpa using e)
     obtain ⟨z, rfl⟩ := wN x s y r (fun d hd => h d (List.mem_cons_of_mem _ hd)) e2
     exact ⟨z, by rw [e1]; rfl⟩
theorem xN : ∀ (k : Nat) (s : List UInt8), s.length ≤ k → ¬ gP s → ∀ (t r o : List UInt8) (n i : Nat), t.drop i = b8 s ++ 34 :: r → t.length - i + 1 ≤ n → (cA t n i o).1 = 5
 | k, [], _, h, _, _, _, _, _, _, _ => absurd .nil h
 | 0, _ :: _, hk, _, _, _, _, _, _, _, _ => by simp at hk
 | k + 1, b :: s, hk, h, t, r, o, n, i, e, hn => by
   have hk : s.length ≤ k := by simpa using hk
   have hl := congrArg List.length e
   rw [List.length_drop, List.length_append, List.length_cons] at hl
   obtain ⟨n, rfl⟩ : ∃ m, n = m + 1 := ⟨n - 1, by omega⟩
   have step : ∀ (x z : List UInt8) (m : Nat), b :: s = x ++ z → z.length ≤ k → jq x → 0 < m → t.drop (i + m) = b8 z ++ 34 :: r → (t.getD i 0).toNat ≠ 34 → c6 t i = (x, ((i + m : Nat) : Int), 0) → (cA t (n + 1) i o).1 = 5 := fun x z m hx hz hc hm hd h34 hp => by
    rw [cA, if_neg (by omega), if_neg h34, hp, if_neg (by simp), show ((i + m : Nat) : Int).toNat = i + m from rfl]
    refine xN k z hz (fun q => h ?_) t r _ n (i + m) hd (by omega)
    rw [hx]; exact .cons x z hc q
   have jy : b8 (b :: s) = cq b ++ b8 s := rfl
   rw [jy, List.append_assoc] at e
   by_cases h1 : b.toNat = 34 ∨ b.toNat = 92
   . have hq : cq b = [92, b] := by unfold cq; rw [if_pos h1]
     rw [hq] at e
     refine step [b] s 2 rfl hk (wD (by omega)) (by omega) ?_ ?_ (zE h1 e)
     . rw [← List.drop_drop, e]; rfl
     . rw [show t.getD i 0 = 92 from dD e 0]; decide
   by_cases h2 : b.toNat < 32
   . have hq : cq b = [92, 117, 48, 48, dX (b.toNat / 16), dX (b.toNat % 16)] := by unfold cq; rw [if_neg h1, if_pos h2]; rfl
     rw [hq] at e
     refine step [b] s 6 rfl hk (wD (by omega)) (by omega) ?_ ?_ (zD h2 e)
     . rw [← List.drop_drop, e]; rfl
     . rw [show t.getD i 0 = 92 from dD e 0]; decide
   . have hq : cq b = [b] := uf (by omega) (by omega) (by omega)
     rw [hq] at e
     have g0 : t.getD i 0 = b := dD e 0
     have hi : i < t.length := by
      have := congrArg List.length e
      rw [List.length_drop] at this
      simp at this; omega
     by_cases h0 : (aW t i).2 = 0
     . have hp : c6 t i = ([], 0, 5) := by unfold c6; rw [g0, if_neg (by omega), if_neg h2, if_pos h0]
       rw [cA, if_neg (by omega), if_neg (by rw [g0]; omega), hp, if_pos (by simp)]
     . obtain ⟨c1, c2⟩ := BF hi h0
       generalize hm : (aW t i).2 = m at *
       obtain ⟨m, rfl⟩ : ∃ j, m = j + 1 := ⟨m - 1, by omega⟩
       have et : (t.drop i).take (m + 1) = b :: (b8 s ++ 34 :: r).take m := by rw [e]; rfl
       rw [et] at c1 c2
       obtain ⟨z, hz⟩ := wN ((b8 s ++ 34 :: r).take m) s ((b8 s ++ 34 :: r).drop m) r (fun c hc => by
        obtain ⟨j, hj, rfl⟩ := List.getElem_of_mem hc
        have := (qe c1).2 (j + 1) (by omega) (by rw [List.length_cons]; omega)
        rw [List.getD_eq_getElem?_getD, List.getElem?_cons_succ, List.getElem?_eq_getElem hj, Option.getD_some] at this
        have := (ff _).1 this
        omega) (List.take_append_drop _ _).symm
       generalize hx : (b8 s ++ 34 :: r).take m = x at *
       have c0 : (b :: x).getD 0 0 = b := rfl
       have hraw := wF c1 (by rw [c0]; omega) (by rw [c0]; omega) (by rw [c0]; omega)
       have e2 : t.drop i = (b :: x) ++ (b8 z ++ 34 :: r) := by
        rw [e, hz, r8]
        have : b8 x = x := by
         have : cq b ++ b8 x = b :: x := hraw
         rw [hq] at this
         exact (List.cons.inj this).2
        rw [this]; simp
       have hp := zF c1 (by rw [c0]; omega) (by rw [c0]; omega) e2
       refine step (b :: x) z (b :: x).length (by rw [hz]; rfl) ?_ c1 (by simp) ?_ (by rw [g0]; omega) hp
       . have := congrArg List.length hz
         rw [List.length_append] at this; omega
       . rw [← List.drop_drop, e2, List.drop_left]
theorem At.bad {c : Cu} {s r : List UInt8} (h : At c (quote s ++ r)) (hs : ¬ gP s) : c.aE = 5 := by
 have hl := h.len
 have htx : c.a8 = c.s := by unfold Cu.a8; rw [h.e, List.take_length]
 have e : c.s.drop c.p = 34 :: (b8 s ++ 34 :: r) := by rw [h.d]; simp [quote]
 have h0 : c.s.getD c.p 0 = 34 := dD e 0
 have hlen : (quote s ++ r).length = (b8 s).length + 2 + r.length := by simp [quote]; omega
 have hn : c.bF.1.c = 5 := by
  unfold Cu.bF
  rw [if_neg (show ¬ c.c ≠ 0 from fun q => q h.live.2.1), htx, nD (.inr (by rw [h0]; decide))]
  show (Cu.iA c).1.c = 5
  have hg : c.get = 34 := h0
  have hgo := xN s.length s (Nat.le_refl _) hs c.s r [] (c.e - c.p) (c.p + 1) (by rw [← List.drop_drop, e]; rfl) (by have := h.e; omega)
  unfold Cu.iA
  rw [if_neg (show ¬ c.p = c.e by omega), hg, if_neg (by decide), if_pos (by decide)]
  show c.gJ.1.c = 5
  unfold Cu.gJ
  rw [if_neg (fun q => q h.live.2.1), if_neg (show ¬ c.p = c.e by omega), hg, if_neg (by decide), h.e, List.take_length, ← h.e, if_neg (by rw [hgo]; decide), hgo, fk _ h.live.2.1]
 have hq := nr h.live.1
 unfold Cu.aE
 rw [hq.2.1, hn]; rfl
end Go.Proofs.Ytllncocibkgjkaa
