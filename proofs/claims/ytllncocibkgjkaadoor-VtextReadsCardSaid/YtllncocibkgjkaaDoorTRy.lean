/-
  A part of the proof.
-/
import Derived.Test.YtllncocibkgjkaaDoorTRk
set_option linter.unusedSimpArgs false
set_option linter.unusedVariables false
set_option maxHeartbeats 4000000
namespace Go.Proofs.YtllncocibkgjkaaDoor
open Go Go.VG
set_option maxRecDepth 100000
def cC (c : Cu) (n : Nat) : Cu := { c with p := c.p + n }
theorem j7 (c : Cu) (n m : Nat) : cC (cC c n) m = cC c (n + m) := by unfold cC; simp only [Nat.add_assoc]
structure At (c : Cu) (x : List UInt8) : Prop where
 live : c.live
 e : c.e = c.s.length
 d : c.s.drop c.p = x
theorem At.len {c : Cu} {x : List UInt8} (h : At c x) : c.p + x.length = c.e := by
 have h1 := congrArg List.length h.d
 rw [List.length_drop] at h1
 have h2 := h.e
 have h3 := h.live.1.1
 omega
theorem At.cC {c : Cu} {x r : List UInt8} (h : At c (x ++ r)) : At (cC c x.length) r := by
 have hl := h.len
 rw [List.length_append] at hl
 refine ⟨⟨⟨by show c.p + x.length ≤ c.e; omega, h.live.1.2⟩, h.live.2⟩, h.e, ?_⟩
 show c.s.drop (c.p + x.length) = r
 rw [← List.drop_drop, h.d, List.drop_left]
theorem tkR_k {t : Tk} (h : mm t) : t.k ≠ 0 := by
 intro e
 rcases h with ⟨q, _⟩ | ⟨q, _⟩ | ⟨q, _⟩ | ⟨q, _⟩
 . rw [q] at e; exact absurd e (by decide)
 . rw [q] at e; exact absurd e (by decide)
 . rw [e] at q; exact absurd q (by decide)
 . rcases q with q | q | q <;> (rw [q] at e; exact absurd e (by decide))
theorem At.tok {c : Cu} {t : Tk} {r : List UInt8} (h : At c (cE t ++ r)) (ht : mm t) (hs : t.k = 110 → r = [] ∨ kZ (r.getD 0 0) = true) : c.bk = 0 ∧ c.next = (Go.Proofs.YtllncocibkgjkaaDoor.cC c (cE t).length, t) := by
 obtain ⟨f1, f2⟩ := C8 ht
 have htx : c.a9 = c.s := by unfold Cu.a9; rw [h.e, List.take_length]
 have h0 : c.s.getD c.p 0 = (cE t).getD 0 0 := by
  have := fY h.d 0
  rw [pP f1] at this; exact this
 have hn : c.eZ = (Go.Proofs.YtllncocibkgjkaaDoor.cC c (cE t).length, t) := by
  unfold Cu.eZ
  rw [if_neg (show ¬ c.c ≠ 0 from fun q => q h.live.2.1), htx, qy (.inr (by rw [h0]; exact f2))]
  exact Ko h.e h.live.2.1 h.d ht hs
 have hq := sv h.live.1
 have hc : c.eZ.1.c = 0 := by rw [hn]; exact h.live.2.1
 have e : c.next = c.eZ := Prod.ext (hq.2.2 hc) hq.1
 refine ⟨?_, by rw [e, hn]⟩
 unfold Cu.bk
 rw [e, if_neg (fun q => q hc), if_neg (by rw [hn]; exact tkR_k ht)]
theorem At.sign {c : Cu} {k : UInt8} {r : List UInt8} (h : At c (k :: r)) (hk : fh k = true) (he : cE ⟨k, []⟩ = [k]) : c.bk = 0 ∧ c.next = (Go.Proofs.YtllncocibkgjkaaDoor.cC c 1, ⟨k, []⟩) ∧ At (Go.Proofs.YtllncocibkgjkaaDoor.cC c 1) r := by
 have h' : At c (cE ⟨k, []⟩ ++ r) := by rw [he]; exact h
 have ht : mm ⟨k, []⟩ := .inr (.inr (.inl ⟨hk, rfl⟩))
 have := h'.tok ht (fun q => by
  have q : k = 110 := q
  rw [q] at hk; exact absurd hk (by decide))
 rw [he] at this
 exact ⟨this.1, this.2, At.cC (x := [k]) h⟩
theorem G2 {d : Nat} {t : Tk} {key : List UInt8} {c : Cu} (h : (gv d t key c).1 = 0) : t.k.toNat = 123 ∨ t.k.toNat = 91 ∨ fN t.k = true := by
 cases d with
 | zero =>
   rw [gv] at h
   by_cases h1 : t.k.toNat = 123 ∨ t.k.toNat = 91
   . rw [if_pos h1] at h; cases h
   rw [if_neg h1] at h
   by_cases h2 : fN t.k = true
   . exact .inr (.inr h2)
   . rw [if_neg h2] at h; cases h
 | succ d =>
   rw [gv] at h
   by_cases h1 : t.k.toNat = 123
   . exact .inl h1
   rw [if_neg h1] at h
   by_cases h2 : t.k.toNat = 91
   . exact .inr (.inl h2)
   rw [if_neg h2] at h
   by_cases h3 : fN t.k = true
   . exact .inr (.inr h3)
   . rw [if_neg h3] at h; cases h
theorem Ab {k : UInt8} (h : fN k = true) : k.toNat = 115 ∨ k.toNat = 110 ∨ k.toNat = 116 ∨ k.toNat = 102 ∨ k.toNat = 122 := of_decide_eq_true h
def RdI (d : Nat) (x : It) : Prop := ∀ (c : Cu) (r : List UInt8), At c (x.2 ++ r) → (r = [] ∨ kZ (r.getD 0 0) = true) → c.bk = 0 ∧ gv d c.next.2 (dk x) c.next.1 = (0, x.1, cC c x.2.length)
theorem tW (g : It → List UInt8) : ∀ (l : List It) (i : Nat), l.length ≤ (bG g l (i + 1)).length
 | [], _ => Nat.zero_le _
 | x :: l, i => by
   have := tW g l (i + 1)
   show l.length + 1 ≤ ((if i + 1 = 0 then ([] : List UInt8) else [44]) ++ (g x ++ bG g l (i + 1 + 1))).length
   rw [if_neg (by omega), List.length_append, List.length_append, List.length_singleton]; omega
theorem pw (g : It → List UInt8) (x : It) (l : List It) (i : Nat) : bG g (x :: l) (i + 1) = 44 :: (g x ++ bG g l (i + 1 + 1)) := by
 show (if i + 1 = 0 then ([] : List UInt8) else [44]) ++ (g x ++ bG g l (i + 1 + 1)) = _
 rw [if_neg (by omega)]; rfl
theorem rv (g : It → List UInt8) (l : List It) (i : Nat) (k : UInt8) (r : List UInt8) (hk : kZ k = true) : bG g l (i + 1) ++ k :: r = [] ∨ kZ ((bG g l (i + 1) ++ k :: r).getD 0 0) = true := by
 right
 cases l with
 | nil => exact hk
 | cons x l => rw [pw]; show kZ 44 = true; decide
theorem Av {d : Nat} : ∀ (l : List It) (y : It) (i : Nat) (c : Cu) (r : List UInt8) (n : Nat) (acc : List Nd), (∀ x ∈ y :: l, RdI d x) → (∀ x ∈ y :: l, dk x = []) → At c (y.2 ++ (bG cP l (i + 1) ++ 93 :: r)) → l.length < n →
   gw (gv d) n c.next.2 c.next.1 acc = (0, acc ++ aZ (y :: l), cC c (y.2.length + (bG cP l (i + 1)).length + 1))
 | l, y, i, c, r, 0, acc, _, _, _, h => absurd h (Nat.not_lt_zero _)
 | l, y, i, c, r, n + 1, acc, hR, hk, hat, hn => by
   obtain ⟨e0, e1⟩ := hR y List.mem_cons_self c _ hat (rv cP l i 93 r (by decide))
   rw [hk y List.mem_cons_self] at e1
   have h1 := hat.cC
   rw [gw, e1]
   dsimp only
   rw [if_neg (by decide)]
   match l, hR, hk, h1, hn with
   | [], hR, hk, h1, hn =>
     obtain ⟨a1, a2, a3⟩ := At.sign (k := 93) (r := r) h1 (by decide) rfl
     rw [if_neg (fun q => q a1), a2]
     dsimp only
     rw [if_pos (by decide), j7]
     show _ = (0, acc ++ (y.1 ++ []), _)
     rw [List.append_nil]; rfl
   | z :: l, hR, hk, h1, hn =>
     rw [pw] at h1
     have h1 : At (cC c y.2.length) (44 :: (z.2 ++ (bG cP l (i + 1 + 1) ++ 93 :: r))) := by
      have e : (44 :: (cP z ++ bG cP l (i + 1 + 1))) ++ 93 :: r = 44 :: (z.2 ++ (bG cP l (i + 1 + 1) ++ 93 :: r)) := by
       show 44 :: ((z.2 ++ bG cP l (i + 1 + 1)) ++ 93 :: r) = _
       rw [List.append_assoc]
      rw [← e]; exact h1
     obtain ⟨a1, a2, a3⟩ := At.sign (k := 44) h1 (by decide) rfl
     obtain ⟨b0, _⟩ := hR z (by simp) _ _ a3 (rv cP l (i + 1) 93 r (by decide))
     rw [if_neg (fun q => q a1), a2]
     dsimp only
     rw [if_neg (by decide), if_neg (by decide), if_neg (fun q => q b0)]
     rw [Av l z (i + 1) _ r n _ (fun x hx => hR x (List.mem_cons_of_mem _ hx)) (fun x hx => hk x (List.mem_cons_of_mem _ hx)) a3 (by simp at hn; omega)]
     rw [j7, j7, pw, List.append_assoc]
     refine Prod.ext rfl (Prod.ext rfl ?_)
     show cC c _ = cC c _
     congr 1
     simp only [List.length_cons, List.length_append, cP]; omega
theorem FY {d : Nat} {l : List It} {c : Cu} {r : List UInt8} (hR : ∀ x ∈ l, RdI d x) (hk : ∀ x ∈ l, dk x = []) (hat : At c (bG cP l 0 ++ 93 :: r)) : bV (gv d) c = (0, aZ l, cC c ((bG cP l 0).length + 1)) := by
 unfold bV
 match l, hR, hk, hat with
 | [], hR, hk, hat =>
   obtain ⟨a1, a2, a3⟩ := At.sign (k := 93) (r := r) hat (by decide) rfl
   rw [if_neg (fun q => q a1), a2]
   dsimp only
   rw [if_pos (by decide)]; rfl
 | y :: l, hR, hk, hat =>
   have hat : At c (y.2 ++ (bG cP l 1 ++ 93 :: r)) := by
    have e : bG cP (y :: l) 0 ++ 93 :: r = y.2 ++ (bG cP l 1 ++ 93 :: r) := by
     show ([] ++ (y.2 ++ bG cP l 1)) ++ 93 :: r = _
     rw [List.nil_append, List.append_assoc]
    rw [← e]; exact hat
   obtain ⟨e0, e1⟩ := hR y List.mem_cons_self c _ hat (rv cP l 0 93 r (by decide))
   have hv : (gv d c.next.2 (dk y) c.next.1).1 = 0 := by rw [e1]
   have hkd := G2 hv
   have hne : ¬ c.next.2.k.toNat = 93 := by
    rcases hkd with q | q | q
    . omega
    . omega
    . have := Ab q; omega
   obtain ⟨t1, t2, t3, t4, _⟩ := cF hat.live e0
   have f := iz d c.next.2 (dk y) c.next.1 t1 hv
   have fp := f.p
   rw [e1] at fp
   have fp : c.next.1.p ≤ c.p + y.2.length := fp
   have hl := hat.len
   have hg : l.length ≤ (bG cP l 1).length := tW cP l 0
   simp only [List.length_append, List.length_cons] at hl
   rw [if_neg (fun q => q e0), if_neg hne, Av l y 0 c r _ [] hR hk hat (by rw [t3]; omega)]
   refine Prod.ext rfl (Prod.ext rfl ?_)
   show cC c _ = cC c _
   congr 1
   show _ = ([] ++ (y.2 ++ bG cP l 1)).length + 1
   simp only [List.length_append, List.nil_append]
theorem vi {d : Nat} : ∀ (l : List It) (y : It) (i : Nat) (c : Cu) (r : List UInt8) (n : Nat) (ks : List (List UInt8)) (acc : List Nd), (∀ x ∈ y :: l, RdI d x) → (∀ x ∈ y :: l, dN (dk x)) → ((y :: l).map dk).Nodup → (∀ x ∈ y :: l, dk x ∉ ks) →
   At c (bR y ++ (bG bR l (i + 1) ++ 125 :: r)) → l.length < n → c.bk = 0 ∧ c.next.2.k.toNat = 115 ∧ c.next.1.p ≤ c.p + (bR y).length ∧
   gy (gv d) n c.next.2 c.next.1 ks acc = (0, acc ++ aZ (y :: l), cC c ((bR y).length + (bG bR l (i + 1)).length + 1))
 | l, y, i, c, r, 0, ks, acc, _, _, _, _, _, h => absurd h (Nat.not_lt_zero _)
 | l, y, i, c, r, n + 1, ks, acc, hR, hT, hN, hks, hat, hn => by
   have hty := hT y List.mem_cons_self
   have k0 : At c (cE ⟨115, dk y⟩ ++ (58 :: (y.2 ++ (bG bR l (i + 1) ++ 125 :: r)))) := by
    have e : bR y ++ (bG bR l (i + 1) ++ 125 :: r) = cE ⟨115, dk y⟩ ++ (58 :: (y.2 ++ (bG bR l (i + 1) ++ 125 :: r))) := by
     show (quote (dk y) ++ ([58] ++ y.2)) ++ _ = quote (dk y) ++ _
     simp only [List.append_assoc, List.cons_append, List.nil_append]
    rw [← e]; exact hat
   have hml : (bR y).length = (cE ⟨115, dk y⟩).length + 1 + y.2.length := by
    show (quote (dk y) ++ ([58] ++ y.2)).length = (quote (dk y)).length + 1 + y.2.length
    simp only [List.length_append, List.length_singleton]; omega
   obtain ⟨t0, t1⟩ := k0.tok (.inl ⟨rfl, hty⟩) (fun q => absurd (show (115 : UInt8) = 110 from q) (by decide))
   have k1 := k0.cC
   obtain ⟨c0, c1, k2⟩ := At.sign (k := 58) k1 (by decide) rfl
   obtain ⟨e0, e1⟩ := hR y List.mem_cons_self _ _ k2 (rv bR l i 125 r (by decide))
   have k3 := k2.cC
   refine ⟨t0, by rw [t1]; rfl, by rw [t1]; show c.p + (cE ⟨115, dk y⟩).length ≤ _; rw [hml]; omega, ?_⟩
   have hme : dG c.next.2 c.next.1 ks = 0 := by
    rw [t1]
    unfold dG
    rw [if_neg (show ¬ (115 : UInt8).toNat ≠ 115 by decide), if_neg (hks y List.mem_cons_self), if_neg (fun q => q c0), c1]
    dsimp only
    rw [if_neg (by decide)]
    exact e0
   have hmv : cL (gv d) c.next.2 c.next.1 = (0, y.1, cC c (bR y).length) := by
    rw [t1]
    unfold cL
    dsimp only
    rw [c1]
    dsimp only
    rw [e1, j7, j7, hml, Nat.add_assoc]
   rw [j7, j7, ← Nat.add_assoc, ← hml] at k3
   rw [gy, hme, if_neg (by decide), hmv]
   dsimp only
   rw [if_neg (by decide)]
   match l, hR, hT, hN, hks, k3, hn with
   | [], hR, hT, hN, hks, k3, hn =>
     obtain ⟨a1, a2, a3⟩ := At.sign (k := 125) (r := r) k3 (by decide) rfl
     rw [if_neg (fun q => q a1), a2]
     dsimp only
     rw [if_pos (by decide), j7]
     show _ = (0, acc ++ (y.1 ++ []), _)
     rw [List.append_nil]; rfl
   | z :: l, hR, hT, hN, hks, k3, hn =>
     rw [pw] at k3
     have k3 : At (cC c (bR y).length) (44 :: (bR z ++ (bG bR l (i + 1 + 1) ++ 125 :: r))) := by
      have e : (44 :: (bR z ++ bG bR l (i + 1 + 1))) ++ 125 :: r = 44 :: (bR z ++ (bG bR l (i + 1 + 1) ++ 125 :: r)) := by
       show 44 :: ((bR z ++ bG bR l (i + 1 + 1)) ++ 125 :: r) = _
       rw [List.append_assoc]
      rw [← e]; exact k3
     obtain ⟨a1, a2, a3⟩ := At.sign (k := 44) k3 (by decide) rfl
     have hN' := List.nodup_cons.1 hN
     have ht2 : c.next.2.t = dk y := by rw [t1]
     obtain ⟨b0, b1, b2, b3⟩ := vi l z (i + 1) _ r n (ks ++ [dk y]) (acc ++ y.1) (fun x hx => hR x (List.mem_cons_of_mem _ hx)) (fun x hx => hT x (List.mem_cons_of_mem _ hx)) hN'.2 (fun x hx q => by
      rcases List.mem_append.1 q with q | q
      . exact hks x (List.mem_cons_of_mem _ hx) q
      . rw [List.mem_singleton] at q
        exact hN'.1 (by rw [← q]; exact List.mem_map_of_mem hx)) a3 (by simp at hn; omega)
     rw [if_neg (fun q => q a1), a2]
     dsimp only
     rw [if_neg (by decide), if_neg (by decide), if_neg (fun q => q b0), ht2, b3]
     rw [j7, j7, pw, List.append_assoc]
     refine Prod.ext rfl (Prod.ext rfl ?_)
     show cC c _ = cC c _
     congr 1
     simp only [List.length_cons, List.length_append]; omega
theorem G1 {d : Nat} {l : List It} {c : Cu} {r : List UInt8} (hR : ∀ x ∈ l, RdI d x) (hT : ∀ x ∈ l, dN (dk x)) (hN : (l.map dk).Nodup) (hat : At c (bG bR l 0 ++ 125 :: r)) : bT (gv d) c = (0, aZ l, cC c ((bG bR l 0).length + 1)) := by
 unfold bT
 match l, hR, hT, hN, hat with
 | [], hR, hT, hN, hat =>
   obtain ⟨a1, a2, a3⟩ := At.sign (k := 125) (r := r) hat (by decide) rfl
   rw [if_neg (fun q => q a1), a2]
   dsimp only
   rw [if_pos (by decide)]; rfl
 | y :: l, hR, hT, hN, hat =>
   have hat : At c (bR y ++ (bG bR l 1 ++ 125 :: r)) := by
    have e : bG bR (y :: l) 0 ++ 125 :: r = bR y ++ (bG bR l 1 ++ 125 :: r) := by
     show ([] ++ (bR y ++ bG bR l 1)) ++ 125 :: r = _
     rw [List.nil_append, List.append_assoc]
    rw [← e]; exact hat
   obtain ⟨b0, b1, b2, _⟩ := vi l y 0 c r (l.length + 1) [] [] hR hT hN (fun _ _ => by simp) hat (Nat.lt_succ_self _)
   obtain ⟨t1, t2, t3, t4, _⟩ := cF hat.live b0
   have hl := hat.len
   have hg : l.length ≤ (bG bR l 1).length := tW bR l 0
   simp only [List.length_append, List.length_cons] at hl
   obtain ⟨_, _, _, b3⟩ := vi l y 0 c r (c.next.1.e - c.next.1.p + 1) [] [] hR hT hN (fun _ _ => by simp) hat (by rw [t3]; omega)
   rw [if_neg (fun q => q b0), if_neg (by omega), b3]
   refine Prod.ext rfl (Prod.ext rfl ?_)
   show cC c _ = cC c _
   congr 1
   show _ = ([] ++ (bR y ++ bG bR l 1)).length + 1
   simp only [List.length_append, List.nil_append]
theorem TT.read {d : Nat} {L : List Nd} {x : List UInt8} (h : TT d L x) : RdI d (L, x) := by
 induction h with
 | leaf d k key t h hl =>
   intro c r hat hr
   obtain ⟨a1, a2⟩ := At.tok (t := ⟨k, t⟩) hat h (fun _ => hr)
   have hk := Ab hl
   refine ⟨a1, ?_⟩
   rw [a2]
   cases d with
   | zero => rw [gv]; dsimp only; rw [if_neg (by omega), if_pos hl]; rfl
   | succ d => rw [gv]; dsimp only; rw [if_neg (by omega), if_neg (by omega), if_pos hl]; rfl
 | lst d key l h hk ih =>
   intro c r hat hr
   have hat : At c (91 :: (bG cP l 0 ++ 93 :: r)) := by
    have e : (91 :: (bG cP l 0 ++ [93])) ++ r = 91 :: (bG cP l 0 ++ 93 :: r) := by
     show 91 :: ((bG cP l 0 ++ [93]) ++ r) = _
     rw [List.append_assoc]; rfl
    rw [← e]; exact hat
   obtain ⟨a1, a2, a3⟩ := At.sign hat (by decide) rfl
   have g := FY (d := d) ih hk a3
   refine ⟨a1, ?_⟩
   rw [a2, gv]
   dsimp only
   rw [if_neg (by decide), if_pos (by decide), g, j7]
   refine Prod.ext rfl (Prod.ext rfl ?_)
   show cC c _ = cC c _
   congr 1
   show _ = (91 :: (bG cP l 0 ++ [93])).length
   simp only [List.length_cons, List.length_append, List.length_nil]; omega
 | obj d key l h hN hT ih =>
   intro c r hat hr
   have hat : At c (123 :: (bG bR l 0 ++ 125 :: r)) := by
    have e : (123 :: (bG bR l 0 ++ [125])) ++ r = 123 :: (bG bR l 0 ++ 125 :: r) := by
     show 123 :: ((bG bR l 0 ++ [125]) ++ r) = _
     rw [List.append_assoc]; rfl
    rw [← e]; exact hat
   obtain ⟨a1, a2, a3⟩ := At.sign hat (by decide) rfl
   have g := G1 (d := d) ih hT hN a3
   refine ⟨a1, ?_⟩
   rw [a2, gv]
   dsimp only
   rw [if_pos (by decide), g, j7]
   refine Prod.ext rfl (Prod.ext rfl ?_)
   show cC c _ = cC c _
   congr 1
   show _ = (123 :: (bG bR l 0 ++ [125])).length
   simp only [List.length_cons, List.length_append, List.length_nil]; omega
theorem At.fin {c : Cu} (h : At c []) : c.next.2.k = 0 ∧ c.next.1.c = 0 := by
 have hl := h.len
 have htx : c.a9 = c.s := by unfold Cu.a9; rw [h.e, List.take_length]
 have hn : c.eZ = (c, .no) := by
  unfold Cu.eZ
  rw [if_neg (show ¬ c.c ≠ 0 from fun q => q h.live.2.1), htx, qy (.inl (by have := h.e; simp at hl; omega))]
  show c.kh = _
  unfold Cu.kh
  rw [if_pos (by simpa using hl)]
 have hq := sv h.live.1
 rw [hn] at hq
 exact ⟨by rw [hq.1], by rw [hq.2.1]; exact h.live.2.1⟩
theorem At.new {s : List UInt8} (h : s.length ≤ 10000000) : At (.new s) s := ⟨⟨⟨Nat.zero_le _, Nat.le_refl _⟩, rfl, h⟩, rfl, rfl⟩
theorem Kp {L : List Nd} {x : List UInt8} (h : TT 32 L x) (hk : (iA L).key = []) (hl : x.length ≤ 10000000) : gd x = 0 ∧ j0 x = L := by
 have hat : At (.new x) (x ++ []) := by rw [List.append_nil]; exact At.new hl
 obtain ⟨e0, e1⟩ := h.read _ _ hat (.inl rfl)
 have e1 : gv 32 (Cu.new x).next.2 [] (Cu.new x).next.1 = (0, L, cC (.new x) x.length) := by rw [← hk]; exact e1
 have hf := At.fin hat.cC
 have e : gd x = 0 := by
  unfold gd
  rw [e1]
  dsimp only
  rw [if_neg (fun q => q e0), if_neg (by decide), if_neg (fun q => q.elim (fun q => q hf.1) (fun q => q hf.2))]
 refine ⟨e, ?_⟩
 unfold j0
 rw [if_pos e, e1]
end Go.Proofs.YtllncocibkgjkaaDoor
