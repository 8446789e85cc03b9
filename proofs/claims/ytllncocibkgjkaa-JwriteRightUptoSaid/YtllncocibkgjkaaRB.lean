/-
  A part of the proof.
-/
import Derived.Test.YtllncocibkgjkaaRA
set_option linter.unusedSimpArgs false
set_option linter.unusedVariables false
set_option maxHeartbeats 4000000
namespace Go.Proofs.Ytllncocibkgjkaa
open Go Go.VG
set_option maxRecDepth 100000
inductive TG : Nat → List UInt8 → Prop
 | leaf (d : Nat) (k : UInt8) (t : List UInt8) (h : lg ⟨k, t⟩) (hl : eQ k = true) : TG d (bG ⟨k, t⟩)
 | bad (d : Nat) (s : List UInt8) (h : ¬ gP s) : TG d (quote s)
 | lst (d : Nat) (l : List It) (h : ∀ x ∈ l, TG d x.2) : TG (d + 1) (91 :: (aC bc l 0 ++ [93]))
 | obj (d : Nat) (l : List It) (h : ∀ x ∈ l, TG d x.2) : TG (d + 1) (123 :: (aC aN l 0 ++ [125]))
def l8 (e : Int) : Prop := e = 5 ∨ e = 8
theorem l8.ne {e : Int} (h : l8 e) : e ≠ 0 := by rcases h with rfl | rfl <;> decide
def RdG (d : Nat) (x : List UInt8) : Prop := ∀ (c : Cu) (r : List UInt8), At c (x ++ r) → (r = [] ∨ jQ (r.getD 0 0) = true) → c.aE = 5 ∨ (c.aE = 0 ∧ (c.next.2.k.toNat = 123 ∨ c.next.2.k.toNat = 91 ∨ eQ c.next.2.k = true) ∧
 ∀ key, l8 (gv d c.next.2 key c.next.1).1 ∨ ∃ L, gv d c.next.2 key c.next.1 = (0, L, bq c x.length) ∧ TT d L x ∧ (gu L).key = key)
theorem sG {g : It → List UInt8} : ∀ {l m : List It} (i : Nat), l.map g = m.map g → aC g l i = aC g m i
 | [], [], _, _ => rfl
 | [], _ :: _, _, h => by cases h
 | _ :: _, [], _, h => by cases h
 | x :: l, y :: m, i, h => by
   rw [List.map_cons, List.map_cons] at h
   obtain ⟨h1, h2⟩ := List.cons.inj h
   show _ ++ (g x ++ aC g l (i + 1)) = _ ++ (g y ++ aC g m (i + 1))
   rw [h1, sG (i + 1) h2]
theorem yX {d : Nat} : ∀ (l : List It) (y : It) (i : Nat) (c : Cu) (r : List UInt8) (n : Nat) (acc : List Nd), (∀ x ∈ y :: l, RdG d x.2) → At c (y.2 ++ (aC bc l (i + 1) ++ 93 :: r)) → l.length < n →
   c.aE = 5 ∨ l8 (er (gv d) n c.next.2 c.next.1 acc).1 ∨ ∃ its : List It, er (gv d) n c.next.2 c.next.1 acc = (0, acc ++ aH its, bq c (y.2.length + (aC bc l (i + 1)).length + 1)) ∧ (∀ x ∈ its, TT d x.1 x.2 ∧ bU x = []) ∧ its.map bc = (y :: l).map bc
 | l, y, i, c, r, 0, acc, _, _, h => absurd h (Nat.not_lt_zero _)
 | l, y, i, c, r, n + 1, acc, hR, hat, hn => by
   rcases hR y List.mem_cons_self c _ hat (om bc l i 93 r (by decide)) with e0 | ⟨e0, _, e1⟩
   . exact .inl e0
   rcases e1 [] with e1 | ⟨L, e1, tL, kL⟩
   . right; left
     rw [er, if_pos e1.ne]; exact e1
   have h1 := hat.bq
   rw [er, e1]
   dsimp only
   rw [if_neg (by decide)]
   match l, hR, h1, hn with
   | [], hR, h1, hn =>
     obtain ⟨a1, a2, a3⟩ := At.sign (k := 93) (r := r) h1 (by decide) rfl
     rw [if_neg (fun q => q a1), a2]
     dsimp only
     rw [if_pos (by decide), hP]
     refine .inr (.inr ⟨[(L, y.2)], ?_, fun x hx => by rw [List.mem_singleton.1 hx]; exact ⟨tL, kL⟩, rfl⟩)
     show _ = (0, acc ++ (L ++ []), _)
     rw [List.append_nil]; rfl
   | z :: l, hR, h1, hn =>
     rw [oh] at h1
     have h1 : At (bq c y.2.length) (44 :: (z.2 ++ (aC bc l (i + 1 + 1) ++ 93 :: r))) := by
      have e : (44 :: (bc z ++ aC bc l (i + 1 + 1))) ++ 93 :: r = 44 :: (z.2 ++ (aC bc l (i + 1 + 1) ++ 93 :: r)) := by
       show 44 :: ((z.2 ++ aC bc l (i + 1 + 1)) ++ 93 :: r) = _
       rw [List.append_assoc]
      rw [← e]; exact h1
     obtain ⟨a1, a2, a3⟩ := At.sign (k := 44) h1 (by decide) rfl
     rw [if_neg (fun q => q a1), a2]
     dsimp only
     rw [if_neg (by decide), if_neg (by decide)]
     right
     rcases yX l z (i + 1) _ r n (acc ++ L) (fun x hx => hR x (List.mem_cons_of_mem _ hx)) a3 (by simp at hn; omega) with b | b | ⟨its, b1, b2, b3⟩
     . left; rw [if_pos (by rw [b]; decide)]; exact .inl b
     . rcases hR z (by simp) _ _ a3 (om bc l (i + 1) 93 r (by decide)) with b0 | ⟨b0, _⟩
       . left; rw [if_pos (by rw [b0]; decide)]; exact .inl b0
       . left; rw [if_neg (fun q => q b0)]; exact b
     . rcases hR z (by simp) _ _ a3 (om bc l (i + 1) 93 r (by decide)) with b0 | ⟨b0, _⟩
       . left; rw [if_pos (by rw [b0]; decide)]; exact .inl b0
       right
       rw [if_neg (fun q => q b0), b1]
       refine ⟨(L, y.2) :: its, ?_, fun x hx => ?_, by rw [List.map_cons, b3]; rfl⟩
       . rw [hP, hP, oh, List.append_assoc]
         refine Prod.ext rfl (Prod.ext rfl ?_)
         show bq c _ = bq c _
         congr 1
         simp only [List.length_cons, List.length_append, bc]; omega
       . rcases List.mem_cons.1 hx with rfl | hx
         . exact ⟨tL, kL⟩
         . exact b2 x hx
theorem Eo {d : Nat} {l : List It} {c : Cu} {r : List UInt8} (hR : ∀ x ∈ l, RdG d x.2) (hat : At c (aC bc l 0 ++ 93 :: r)) :
   l8 (aV (gv d) c).1 ∨ ∃ its : List It, aV (gv d) c = (0, aH its, bq c ((aC bc l 0).length + 1)) ∧ (∀ x ∈ its, TT d x.1 x.2 ∧ bU x = []) ∧ its.map bc = l.map bc := by
 unfold aV
 match l, hR, hat with
 | [], hR, hat =>
   obtain ⟨a1, a2, a3⟩ := At.sign (k := 93) (r := r) hat (by decide) rfl
   rw [if_neg (fun q => q a1), a2]
   dsimp only
   rw [if_pos (by decide)]
   exact .inr ⟨[], rfl, (fun x hx => by cases hx), rfl⟩
 | y :: l, hR, hat =>
   have hat : At c (y.2 ++ (aC bc l 1 ++ 93 :: r)) := by
    have e : aC bc (y :: l) 0 ++ 93 :: r = y.2 ++ (aC bc l 1 ++ 93 :: r) := by
     show ([] ++ (y.2 ++ aC bc l 1)) ++ 93 :: r = _
     rw [List.nil_append, List.append_assoc]
    rw [← e]; exact hat
   rcases hR y List.mem_cons_self c _ hat (om bc l 0 93 r (by decide)) with e0 | ⟨e0, ek, e1⟩
   . left; rw [if_pos (by rw [e0]; decide)]; exact .inl e0
   have hne : ¬ c.next.2.k.toNat = 93 := by
    rcases ek with q | q | q
    . omega
    . omega
    . have := yM q; omega
   obtain ⟨t1, t2, t3, t4, _⟩ := bH hat.live e0
   rw [if_neg (fun q => q e0), if_neg hne]
   rcases e1 [] with b | ⟨L, e1, tL, kL⟩
   . left
     rw [er, if_pos b.ne]; exact b
   have hv : (gv d c.next.2 [] c.next.1).1 = 0 := by rw [e1]
   have f := fM d c.next.2 [] c.next.1 t1 hv
   have fp := f.p
   rw [e1] at fp
   have fp : c.next.1.p ≤ c.p + y.2.length := fp
   have hl := hat.len
   have hg : l.length ≤ (aC bc l 1).length := sE bc l 0
   simp only [List.length_append, List.length_cons] at hl
   rcases yX l y 0 c r (c.next.1.e - c.next.1.p + 1) [] hR hat (by rw [t3]; omega) with b | b | ⟨its, b1, b2, b3⟩
   . rw [e0] at b; exact absurd b (by decide)
   . exact .inl b
   . refine .inr ⟨its, ?_, b2, b3⟩
     rw [b1]
     refine Prod.ext rfl (Prod.ext rfl ?_)
     show bq c _ = bq c _
     congr 1
     show _ = ([] ++ (y.2 ++ aC bc l 1)).length + 1
     simp only [List.length_append, List.nil_append]
theorem tU {d : Nat} : ∀ (l : List It) (y : It) (i : Nat) (c : Cu) (r : List UInt8) (n : Nat) (ks : List (List UInt8)) (acc : List Nd), (∀ x ∈ y :: l, RdG d x.2) → At c (aN y ++ (aC aN l (i + 1) ++ 125 :: r)) → l.length < n →
   c.aE = 5 ∨ (c.aE = 0 ∧ c.next.2.k.toNat = 115 ∧ c.next.1.p ≤ c.p + (aN y).length ∧ (l8 (eP (gv d) n c.next.2 c.next.1 ks acc).1 ∨ (∃ its : List It, eP (gv d) n c.next.2 c.next.1 ks acc = (0, acc ++ aH its, bq c ((aN y).length + (aC aN l (i + 1)).length + 1)) ∧
    (∀ x ∈ its, TT d x.1 x.2 ∧ gP (bU x) ∧ bU x ∉ ks) ∧ (its.map bU).Nodup ∧ its.map aN = (y :: l).map aN)))
 | l, y, i, c, r, 0, ks, acc, _, _, h => absurd h (Nat.not_lt_zero _)
 | l, y, i, c, r, n + 1, ks, acc, hR, hat, hn => by
   have k0 : At c (quote (bU y) ++ (58 :: (y.2 ++ (aC aN l (i + 1) ++ 125 :: r)))) := by
    have e : aN y ++ (aC aN l (i + 1) ++ 125 :: r) = quote (bU y) ++ (58 :: (y.2 ++ (aC aN l (i + 1) ++ 125 :: r))) := by
     show (quote (bU y) ++ ([58] ++ y.2)) ++ _ = quote (bU y) ++ _
     simp only [List.append_assoc, List.cons_append, List.nil_append]
    rw [← e]; exact hat
   have hml : (aN y).length = (bG ⟨115, bU y⟩).length + 1 + y.2.length := by
    show (quote (bU y) ++ ([58] ++ y.2)).length = (quote (bU y)).length + 1 + y.2.length
    simp only [List.length_append, List.length_singleton]; omega
   by_cases hty : ¬ gP (bU y)
   . exact .inl (k0.bad hty)
   have hty := Classical.not_not.1 hty
   have k0 : At c (bG ⟨115, bU y⟩ ++ (58 :: (y.2 ++ (aC aN l (i + 1) ++ 125 :: r)))) := k0
   obtain ⟨t0, t1⟩ := k0.tok (.inl ⟨rfl, hty⟩) (fun q => absurd (show (115 : UInt8) = 110 from q) (by decide))
   have k1 := k0.bq
   obtain ⟨c0, c1, k2⟩ := At.sign (k := 58) k1 (by decide) rfl
   have hp : c.next.1.p ≤ c.p + (aN y).length := by rw [t1]; show c.p + (bG ⟨115, bU y⟩).length ≤ _; rw [hml]; omega
   refine .inr ⟨t0, by rw [t1]; rfl, hp, ?_⟩
   rw [eP]
   by_cases hks : bU y ∈ ks
   . have hme : cm c.next.2 c.next.1 ks = 8 := by
       rw [t1]
       unfold cm
       rw [if_neg (show ¬ (115 : UInt8).toNat ≠ 115 by decide), if_pos hks]
     left; rw [hme, if_pos (by decide)]; exact .inr rfl
   rcases hR y List.mem_cons_self _ _ k2 (om aN l i 125 r (by decide)) with e0 | ⟨e0, _, e1⟩
   . have hme : cm c.next.2 c.next.1 ks = 5 := by
       rw [t1]
       unfold cm
       rw [if_neg (show ¬ (115 : UInt8).toNat ≠ 115 by decide), if_neg hks, if_neg (fun q => q c0), c1]
       dsimp only
       rw [if_neg (by decide)]
       exact e0
     left; rw [hme, if_pos (by decide)]; exact .inl rfl
   have k3 := k2.bq
   have hme : cm c.next.2 c.next.1 ks = 0 := by
    rw [t1]
    unfold cm
    rw [if_neg (show ¬ (115 : UInt8).toNat ≠ 115 by decide), if_neg hks, if_neg (fun q => q c0), c1]
    dsimp only
    rw [if_neg (by decide)]
    exact e0
   rw [hme, if_neg (by decide)]
   have hmv : bQ (gv d) c.next.2 c.next.1 = gv d (bq (bq c (bG ⟨115, bU y⟩).length) 1).next.2 (bU y) (bq (bq c (bG ⟨115, bU y⟩).length) 1).next.1 := by
    rw [t1]
    unfold bQ
    dsimp only
    rw [c1]
   rcases e1 (bU y) with e1 | ⟨L, e1, tL, kL⟩
   . left; rw [hmv, if_pos e1.ne]; exact e1
   have hmv : bQ (gv d) c.next.2 c.next.1 = (0, L, bq c (aN y).length) := by
    rw [hmv, e1, hP, hP, hml, Nat.add_assoc]
   rw [hP, hP, ← Nat.add_assoc, ← hml] at k3
   have hyk : aN (L, y.2) = aN y := by
    show quote (gu L).key ++ ([58] ++ y.2) = quote (bU y) ++ ([58] ++ y.2)
    rw [kL]
   rw [hmv]
   dsimp only
   rw [if_neg (by decide)]
   match l, hR, k3, hn with
   | [], hR, k3, hn =>
     obtain ⟨a1, a2, a3⟩ := At.sign (k := 125) (r := r) k3 (by decide) rfl
     rw [if_neg (fun q => q a1), a2]
     dsimp only
     rw [if_pos (by decide), hP]
     refine .inr ⟨[(L, y.2)], ?_, fun x hx => ?_, by simp, by rw [List.map_cons, hyk]; rfl⟩
     . show _ = (0, acc ++ (L ++ []), _)
       rw [List.append_nil]; rfl
     . rw [List.mem_singleton.1 hx]
       have : bU (L, y.2) = bU y := kL
       rw [this]; exact ⟨tL, hty, hks⟩
   | z :: l, hR, k3, hn =>
     rw [oh] at k3
     have k3 : At (bq c (aN y).length) (44 :: (aN z ++ (aC aN l (i + 1 + 1) ++ 125 :: r))) := by
      have e : (44 :: (aN z ++ aC aN l (i + 1 + 1))) ++ 125 :: r = 44 :: (aN z ++ (aC aN l (i + 1 + 1) ++ 125 :: r)) := by
       show 44 :: ((aN z ++ aC aN l (i + 1 + 1)) ++ 125 :: r) = _
       rw [List.append_assoc]
      rw [← e]; exact k3
     obtain ⟨a1, a2, a3⟩ := At.sign (k := 44) k3 (by decide) rfl
     have ht2 : c.next.2.t = bU y := by rw [t1]
     rw [if_neg (fun q => q a1), a2]
     dsimp only
     rw [if_neg (by decide), if_neg (by decide), ht2]
     rcases tU l z (i + 1) _ r n (ks ++ [bU y]) (acc ++ L) (fun x hx => hR x (List.mem_cons_of_mem _ hx)) a3 (by simp at hn; omega) with b0 | ⟨b0, _, _, b1⟩
     . left; rw [if_pos (by rw [b0]; decide)]; exact .inl b0
     rw [if_neg (fun q => q b0)]
     rcases b1 with b1 | ⟨its, b1, b2, b3, b4⟩
     . exact .inl b1
     have hkk : bU (L, y.2) = bU y := kL
     refine .inr ⟨(L, y.2) :: its, ?_, fun x hx => ?_, ?_, by rw [List.map_cons, b4, hyk]; rfl⟩
     . rw [b1, hP, hP, oh, List.append_assoc]
       refine Prod.ext rfl (Prod.ext rfl ?_)
       show bq c _ = bq c _
       congr 1
       simp only [List.length_cons, List.length_append]; omega
     . rcases List.mem_cons.1 hx with rfl | hx
       . rw [hkk]; exact ⟨tL, hty, hks⟩
       . obtain ⟨q1, q2, q3⟩ := b2 x hx
         exact ⟨q1, q2, fun q => q3 (List.mem_append.2 (.inl q))⟩
     . rw [List.map_cons, List.nodup_cons, hkk]
       refine ⟨fun q => ?_, b3⟩
       obtain ⟨x, hx, e⟩ := List.mem_map.1 q
       exact (b2 x hx).2.2 (List.mem_append.2 (.inr (by rw [e]; exact List.mem_singleton.2 rfl)))
theorem Et {d : Nat} {l : List It} {c : Cu} {r : List UInt8} (hR : ∀ x ∈ l, RdG d x.2) (hat : At c (aC aN l 0 ++ 125 :: r)) :
   l8 (aU (gv d) c).1 ∨ ∃ its : List It, aU (gv d) c = (0, aH its, bq c ((aC aN l 0).length + 1)) ∧ (∀ x ∈ its, TT d x.1 x.2 ∧ gP (bU x)) ∧ (its.map bU).Nodup ∧ its.map aN = l.map aN := by
 unfold aU
 match l, hR, hat with
 | [], hR, hat =>
   obtain ⟨a1, a2, a3⟩ := At.sign (k := 125) (r := r) hat (by decide) rfl
   rw [if_neg (fun q => q a1), a2]
   dsimp only
   rw [if_pos (by decide)]
   exact .inr ⟨[], rfl, (fun x hx => by cases hx), List.nodup_nil, rfl⟩
 | y :: l, hR, hat =>
   have hat : At c (aN y ++ (aC aN l 1 ++ 125 :: r)) := by
    have e : aC aN (y :: l) 0 ++ 125 :: r = aN y ++ (aC aN l 1 ++ 125 :: r) := by
     show ([] ++ (aN y ++ aC aN l 1)) ++ 125 :: r = _
     rw [List.nil_append, List.append_assoc]
    rw [← e]; exact hat
   rcases tU l y 0 c r (l.length + 1) [] [] hR hat (Nat.lt_succ_self _) with b0 | ⟨b0, b1, b2, _⟩
   . left; rw [if_pos (by rw [b0]; decide)]; exact .inl b0
   obtain ⟨t1, t2, t3, t4, _⟩ := bH hat.live b0
   have hl := hat.len
   have hg : l.length ≤ (aC aN l 1).length := sE aN l 0
   simp only [List.length_append, List.length_cons] at hl
   rw [if_neg (fun q => q b0), if_neg (by omega)]
   rcases tU l y 0 c r (c.next.1.e - c.next.1.p + 1) [] [] hR hat (by rw [t3]; omega) with c0 | ⟨_, _, _, c0 | ⟨its, c1, c2, c3, c4⟩⟩
   . rw [b0] at c0; exact absurd c0 (by decide)
   . exact .inl c0
   refine .inr ⟨its, ?_, fun x hx => ⟨(c2 x hx).1, (c2 x hx).2.1⟩, c3, c4⟩
   rw [c1]
   refine Prod.ext rfl (Prod.ext rfl ?_)
   show bq c _ = bq c _
   congr 1
   show _ = ([] ++ (aN y ++ aC aN l 1)).length + 1
   simp only [List.length_append, List.nil_append]
theorem TG.read {d : Nat} {x : List UInt8} (h : TG d x) : RdG d x := by
 induction h with
 | leaf d k t h hl =>
   intro c r hat hr
   obtain ⟨a1, a2⟩ := At.tok (t := ⟨k, t⟩) hat h (fun _ => hr)
   have hk := yM hl
   refine .inr ⟨a1, by rw [a2]; exact .inr (.inr hl), fun key => .inr ⟨[⟨k, key, t, 1⟩], ?_, .leaf d k key t h hl, rfl⟩⟩
   rw [a2]
   cases d with
   | zero => rw [gv]; dsimp only; rw [if_neg (by omega), if_pos hl]
   | succ d => rw [gv]; dsimp only; rw [if_neg (by omega), if_neg (by omega), if_pos hl]
 | bad d s h =>
   intro c r hat hr
   exact .inl (hat.bad h)
 | lst d l h ih =>
   intro c r hat hr
   have hat : At c (91 :: (aC bc l 0 ++ 93 :: r)) := by
    have e : (91 :: (aC bc l 0 ++ [93])) ++ r = 91 :: (aC bc l 0 ++ 93 :: r) := by
     show 91 :: ((aC bc l 0 ++ [93]) ++ r) = _
     rw [List.append_assoc]; rfl
    rw [← e]; exact hat
   obtain ⟨a1, a2, a3⟩ := At.sign hat (by decide) rfl
   refine .inr ⟨a1, by rw [a2]; exact .inr (.inl rfl), fun key => ?_⟩
   rw [a2, gv]
   dsimp only
   rw [if_neg (by decide), if_pos (by decide)]
   rcases Eo (d := d) ih a3 with g | ⟨its, g, g1, g2⟩
   . exact .inl g
   right
   refine ⟨⟨91, key, [], (aH its).length + 1⟩ :: aH its, ?_, ?_, rfl⟩
   . rw [g, hP]
     refine Prod.ext rfl (Prod.ext rfl ?_)
     show bq c _ = bq c _
     congr 1
     simp only [List.length_cons, List.length_append, List.length_nil]; omega
   . rw [← sG 0 g2]
     exact .lst d key its (fun x hx => (g1 x hx).1) fun x hx => (g1 x hx).2
 | obj d l h ih =>
   intro c r hat hr
   have hat : At c (123 :: (aC aN l 0 ++ 125 :: r)) := by
    have e : (123 :: (aC aN l 0 ++ [125])) ++ r = 123 :: (aC aN l 0 ++ 125 :: r) := by
     show 123 :: ((aC aN l 0 ++ [125]) ++ r) = _
     rw [List.append_assoc]; rfl
    rw [← e]; exact hat
   obtain ⟨a1, a2, a3⟩ := At.sign hat (by decide) rfl
   refine .inr ⟨a1, by rw [a2]; exact .inl rfl, fun key => ?_⟩
   rw [a2, gv]
   dsimp only
   rw [if_pos (by decide)]
   rcases Et (d := d) ih a3 with g | ⟨its, g, g1, g2, g3⟩
   . exact .inl g
   right
   refine ⟨⟨123, key, [], (aH its).length + 1⟩ :: aH its, ?_, ?_, rfl⟩
   . rw [g, hP]
     refine Prod.ext rfl (Prod.ext rfl ?_)
     show bq c _ = bq c _
     congr 1
     simp only [List.length_cons, List.length_append, List.length_nil]; omega
   . rw [← sG 0 g3]
     exact .obj d key its (fun x hx => (g1 x hx).1) g2 fun x hx => (g1 x hx).2
theorem Ip {x : List UInt8} (h : TG 32 x) (hl : x.length ≤ 10000000) : cK x = 5 ∨ cK x = 8 ∨ (cK x = 0 ∧ TT 32 (fW x) x ∧ (gu (fW x)).key = []) := by
 have hat : At (.new x) (x ++ []) := by rw [List.append_nil]; exact At.new hl
 rcases h.read _ _ hat (.inl rfl) with e | ⟨e0, _, e1⟩
 . left; unfold cK; rw [if_pos (by rw [e]; decide)]; exact e
 have hf := At.fin hat.bq
 rcases e1 [] with e1 | ⟨L, e1, tL, kL⟩
 . have e : cK x = (gv 32 (Cu.new x).next.2 [] (Cu.new x).next.1).1 := by unfold cK; rw [if_neg (fun q => q e0), if_pos e1.ne]
   rw [e]
   rcases e1 with e1 | e1
   . exact .inl e1
   . exact .inr (.inl e1)
 . have e : cK x = 0 := by
     unfold cK
     rw [e1]
     dsimp only
     rw [if_neg (fun q => q e0), if_neg (by decide), if_neg (fun q => q.elim (fun q => q hf.1) (fun q => q hf.2))]
   refine .inr (.inr ⟨e, ?_⟩)
   unfold fW
   rw [if_pos e, e1]; exact ⟨tL, kL⟩
end Go.Proofs.Ytllncocibkgjkaa
