/-
  A part of the proof.
-/
import Derived.Test.YtllncocibkgjkaaDoorTRy
import Derived.Test.YtllncocibkgjkaaDoorPCheck
import Derived.Test.YtllncocibkgjkaaDoorTxt
set_option linter.unusedSimpArgs false
set_option linter.unusedVariables false
set_option maxHeartbeats 4000000
namespace Go.Proofs.YtllncocibkgjkaaDoor
open Go Go.VG
set_option maxRecDepth 100000
theorem xO : ∀ a : List UInt8, Op.bytesLess a a = false
 | [] => rfl
 | x :: a => by
   have h := xO a
   have hx : ¬ x < x := UInt8.lt_irrefl x
   simp [Op.bytesLess, h, hx]
theorem xP : ∀ {a b : List UInt8}, Op.bytesLess a b = false → a ≠ b → Op.bytesLess b a = true
 | [], [], _, h => absurd rfl h
 | [], _ :: _, h, _ => by simp [Op.bytesLess] at h
 | _ :: _, [], _, _ => rfl
 | x :: a, y :: b, h, hn => by
   simp only [Op.bytesLess, Bool.or_eq_false_iff, decide_eq_false_iff_not, Bool.and_eq_false_iff] at h
   simp only [Op.bytesLess, Bool.or_eq_true, decide_eq_true_eq, Bool.and_eq_true, beq_iff_eq]
   by_cases e : x = y
   . subst e
     rcases h.2 with q | q
     . simp at q
     . exact .inr ⟨rfl, xP q fun z => hn (by rw [z])⟩
   . left
     have h1 := h.1
     have : x.toNat ≠ y.toNat := fun z => e (UInt8.toNat_inj.1 z)
     rw [UInt8.lt_iff_toNat_lt] at h1 ⊢
     omega
theorem xQ : ∀ {a b c : List UInt8}, Op.bytesLess a b = true → Op.bytesLess b c = true → Op.bytesLess a c = true
 | _, [], _, h, _ => by simp [Op.bytesLess] at h
 | _, _ :: _, [], _, h => by simp [Op.bytesLess] at h
 | [], _ :: _, _ :: _, _, _ => rfl
 | x :: a, y :: b, z :: c, h, k => by
   simp only [Op.bytesLess, Bool.or_eq_true, decide_eq_true_eq, Bool.and_eq_true, beq_iff_eq] at h k ⊢
   rw [UInt8.lt_iff_toNat_lt] at h k ⊢
   rcases h with h | ⟨h, h'⟩
   . rcases k with k | ⟨k, _⟩
     . left; omega
     . left; rw [← k]; exact h
   . rcases k with k | ⟨k, k'⟩
     . left; rw [h]; exact k
     . exact .inr ⟨h.trans k, xQ h' k'⟩
theorem yv (n : Nat) : ∀ c ∈ dec n, cG c = true := by
 induction n using Nat.strongRecOn with
 | ind n ih =>
   intro c hc
   have hd : ∀ m, m < 10 → cG (digit m) = true := fun m hm => by
    have : m = 0 ∨ m = 1 ∨ m = 2 ∨ m = 3 ∨ m = 4 ∨ m = 5 ∨ m = 6 ∨ m = 7 ∨ m = 8 ∨ m = 9 := by omega
    rcases this with h | h | h | h | h | h | h | h | h | h <;> (subst h; decide)
   by_cases h : n < 10
   . rw [dec_lt h, List.mem_singleton] at hc; rw [hc]; exact hd n h
   . rw [rA h] at hc
     rcases List.mem_append.1 hc with hc | hc
     . exact ih _ (by omega) c hc
     . rw [List.mem_singleton] at hc; rw [hc]; exact hd _ (by omega)
theorem Dl (n : Nat) (h : 0 < n) : ((dec n).getD 0 0).toNat ≠ 48 := by
 induction n using Nat.strongRecOn with
 | ind n ih =>
   by_cases h1 : n < 10
   . rw [dec_lt h1]
     have : n = 1 ∨ n = 2 ∨ n = 3 ∨ n = 4 ∨ n = 5 ∨ n = 6 ∨ n = 7 ∨ n = 8 ∨ n = 9 := by omega
     rcases this with q | q | q | q | q | q | q | q | q <;> (subst q; decide)
   . rw [rA h1]
     have hp := rB (n / 10)
     rw [List.getD_eq_getElem?_getD, List.getElem?_append_left (by omega), ← List.getD_eq_getElem?_getD]
     exact ih _ (by omega) (by omega)
theorem Bu : ∀ (l : List UInt8) (p : List UInt8), (∀ c ∈ l, cG c = true) → fG (p ++ l) p.length = p.length + l.length
 | [], p, _ => by rw [List.append_nil]; exact ni (.inl (Nat.le_refl _))
 | c :: l, p, h => by
   have e : p ++ c :: l = (p ++ [c]) ++ l := by simp
   rw [oM (by simp) (by rw [List.getD_eq_getElem?_getD, List.getElem?_append_right (Nat.le_refl _)]; simpa using h c List.mem_cons_self), e]
   have := Bu l (p ++ [c]) fun x hx => h x (List.mem_cons_of_mem _ hx)
   rw [List.length_append, List.length_singleton] at this
   rw [this, List.length_cons]; omega
theorem AT (p : List UInt8) (n : Nat) (hp : p = [] ∨ p = [45]) : dI (p ++ dec n) 0 = ((p ++ dec n).length, 0) := by
 have hd := yv n
 have hpos := rB n
 have hs : cD (p ++ dec n) 0 45 45 = p.length := by
  unfold cD
  rcases hp with rfl | rfl
  . rw [if_neg]; rfl
    rw [iZ]
    intro q
    have h0 : cG ((dec n).getD 0 0) = true := hd _ (by
     rw [List.getD_eq_getElem?_getD, List.getElem?_eq_getElem (by omega)]
     exact List.getElem_mem _)
    have := kx.1 h0
    have q2 := q.2
    rw [List.nil_append] at q2
    omega
  . rw [if_pos]; rfl
    rw [iZ]
    exact ⟨by simp, .inl rfl⟩
 have hr := Bu (dec n) p hd
 have hat : (p ++ dec n).getD p.length 0 = (dec n).getD 0 0 := by
  rw [List.getD_eq_getElem?_getD, List.getElem?_append_right (Nat.le_refl _), Nat.sub_self, ← List.getD_eq_getElem?_getD]
 have hend : ∀ a b, fO (p ++ dec n) (p ++ dec n).length a b = false := fun a b => by
  rw [vn]; omega
 have hw : cj (p ++ dec n) 0 = ((p ++ dec n).length, 0) := by
  unfold cj
  rw [hs]
  by_cases h0 : n = 0
  . subst h0
    have e : dec 0 = [48] := by rw [dec_lt (by decide)]; rfl
    rw [if_pos (by rw [iZ, hat, e]; exact ⟨by rw [List.length_append]; simp, .inl rfl⟩), e, List.length_append]; rfl
  . rw [if_neg (by rw [iZ, hat]; intro q; exact Dl n (by omega) (by rcases q.2 with z | z <;> exact z))]
    unfold dz
    rw [hr, if_pos (by omega), List.length_append]
 unfold dI
 rw [hw]
 have hb : cT (p ++ dec n) ((p ++ dec n).length, 0) = ((p ++ dec n).length, 0) := by
  unfold cT
  rw [if_neg (fun q => by have := q.2; rw [hend] at this; cases this)]
 rw [hb]
 unfold iK
 rw [if_neg (fun q => by have := q.2; rw [hend] at this; cases this)]
theorem I2 (n : Int) : isNum (fK n) := by
 unfold fK
 split
 . refine ⟨by simp, ?_, .inl rfl⟩
   exact AT [45] n.natAbs (.inr rfl)
 . have hpos := rB n.toNat
   refine ⟨by omega, ?_, .inr (yv n.toNat _ ?_)⟩
   . have := AT [] n.toNat (.inl rfl)
     rw [List.nil_append] at this; exact this
   . rw [List.getD_eq_getElem?_getD, List.getElem?_eq_getElem (by omega)]
     exact List.getElem_mem _
end Go.Proofs.YtllncocibkgjkaaDoor
namespace Go.Proofs.YtllncocibkgjkaaDoor
open Go Go.VG
set_option maxRecDepth 100000
theorem Ci {s : List UInt8} (h : fi s = -1) : dN s := D5.1 (by rw [h]; decide)
theorem D9 {c : UInt8} (h : c.toNat < 128) : kj [c] := by
 have k : ∀ n : Nat, n < 128 → (bI [UInt8.ofNat n] 0).2 = 1 := by decide +kernel
 refine ⟨Nat.zero_lt_one, ?_⟩
 have := k c.toNat h
 rw [UInt8.ofNat_toNat] at this
 exact this
theorem xh : ∀ {s : List UInt8}, (∀ c ∈ s, c.toNat < 128) → dN s
 | [], _ => .nil
 | c :: s, h => dN.append (x := [c]) (dN.one (D9 (h c List.mem_cons_self))) (xh fun x hx => h x (List.mem_cons_of_mem _ hx))
theorem uC : ∀ {s : List UInt8}, ∀ c ∈ ey s, c.toNat < 128
 | [], c, h => by cases h
 | b :: s, c, h => by
   have k : ∀ n : Nat, n < 16 → (gz n).toNat < 128 := by decide
   have hb := b.toNat_lt
   rw [ey] at h
   rcases List.mem_cons.1 h with rfl | h
   . exact k _ (by omega)
   . rcases List.mem_cons.1 h with rfl | h
     . exact k _ (by omega)
     . exact uC c h
theorem Dh {b : Int} : ∀ c ∈ j8 b, c.toNat < 128 := by
 intro c h
 unfold j8 at h
 rcases List.mem_append.1 h with h | h
 . rcases List.mem_cons.1 h with rfl | h
   . decide
   . rw [List.mem_singleton.1 h]; decide
 . exact uC c h
structure VT (e : Nat) (x : List UInt8) (n : Nat) (key : List UInt8) (L : List Nd) : Prop where
 t : TT e L x
 n : L.length = n
 k : (iA L).key = key
theorem ns {e : Nat} {k : UInt8} {key t x : List UInt8} (h : mm ⟨k, t⟩) (hl : fN k = true) (hx : cE ⟨k, t⟩ = x) : VT e x 1 key [⟨k, key, t, 1⟩] :=
 ⟨by rw [← hx]; exact .leaf e k key t h hl, rfl, rfl⟩
structure VL (e : Nat) (l : List ah) (its : List It) : Prop where
 t : ∀ x ∈ its, TT e x.1 x.2
 k : ∀ x ∈ its, dk x = []
 n : (aZ its).length = d9 l
 c : ∀ i, bG cP its (i + 1) = gX l
 c0 : bG cP its 0 = gW l
structure VM (e : Nat) (p : Option (List UInt8)) (m : List aD) (its : List It) : Prop where
 t : ∀ x ∈ its, TT e x.1 x.2
 k : ∀ x ∈ its, dN (dk x)
 n : (aZ its).length = cM m
 c : ∀ i, bG bR its (i + 1) = iC m
 c0 : bG bR its 0 = iB m
 d : (its.map dk).Nodup
 o : ∀ x ∈ its, ∀ q, p = some q → Op.bytesLess q (dk x) = true
theorem Hs {a b : List UInt8} (h : iY a b = false) : Op.bytesLess b a = true := by
 unfold iY at h
 rw [Bool.or_eq_false_iff, beq_eq_false_iff_ne] at h
 exact xP h.1 h.2
mutual
theorem xk : ∀ (v : ah) (d : Int) (e : Nat) (key : List UInt8), v.ok → 0 ≤ d → eU v d = 0 → 16 ≤ d + e → ∃ L, VT e (json v) v.nodes key L
 | .mk k t n b l m, d, e, key, ho, hd, hc, he => by
   rw [eU] at hc
   simp only [ah.ok] at ho
   obtain ⟨⟨k0, _⟩, _, _, hol, hom⟩ := ho
   by_cases h7 : 7 < k
   . rw [if_pos h7] at hc; cases hc
   rw [if_neg h7] at hc
   by_cases hem : emp (.mk k t n b l m) = false
   . rw [if_pos hem] at hc; cases hc
   rw [if_neg hem] at hc
   have em := Dw (v := .mk k t n b l m) (by simpa using hem)
   obtain ⟨_, _, _, el, emm⟩ := em
   dsimp only [ah.kind, ah.list, ah.map] at el emm
   by_cases hdp : 6 ≤ k ∧ 16 ≤ d
   . rw [if_pos hdp] at hc; cases hc
   rw [if_neg hdp] at hc
   by_cases hu : k = 1 ∧ fi t ≠ -1
   . rw [if_pos hu] at hc; cases hc
   rw [if_neg hu] at hc
   by_cases hb : k = 2 ∧ (n < 0 ∨ 1 < n)
   . rw [if_pos hb] at hc; cases hc
   rw [if_neg hb] at hc
   have nl : k ≠ 6 → d9 l = 0 := fun h => by
    have := el.resolve_left h
    rw [List.length_eq_zero_iff] at this
    rw [this]; rfl
   have nm : k ≠ 7 → cM m = 0 := fun h => by
    have := emm.resolve_left h
    rw [List.length_eq_zero_iff] at this
    rw [this]; rfl
   have hn : k ≠ 6 → k ≠ 7 → (ah.mk k t n b l m).nodes = 1 := fun h1 h2 => by rw [ah.nodes, nl h1, nm h2]
   have cl : gP l (d + 1) = 0 := by
    by_cases q : gP l (d + 1) ≠ 0
    . rw [if_pos q] at hc; exact hc
    . omega
   have cm : gQ m none (d + 1) = 0 := by rw [if_neg (by omega)] at hc; exact hc
   rcases (show k = 0 ∨ k = 1 ∨ k = 2 ∨ k = 3 ∨ k = 4 ∨ k = 5 ∨ k = 6 ∨ k = 7 by omega) with q | q | q | q | q | q | q | q
   . subst q
     rw [hn (by decide) (by decide)]
     exact ⟨_, ns (k := 122) (t := []) (.inr (.inr (.inr ⟨.inr (.inr rfl), rfl⟩))) rfl (by simp [json]; rfl)⟩
   . subst q
     rw [hn (by decide) (by decide)]
     exact ⟨_, ns (k := 115) (t := t) (.inl ⟨rfl, Ci (Decidable.not_not.1 fun z => hu ⟨rfl, z⟩)⟩) rfl (by simp [json]; rfl)⟩
   . subst q
     rw [hn (by decide) (by decide)]
     by_cases z : n = 0
     . exact ⟨_, ns (k := 102) (t := []) (.inr (.inr (.inr ⟨.inr (.inl rfl), rfl⟩))) rfl (by simp [json, jt, z]; rfl)⟩
     . exact ⟨_, ns (k := 116) (t := []) (.inr (.inr (.inr ⟨.inl rfl, rfl⟩))) rfl (by simp [json, jt, z]; rfl)⟩
   . subst q
     rw [hn (by decide) (by decide)]
     exact ⟨_, ns (k := 110) (t := fK n) (.inr (.inl ⟨rfl, I2 n⟩)) rfl (by simp [json]; rfl)⟩
   . subst q
     rw [hn (by decide) (by decide)]
     exact ⟨_, ns (k := 115) (t := j8 b) (.inl ⟨rfl, xh Dh⟩) rfl (by simp [json]; rfl)⟩
   . subst q
     rw [hn (by decide) (by decide)]
     exact ⟨_, ns (k := 115) (t := ey t) (.inl ⟨rfl, xh uC⟩) rfl (by simp [json]; rfl)⟩
   . subst q
     obtain ⟨e', rfl⟩ : ∃ e', e = e' + 1 := ⟨e - 1, by omega⟩
     obtain ⟨its, h⟩ := Cr l (d + 1) e' hol (by omega) cl (by omega)
     refine ⟨⟨91, key, [], ((aZ its).length : Int) + 1⟩ :: aZ its, ?_, ?_, rfl⟩
     . have := TT.lst e' key its h.t h.k
       rw [h.c0] at this
       simpa [json] using this
     . rw [List.length_cons, h.n, ah.nodes, nm (by decide)]; omega
   . subst q
     obtain ⟨e', rfl⟩ : ∃ e', e = e' + 1 := ⟨e - 1, by omega⟩
     obtain ⟨its, h⟩ := Cs m none (d + 1) e' hom (by omega) cm (by omega)
     refine ⟨⟨123, key, [], ((aZ its).length : Int) + 1⟩ :: aZ its, ?_, ?_, rfl⟩
     . have := TT.obj e' key its h.t h.d h.k
       rw [h.c0] at this
       simpa [json] using this
     . rw [List.length_cons, h.n, ah.nodes, nl (by decide)]; omega
theorem Cr : ∀ (l : List ah) (d : Int) (e : Nat), ec l → 0 ≤ d → gP l d = 0 → 16 ≤ d + e → ∃ its, VL e l its
 | [], _, _, _, _, _, _ => ⟨[], fun _ h => (by cases h), fun _ h => (by cases h), rfl, fun _ => rfl, rfl⟩
 | v :: r, d, e, ho, hd, hc, he => by
   rw [gP] at hc
   simp only [ec] at ho
   have h1 : eU v d = 0 := by
    by_cases q : eU v d ≠ 0
    . rw [if_pos q] at hc; exact hc
    . omega
   rw [if_neg (by omega)] at hc
   obtain ⟨L, hL⟩ := xk v d e [] ho.1 hd h1 he
   obtain ⟨its, h⟩ := Cr r d e ho.2 hd hc he
   refine ⟨(L, json v) :: its, ?_, ?_, ?_, ?_, ?_⟩
   . intro x hx
     rcases List.mem_cons.1 hx with rfl | hx
     . exact hL.t
     . exact h.t x hx
   . intro x hx
     rcases List.mem_cons.1 hx with rfl | hx
     . exact hL.k
     . exact h.k x hx
   . show (L ++ aZ its).length = _
     rw [List.length_append, hL.n, h.n, d9]
   . intro i
     show (if i + 1 = 0 then [] else [44]) ++ (json v ++ bG cP its (i + 1 + 1)) = _
     rw [if_neg (Nat.succ_ne_zero i), h.c, gX]; rfl
   . show (if 0 = 0 then [] else [44]) ++ (json v ++ bG cP its (0 + 1)) = _
     rw [if_pos rfl, h.c, gW]; rfl
theorem Cs : ∀ (m : List aD) (p : Option (List UInt8)) (d : Int) (e : Nat), eh m → 0 ≤ d → gQ m p d = 0 → 16 ≤ d + e → ∃ its, VM e p m its
 | [], _, _, _, _, _, _, _ => ⟨[], fun _ h => (by cases h), fun _ h => (by cases h), rfl, fun _ => rfl, rfl, List.nodup_nil, fun _ h => (by cases h)⟩
 | .mk key v :: r, p, d, e, ho, hd, hc, he => by
   rw [gQ, iR] at hc
   simp only [eh, aD.ok] at ho
   have h0 : jg key = 0 := by
    by_cases q : jg key ≠ 0
    . rw [if_pos q, if_pos q] at hc; exact hc
    . omega
   rw [if_neg (show ¬ jg key ≠ 0 by omega)] at hc
   by_cases hp : (p.any fun q => iY key q) = true
   . rw [if_pos hp, if_pos (by decide)] at hc; cases hc
   rw [if_neg hp] at hc
   have h1 : eU v d = 0 := by
    by_cases q : eU v d ≠ 0
    . rw [if_pos q] at hc; exact hc
    . omega
   rw [if_neg (by omega)] at hc
   obtain ⟨L, hL⟩ := xk v d e key ho.1 hd h1 he
   obtain ⟨its, h⟩ := Cs r (some key) d e ho.2 hd hc he
   have hk : dN key := by
    unfold jg at h0
    by_cases z : key = []
    . rw [if_pos z] at h0; cases h0
    . rw [if_neg z] at h0
      by_cases u : fi key ≠ -1
      . rw [if_pos u] at h0; cases h0
      . exact Ci (Decidable.not_not.1 u)
   have hkI : dk (L, json v) = key := hL.k
   have hlt : ∀ q, p = some q → Op.bytesLess q key = true := fun q hq => by
    subst hq
    have : iY key q = false := by simpa using hp
    exact Hs this
   refine ⟨(L, json v) :: its, ?_, ?_, ?_, ?_, ?_, ?_, ?_⟩
   . intro x hx
     rcases List.mem_cons.1 hx with rfl | hx
     . exact hL.t
     . exact h.t x hx
   . intro x hx
     rcases List.mem_cons.1 hx with rfl | hx
     . rw [hkI]; exact hk
     . exact h.k x hx
   . show (L ++ aZ its).length = _
     rw [List.length_append, hL.n, h.n, cM, aD.nodes]
   . intro i
     show (if i + 1 = 0 then [] else [44]) ++ (bR (L, json v) ++ bG bR its (i + 1 + 1)) = _
     rw [if_neg (Nat.succ_ne_zero i), h.c, iC, kH]
     show [44] ++ ((quote (iA L).key ++ ([58] ++ json v)) ++ _) = _
     rw [hL.k]; simp
   . show (if 0 = 0 then [] else [44]) ++ (bR (L, json v) ++ bG bR its (0 + 1)) = _
     rw [if_pos rfl, h.c, iB, kH]
     show [] ++ ((quote (iA L).key ++ ([58] ++ json v)) ++ _) = _
     rw [hL.k]; simp
   . rw [List.map_cons, List.nodup_cons, hkI]
     refine ⟨fun hm => ?_, h.d⟩
     obtain ⟨x, hx, e⟩ := List.mem_map.1 hm
     have := h.o x hx key rfl
     rw [e, xO] at this
     cases this
   . intro x hx q hq
     rcases List.mem_cons.1 hx with rfl | hx
     . rw [hkI]; exact hlt q hq
     . exact xQ (hlt q hq) (h.o x hx key rfl)
end
end Go.Proofs.YtllncocibkgjkaaDoor
