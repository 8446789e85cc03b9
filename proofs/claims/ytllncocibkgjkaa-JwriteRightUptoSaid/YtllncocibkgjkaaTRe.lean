/-
  A part of the proof.
-/
import Derived.Test.YtllncocibkgjkaaTRd
set_option linter.unusedSimpArgs false
set_option linter.unusedVariables false
set_option maxHeartbeats 4000000
namespace Go.Proofs.Ytllncocibkgjkaa
open Go Go.VG
set_option maxRecDepth 100000
abbrev mK (ks : List (List UInt8)) : List (V × Int) := ks.map fun k => (V.str k, 1)
theorem qQ : ∀ {ks : List (List UInt8)} {x : List UInt8}, x ∈ ks → ∃ j, b9 (mK ks) (.str x) = some (j, 1)
 | [], _, h => by simp at h
 | k :: ks, x, h => by
   show ∃ j, b9 ((V.str k, 1) :: mK ks) (.str x) = some (j, 1)
   unfold b9
   show ∃ j, cond (k == x) _ _ = some (j, 1)
   by_cases e : k = x
   . rw [e, beq_self_eq_true]; exact ⟨0, rfl⟩
   . rw [beq_eq_false_iff_ne.2 e]
     obtain ⟨j, hj⟩ := qQ (ks := ks) (x := x) ((List.mem_cons.1 h).resolve_left (Ne.symm e))
     rw [hj]; exact ⟨j + 1, rfl⟩
theorem p4 : ∀ {ks : List (List UInt8)} {x : List UInt8}, x ∉ ks → b9 (mK ks) (.str x) = none
 | [], _, _ => rfl
 | k :: ks, x, h => by
   show b9 ((V.str k, 1) :: mK ks) (.str x) = none
   unfold b9
   show cond (k == x) _ _ = none
   rw [beq_eq_false_iff_ne.2 (fun e => h (by rw [e]; simp)), p4 (ks := ks) (fun q => h (List.mem_cons_of_mem _ q))]
   rfl
theorem tK {ks : List (List UInt8)} {x : List UInt8} (h : b9 (mK ks) (.str x) = none) : x ∉ ks := fun q => by
 obtain ⟨j, hj⟩ := qQ q
 rw [hj] at h; cases h
theorem z9 {ks : List (List UInt8)} {x : List UInt8} {j : Nat} {q : Int} (h : b9 (mK ks) (.str x) = some (j, q)) : x ∈ ks ∧ q = 1 := by
 by_cases e : x ∈ ks
 . obtain ⟨j', hj⟩ := qQ e
   rw [hj] at h; cases h; exact ⟨e, rfl⟩
 . rw [p4 e] at h; cases h
theorem z7 {ks : List (List UInt8)} {x : List UInt8} (h : x ∈ ks) : getM (mK ks) (.str x) = 1 := by
 obtain ⟨j, hj⟩ := qQ h
 unfold getM; rw [hj]
theorem oZ {ks : List (List UInt8)} {x : List UInt8} (h : x ∉ ks) : getM (mK ks) (.str x) = 0 := by
 unfold getM; rw [p4 h]
theorem yZ (ks : List (List UInt8)) (x : List UInt8) : mK ks ++ [(V.str x, 1)] = mK (ks ++ [x]) := by
 show _ = (ks ++ [x]).map _
 rw [List.map_append]; rfl
theorem z8 (ks : List (List UInt8)) (x : List UInt8) : 0 ≤ getM (mK ks) (.str x) ∧ getM (mK ks) (.str x) ≤ 1 := by
 by_cases h : x ∈ ks
 . rw [z7 h]; decide
 . rw [oZ h]; decide
theorem xH {es : List (V × Int)} {x : List UInt8} {q : Int} (h : b9 es (.str x) = none) : getM (es ++ [(.str x, q)]) (.str x) = q := by
 unfold getM
 rw [xy h]
 show (match cond (x == x) (some (es.length, q)) none with | some (_, q) => q | none => 0) = q
 rw [beq_self_eq_true]; rfl
theorem xI : ∀ {es : List (V × Int)} {x : List UInt8} {j : Nat} {q q' : Int}, b9 es (.str x) = some (j, q) → getM (eH es j q') (.str x) = q'
 | [], _, _, _, _, h => by cases h
 | (y, p) :: es, x, j, q, q', h => by
   unfold b9 at h
   cases hb : gU y (.str x) with
   | true =>
     rw [hb] at h
     cases h
     unfold eH getM b9
     rw [hb]; rfl
   | false =>
     rw [hb] at h
     cases hf : b9 es (.str x) with
     | none => rw [hf] at h; cases h
     | some r =>
       obtain ⟨j', q1⟩ := r
       rw [hf] at h
       cases h
       have := xI (q' := q') hf
       unfold eH getM b9
       rw [hb]
       unfold getM at this
       cases hg : b9 (eH es j' q') (.str x) with
       | none => rw [hg] at this; simpa using this
       | some r => obtain ⟨a, b⟩ := r; rw [hg] at this; simpa using this
abbrev OS : Type := Nat × Tk × Cu × List (List UInt8) × List Nd × List Nat × Nat
structure OInv (k : Nat) (c : Cu) (x : OS) : Prop where
 live : x.2.2.1.live
 s : x.2.2.1.s = c.s
 e : x.2.2.1.e = c.e
 acc : x.2.2.2.2.1.length + 1 + c.p ≤ x.2.2.1.p
 n : x.2.2.1.e - x.2.2.1.p + 1 ≤ x.1
 r : aU (gv k) c = eP (gv k) x.1 x.2.1 x.2.2.1 x.2.2.2.1 x.2.2.2.2.1
theorem DM (k : Nat) (hv : dP 56 (gH k)) (c : Cu) (l : List V) (d : Int) (hp : c.live ∧ d + k = 32 ∧ (∃ L : List Nd, l = L.map aX) ∧ l.length + (c.e - c.p) ≤ 100000000) (hc : ¬ ((aU (gv k) c).1 ≠ 0)) : OK 82 ([.ptr 0 0, .int .i64 d]) ([.cells [.ptr 1 0, .buf 2], .cells (eC c), .buf 4 0 l]) (.tuple []) (some [.cells [.ptr 1 0, .buf 2], .cells (eC (aU (gv k) c).2.2), .buf 4 0 (l ++ (aU (gv k) c).2.1.map aX)]) := by
 refine az (C := cxq [] [(57, jM), (103, qZ), (56, gH k)] [9]) (xT trivial ⟨lJ, yB, hv, trivial⟩) (fn := Try.f82) rfl rfl rfl rfl fun hw hs => ?_
 have hn := fun h => bH hp.1 h
 repeat' ((conv => whnf); first | with_reducible refine fL ?_ (fun h => ?_) fun h => ?_ | (apply ay <;> intro h))
 all_goals try conv => whnf
 all_goals try (refine af.mk ?_; try dsimp only)
 . exact ⟨trivial, hp.1.1, hp.1.2.2⟩
 . exfalso
   unfold aU at hc
   rw [if_pos (by assumption)] at hc
   exact hc (by assumption)
 . simp only [aO] at *
   have hr : aU (gv k) c = (0, [], c.next.1) := by unfold aU; rw [if_neg (by assumption), if_pos (by omega)]
   rw [hr]
   refine ah.mk [] ?_ <;> (repeat' first | trivial | apply ak | apply aJ)
   simp
 simp only [aO] at *
 have hn := hn (by omega)
 refine cg.mk OS (OInv k c) (fun x => ⟨47, [(0, .ptr 0 0), (1, .int .i64 d), (4, .map 3), (5, .ptr 4 0)], [.cells [.ptr 1 0, .buf 2], .cells (eC x.2.2.1), .buf 4 0 (l ++ x.2.2.2.2.1.map aX), .map false [.kS] (mK x.2.2.2.1) x.2.2.2.2.2.1 x.2.2.2.2.2.2, .cells (eT x.2.1)], [2]⟩) (fun x => x.1) [] (c.next.1.e - c.next.1.p + 1, c.next.2, c.next.1, [], [], [], 0) ⟨hn.1, hn.2.1, hn.2.2.1, by show 0 + 1 + c.p ≤ c.next.1.p; omega, Nat.le_refl _, by unfold aU; rw [if_neg (by assumption), if_neg (by omega)]⟩ ?_ (fun ⟨n, t, c', ks, acc, bs, ck⟩ hI _ _ => ?_)
 . refine Go.VG.Sub.mk rfl ?_ ?_ ?_ ?_ <;> (repeat' first | trivial | apply ak | apply aJ)
   all_goals simp
 obtain ⟨i1, i2, i3, i4, i5, i6⟩ := hI
 dsimp only at i1 i2 i3 i4 i5 i6
 obtain ⟨n, rfl⟩ : ∃ m, n = m + 1 := ⟨n - 1, by omega⟩
 rw [eP] at i6
 obtain ⟨L, hL⟩ := hp.2.2.1
 have hma : (acc.map aX).length = acc.length := List.length_map ..
 have hpe := i1.1.1
 have hkr := z8 ks t.t
 have hm : cm t c' ks = 0 := Decidable.byContradiction fun q => by
  rw [if_pos q] at i6
  rw [i6] at hc
  exact hc q
 obtain ⟨m1, m2, m3, m4, m5⟩ := tN i1 hm
 rw [if_neg (by omega)] at i6
 repeat' ((conv => whnf); first | with_reducible (first | refine go1 (fun j q h => ?_) fun h => ?_ | refine fL ?_ (fun h => ?_) fun h => ?_) | apply iN | apply bh | (apply ay <;> intro h))
 all_goals try conv => whnf
 all_goals try (refine af.mk ?_; try dsimp only)
 all_goals (try simp only [aO, jY, l0] at *)
 all_goals (try (exfalso; have hx : b9 (mK ks) (V.str t.t) = some (j, q) := by assumption
                 rw [p4 m2] at hx; cases hx; done))
 . rw [m1]; rfl
 . have hx := ‹getM (mK ks ++ _) _ > 1›
   rw [xH (p4 m2), oZ m2] at hx
   exact absurd hx (by decide)
 . exact ⟨by decide, trivial, i1.1, i1.2.2⟩
 . rcases ‹c'.aE ≠ 0 ∨ c'.next.2.k ≠ byte 58› with q | q
   . exact q m3
   . exact q (UInt8.toNat_inj.1 (by rw [m4]; rfl))
 obtain ⟨o1, o2, o3, o4, _⟩ := bH i1 m3
 obtain ⟨u1, u2, u3, u4, _⟩ := bH o1 m5
 have u5 := u1.1.1
 have fit := fM k c'.next.1.next.2 t.t c'.next.1.next.1 u1
 have hkk : mK ks ++ [(V.str t.t, IntKind.i64.wrap (getM (mK ks) (V.str t.t) + 1))] = mK (ks ++ [t.t]) := by rw [oZ m2]; exact yZ ks t.t
 refine nR.last [_, _, _, _, _, _] _ _ rfl rfl rfl rfl rfl ?_
 repeat' ((conv => whnf); first | with_reducible refine fL ?_ (fun h => ?_) fun h => ?_ | apply al | apply iN | (apply ay <;> intro h))
 all_goals try conv => whnf
 all_goals try (refine af.mk ?_; try dsimp only)
 all_goals (try simp only [aO, jY, l0] at *)
 all_goals unfold bQ at i6
 all_goals generalize gv k c'.next.1.next.2 t.t c'.next.1.next.1 = r at *
 . exact ⟨⟨trivial, o1.1, o1.2.2⟩, fun q => q m5⟩
 . exact ⟨⟨by omega, by have := c'.next.1.next.2.k.toNat_lt; omega⟩, u1, hp.2.1, np hL, by have := hp.2.2.2; rw [List.length_append, hma]; rw [u3, o3, i3] at u5 ⊢; omega⟩
 . rw [if_pos (by assumption)] at i6
   rw [i6] at hc
   exact hc (by assumption)
 . have f := fit (by omega)
   exact ⟨trivial, f.live.1, f.live.2.2⟩
 . rw [if_neg (by assumption), if_pos (by assumption)] at i6
   rw [i6] at hc
   exact hc (by assumption)
 . rw [if_neg (by assumption), if_neg (by assumption), if_pos (by omega)] at i6
   rw [i6]
   refine ah.mk [] ?_ <;> (repeat' first | trivial | apply ak | apply aJ)
   rw [List.map_append, List.append_assoc]
 all_goals
  have h44 : r.2.2.next.2.k.toNat = 44 := by
   refine Decidable.byContradiction fun q => hc ?_
   rw [if_neg (by assumption), if_neg (by assumption), if_neg (by omega), if_pos q] at i6
   rw [i6]
   exact (by decide : (3 : Int) ≠ 0)
 . rw [h44]; rfl
 all_goals
  have f := fit (by omega)
  obtain ⟨a1, a2, a3, a4, _⟩ := bH f.live (by omega)
  have f2 := f.p; have f3 := f.e; have f4 := f.len; have f5 := f.s
 . exact ⟨trivial, a1.1, a1.2.2⟩
 . rw [if_neg (by assumption), if_neg (by assumption), if_neg (by omega), if_neg (fun q => q h44), if_pos (by assumption)] at i6
   rw [i6] at hc
   exact hc (by assumption)
 . rw [if_neg (by assumption), if_neg (by assumption), if_neg (by omega), if_neg (fun q => q h44), if_neg (by assumption)] at i6
   obtain ⟨b1, b2, b3, b4, _⟩ := bH a1 (by omega)
   have b5 := b1.1.1
   refine ⟨[], (n, r.2.2.next.1.next.2, r.2.2.next.1.next.1, ks ++ [t.t], acc ++ r.2.1, bs ++ [ck], ck + 1), ⟨b1, by show _ = c.s; rw [b2, a2, f5, u2, o2, i2], by show _ = c.e; rw [b3, a3, f3, u3, o3, i3], by show (acc ++ r.2.1).length + 1 + c.p ≤ r.2.2.next.1.next.1.p; rw [List.length_append]; omega, by show r.2.2.next.1.next.1.e - r.2.2.next.1.next.1.p + 1 ≤ n; rw [b3, a3, f3, u3, o3, i3] at b5 ⊢; rw [i3] at i5; omega, i6⟩, ?_, Nat.lt_succ_self n⟩
   refine Go.VG.Sub.mk rfl ?_ ?_ ?_ ?_ <;> (repeat' first | trivial | apply ak | apply aJ)
   all_goals first
    | (rw [hkk]; done)
    | (rw [List.map_append, List.append_assoc]; done)
theorem Gw (k : Nat) (hv : dP 56 (gH k)) (c : Cu) (l : List V) (d : Int) (hp : c.live ∧ d + k = 32 ∧ (∃ L : List Nd, l = L.map aX) ∧ l.length + (c.e - c.p) ≤ 100000000) (hc : (aU (gv k) c).1 ≠ 0) : la 82 ([.ptr 0 0, .int .i64 d]) ([.cells [.ptr 1 0, .buf 2], .cells (eC c), .buf 4 0 l]) (.iface 100 (.int .i64 (aU (gv k) c).1)) (some [.dead, .dead, .dead, .buf 1 0 []]) := by
 refine lU (C := cxq [] [(57, jM), (103, qZ), (56, gH k)] [9]) (xT trivial ⟨lJ, yB, hv, trivial⟩) (fn := Try.f82) rfl rfl rfl rfl fun hw hs => ?_
 have hn := fun h => bH hp.1 h
 repeat' ((conv => whnf); first | with_reducible refine fL ?_ (fun h => ?_) fun h => ?_ | apply al | (apply ay <;> intro h))
 all_goals try conv => whnf
 all_goals try (refine af.mk ?_; try dsimp only)
 . exact ⟨trivial, hp.1.1, hp.1.2.2⟩
 . simp only [aO] at *
   have hr : aU (gv k) c = (c.aE, [], c) := by unfold aU; rw [if_pos (by assumption)]
   rw [hr]
 . (refine c9.mk [.nw, .swap 3 4] ?_ <;> (repeat' first | trivial | rfl | apply ak); done)
 . exfalso
   simp only [aO] at *
   have hr : aU (gv k) c = (0, [], c.next.1) := by unfold aU; rw [if_neg (by assumption), if_pos (by omega)]
   rw [hr] at hc
   exact hc rfl
 simp only [aO] at *
 have hn := hn (by omega)
 refine cg.mk OS (OInv k c) (fun x => ⟨47, [(0, .ptr 0 0), (1, .int .i64 d), (4, .map 3), (5, .ptr 4 0)], [.cells [.ptr 1 0, .buf 2], .cells (eC x.2.2.1), .buf 4 0 (l ++ x.2.2.2.2.1.map aX), .map false [.kS] (mK x.2.2.2.1) x.2.2.2.2.2.1 x.2.2.2.2.2.2, .cells (eT x.2.1)], [2]⟩) (fun x => x.1) [] (c.next.1.e - c.next.1.p + 1, c.next.2, c.next.1, [], [], [], 0) ⟨hn.1, hn.2.1, hn.2.2.1, by show 0 + 1 + c.p ≤ c.next.1.p; omega, Nat.le_refl _, by unfold aU; rw [if_neg (by assumption), if_neg (by omega)]⟩ ?_ (fun ⟨n, t, c', ks, acc, bs, ck⟩ hI _ _ => ?_)
 . refine Go.VG.Sub.mk rfl ?_ ?_ ?_ ?_ <;> (repeat' first | trivial | apply ak | apply aJ)
   all_goals simp
 obtain ⟨i1, i2, i3, i4, i5, i6⟩ := hI
 dsimp only at i1 i2 i3 i4 i5 i6
 obtain ⟨n, rfl⟩ : ∃ m, n = m + 1 := ⟨n - 1, by omega⟩
 rw [eP] at i6
 obtain ⟨L, hL⟩ := hp.2.2.1
 have hma : (acc.map aX).length = acc.length := List.length_map ..
 have hpe := i1.1.1
 have hkr := z8 ks t.t
 have hme : cm t c' ks ≠ 0 → aU (gv k) c = (cm t c' ks, [], c') := fun q => by rw [if_pos q] at i6; exact i6
 have h8 : ∀ {j q}, b9 (mK ks) (V.str t.t) = some (j, q) → t.k.toNat = 115 → cm t c' ks = 8 := fun hf hk => by unfold cm; rw [if_neg (by omega), if_pos (z9 hf).1]
 have h2 : ∀ {j q}, b9 (mK ks) (V.str t.t) = some (j, q) → getM (eH (mK ks) j (IntKind.i64.wrap (getM (mK ks) (V.str t.t) + 1))) (V.str t.t) > 1 := fun hf => by rw [xI hf, z7 (z9 hf).1]; decide
 have h1 : b9 (mK ks) (V.str t.t) = none → ¬ getM (mK ks ++ [(V.str t.t, IntKind.i64.wrap (getM (mK ks) (V.str t.t) + 1))]) (V.str t.t) > 1 := fun hf => by rw [xH hf, oZ (tK hf)]; decide
 repeat' ((conv => whnf); first | with_reducible (first | refine go1 (fun j q h => ?_) fun h => ?_ | refine fL ?_ (fun h => ?_) fun h => ?_) | apply al | apply bh | (apply ay <;> intro h))
 all_goals try conv => whnf
 all_goals try (refine af.mk ?_; try dsimp only)
 all_goals (try simp only [aO, jY, l0] at *)
 . have e := h8 (by assumption) (by omega)
   rw [hme (by rw [e]; decide)]
   show _ = Value.iface _ (Value.int _ (cm t c' ks))
   rw [e]
 . (refine c9.mk [.nw, .swap 3 5] ?_ <;> (repeat' first | trivial | rfl | apply ak); done)
 . exact ⟨by decide, trivial, i1.1, i1.2.2⟩
 . exact absurd (h2 (by assumption)) (by assumption)
 . (refine c9.mk [.nw, .swap 3 5] ?_ <;> (repeat' first | trivial | rfl | apply ak); done)
 . exact absurd (h2 (by assumption)) (by assumption)
 . exact absurd (by assumption) (h1 (by assumption))
 . (refine c9.mk [.nw, .swap 3 5] ?_ <;> (repeat' first | trivial | rfl | apply ak); done)
 . exact ⟨by decide, trivial, i1.1, i1.2.2⟩
 . have hq := ‹c'.aE ≠ 0 ∨ c'.next.2.k ≠ byte 58›
   have e : cm t c' ks = if c'.aE ≠ 0 then c'.aE else 3 := by
    unfold cm
    rw [if_neg (by omega), if_neg (tK (by assumption))]
    by_cases q : c'.aE ≠ 0
    . rw [if_pos q, if_pos q]
    . rw [if_neg q, if_neg q, if_pos (fun e => (hq.resolve_left q) (UInt8.toNat_inj.1 (by rw [e]; rfl)))]
   rw [hme (by rw [e]; split <;> first | assumption | decide)]
   show _ = Value.iface _ (Value.int _ (cm t c' ks))
   rw [e]
 . (refine c9.mk [.nw, .swap 3 5] ?_ <;> (repeat' first | trivial | rfl | apply ak); done)
 . have hq := ‹¬ (c'.aE ≠ 0 ∨ c'.next.2.k ≠ byte 58)›
   have m2 := tK (ks := ks) (x := t.t) (by assumption)
   have m3 : c'.aE = 0 := Decidable.byContradiction fun q => hq (.inl q)
   have m4 : c'.next.2.k.toNat = 58 := Decidable.byContradiction fun q => hq (.inr fun e => q (by rw [e]; rfl))
   have e : cm t c' ks = c'.next.1.aE := by unfold cm; rw [if_neg (by omega), if_neg m2, if_neg (by omega), if_neg (by omega)]
   obtain ⟨o1, o2, o3, o4, _⟩ := bH i1 m3
   by_cases m5 : c'.next.1.aE = 0
   . rw [if_neg (by omega)] at i6
     obtain ⟨u1, u2, u3, u4, _⟩ := bH o1 m5
     have u5 := u1.1.1
     have fit := fM k c'.next.1.next.2 t.t c'.next.1.next.1 u1
     have hkk : mK ks ++ [(V.str t.t, IntKind.i64.wrap (getM (mK ks) (V.str t.t) + 1))] = mK (ks ++ [t.t]) := by rw [oZ m2]; exact yZ ks t.t
     refine nR.last [_, _, _, _, _, _] _ _ rfl rfl rfl rfl rfl ?_
     repeat' ((conv => whnf); first | with_reducible refine fL ?_ (fun h => ?_) fun h => ?_ | apply al | (apply ay <;> intro h))
     all_goals try conv => whnf
     all_goals try (refine af.mk ?_; try dsimp only)
     all_goals (try simp only [aO, jY, l0] at *)
     all_goals unfold bQ at i6
     all_goals generalize gv k c'.next.1.next.2 t.t c'.next.1.next.1 = r at *
     . exact ⟨⟨trivial, o1.1, o1.2.2⟩, fun q => q m5⟩
     . exact ⟨⟨by omega, by have := c'.next.1.next.2.k.toNat_lt; omega⟩, u1, hp.2.1, np hL, by have := hp.2.2.2; rw [List.length_append, hma]; rw [u3, o3, i3] at u5 ⊢; omega⟩
     . rw [if_pos (by assumption)] at i6
       rw [i6]
     . (refine c9.mk [.nw, .swap 3 5] ?_ <;> (repeat' first | trivial | rfl | apply ak); done)
     . have f := fit (by omega)
       exact ⟨trivial, f.live.1, f.live.2.2⟩
     . rw [if_neg (by assumption), if_pos (by assumption)] at i6
       rw [i6]
     . (refine c9.mk [.nw, .swap 3 5] ?_ <;> (repeat' first | trivial | rfl | apply ak); done)
     . rw [if_neg (by assumption), if_neg (by assumption), if_pos (by omega)] at i6
       rw [i6] at hc
       exact hc rfl
     . have f := fit (by omega)
       obtain ⟨a1, a2, a3, a4, _⟩ := bH f.live (by omega)
       exact ⟨trivial, a1.1, a1.2.2⟩
     . rw [if_neg (by assumption), if_neg (by assumption), if_neg (by omega), if_neg (by omega), if_pos (by assumption)] at i6
       rw [i6]
     . (refine c9.mk [.nw, .swap 3 5] ?_ <;> (repeat' first | trivial | rfl | apply ak); done)
     . rw [if_neg (by assumption), if_neg (by assumption), if_neg (by omega), if_neg (by omega), if_neg (by assumption)] at i6
       have f := fit (by omega)
       obtain ⟨a1, a2, a3, a4, _⟩ := bH f.live (by omega)
       have f2 := f.p; have f3 := f.e; have f4 := f.len; have f5 := f.s
       obtain ⟨b1, b2, b3, b4, _⟩ := bH a1 (by omega)
       have b5 := b1.1.1
       refine ⟨[], (n, r.2.2.next.1.next.2, r.2.2.next.1.next.1, ks ++ [t.t], acc ++ r.2.1, bs ++ [ck], ck + 1), ⟨b1, by show _ = c.s; rw [b2, a2, f5, u2, o2, i2], by show _ = c.e; rw [b3, a3, f3, u3, o3, i3], by show (acc ++ r.2.1).length + 1 + c.p ≤ r.2.2.next.1.next.1.p; rw [List.length_append]; omega, by show r.2.2.next.1.next.1.e - r.2.2.next.1.next.1.p + 1 ≤ n; rw [b3, a3, f3, u3, o3, i3] at b5 ⊢; rw [i3] at i5; omega, i6⟩, ?_, Nat.lt_succ_self n⟩
       refine Go.VG.Sub.mk rfl ?_ ?_ ?_ ?_ <;> (repeat' first | trivial | apply ak | apply aJ)
       all_goals first
        | (rw [hkk]; done)
        | (rw [List.map_append, List.append_assoc]; done)
     . rw [if_neg (by assumption), if_neg (by assumption), if_neg (by omega), if_pos (by omega)] at i6
       rw [i6]
     . (refine c9.mk [.nw, .swap 3 5] ?_ <;> (repeat' first | trivial | rfl | apply ak); done)
   . rw [if_pos (by omega)] at i6
     refine nR.pan [_, _, _, _, _, _] [_] 2 _ _ _ _ _ rfl rfl rfl rfl rfl rfl rfl rfl rfl rfl ?_
     repeat' ((conv => whnf); apply al)
     all_goals try conv => whnf
     all_goals try (refine af.mk ?_; try dsimp only)
     all_goals (try simp only [aO, jY, l0] at *)
     . exact ⟨⟨trivial, o1.1, o1.2.2⟩, m5⟩
     . rw [i6]
       show _ = Value.iface _ (Value.int _ (cm t c' ks))
       rw [e]
     . (refine c9.mk [.nw, .swap 3 5] ?_ <;> (repeat' first | trivial | rfl | apply ak); done)
 . have e : cm t c' ks = 3 := by unfold cm; rw [if_pos (by omega)]
   rw [hme (by rw [e]; decide)]
   show _ = Value.iface _ (Value.int _ (cm t c' ks))
   rw [e]
 . (refine c9.mk [.nw, .swap 3 5] ?_ <;> (repeat' first | trivial | rfl | apply ak); done)
def lY (k : Nat) : dC := fun args σ => match args, σ with
 | [.ptr 0 0, .int .i64 d], [.cells [.ptr 1 0, .buf 2], .cells ([.str s_c, .int .i64 (.ofNat a_c), .int .i64 (.ofNat e_c), .int .i64 c_c]), .buf 4 0 l] => some (True ∧ ((Cu.mk s_c a_c e_c c_c).live ∧ d + k = 32 ∧ (∃ L : List Nd, l = L.map aX) ∧ l.length + ((Cu.mk s_c a_c e_c c_c).e - (Cu.mk s_c a_c e_c c_c).p) ≤ 100000000), (aU (gv k) (Cu.mk s_c a_c e_c c_c)).1 ≠ 0, .iface 100 (.int .i64 (aU (gv k) (Cu.mk s_c a_c e_c c_c)).1), some [.dead, .dead, .dead, .buf 1 0 []], .tuple [], some [.cells [.ptr 1 0, .buf 2], .cells (eC (aU (gv k) (Cu.mk s_c a_c e_c c_c)).2.2), .buf 4 0 (l ++ (aU (gv k) (Cu.mk s_c a_c e_c c_c)).2.1.map aX)])
 | _, _ => none
theorem Fq (k : Nat) (hv : dP 56 (gH k)) : dP 82 (lY k) := by
 intro args sg pre c u r x r2 he hp
 unfold lY at he
 split at he <;> cases he
 . rw [bW (hp).1]; exact ⟨fun hc => ⟨_, rfl, Gw (hv := hv) (hp := hp.2) (hc := hc) ..⟩, fun hc => DM (hv := hv) (hp := hp.2) (hc := hc) ..⟩
end Go.Proofs.Ytllncocibkgjkaa
