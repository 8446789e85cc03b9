/-
  A part of the proof.
-/
import Derived.Test.YtllncocibkgjkaaGreatTRd
set_option linter.unusedSimpArgs false
set_option linter.unusedVariables false
set_option maxHeartbeats 4000000
namespace Go.Proofs.YtllncocibkgjkaaGreat
open Go Go.VG
set_option maxRecDepth 100000
abbrev mK (ks : List (List UInt8)) : List (V × Int) := ks.map fun k => (V.str k, 1)
theorem rY : ∀ {ks : List (List UInt8)} {x : List UInt8}, x ∈ ks → ∃ j, bB (mK ks) (.str x) = some (j, 1)
 | [], _, h => by simp at h
 | k :: ks, x, h => by
   show ∃ j, bB ((V.str k, 1) :: mK ks) (.str x) = some (j, 1)
   unfold bB
   show ∃ j, cond (k == x) _ _ = some (j, 1)
   by_cases e : k = x
   . rw [e, beq_self_eq_true]; exact ⟨0, rfl⟩
   . rw [beq_eq_false_iff_ne.2 e]
     obtain ⟨j, hj⟩ := rY (ks := ks) (x := x) ((List.mem_cons.1 h).resolve_left (Ne.symm e))
     rw [hj]; exact ⟨j + 1, rfl⟩
theorem pZ : ∀ {ks : List (List UInt8)} {x : List UInt8}, x ∉ ks → bB (mK ks) (.str x) = none
 | [], _, _ => rfl
 | k :: ks, x, h => by
   show bB ((V.str k, 1) :: mK ks) (.str x) = none
   unfold bB
   show cond (k == x) _ _ = none
   rw [beq_eq_false_iff_ne.2 (fun e => h (by rw [e]; simp)), pZ (ks := ks) (fun q => h (List.mem_cons_of_mem _ q))]
   rfl
theorem va {ks : List (List UInt8)} {x : List UInt8} (h : bB (mK ks) (.str x) = none) : x ∉ ks := fun q => by
 obtain ⟨j, hj⟩ := rY q
 rw [hj] at h; cases h
theorem B4 {ks : List (List UInt8)} {x : List UInt8} {j : Nat} {q : Int} (h : bB (mK ks) (.str x) = some (j, q)) : x ∈ ks ∧ q = 1 := by
 by_cases e : x ∈ ks
 . obtain ⟨j', hj⟩ := rY e
   rw [hj] at h; cases h; exact ⟨e, rfl⟩
 . rw [pZ e] at h; cases h
theorem B1 {ks : List (List UInt8)} {x : List UInt8} (h : x ∈ ks) : getM (mK ks) (.str x) = 1 := by
 obtain ⟨j, hj⟩ := rY h
 unfold getM; rw [hj]
theorem pY {ks : List (List UInt8)} {x : List UInt8} (h : x ∉ ks) : getM (mK ks) (.str x) = 0 := by
 unfold getM; rw [pZ h]
theorem B0 (ks : List (List UInt8)) (x : List UInt8) : mK ks ++ [(V.str x, 1)] = mK (ks ++ [x]) := by
 show _ = (ks ++ [x]).map _
 rw [List.map_append]; rfl
theorem B3 (ks : List (List UInt8)) (x : List UInt8) : 0 ≤ getM (mK ks) (.str x) ∧ getM (mK ks) (.str x) ≤ 1 := by
 by_cases h : x ∈ ks
 . rw [B1 h]; decide
 . rw [pY h]; decide
theorem zw {es : List (V × Int)} {x : List UInt8} {q : Int} (h : bB es (.str x) = none) : getM (es ++ [(.str x, q)]) (.str x) = q := by
 unfold getM
 rw [zl h]
 show (match cond (x == x) (some (es.length, q)) none with | some (_, q) => q | none => 0) = q
 rw [beq_self_eq_true]; rfl
theorem zx : ∀ {es : List (V × Int)} {x : List UInt8} {j : Nat} {q q' : Int}, bB es (.str x) = some (j, q) → getM (fC es j q') (.str x) = q'
 | [], _, _, _, _, h => by cases h
 | (y, p) :: es, x, j, q, q', h => by
   unfold bB at h
   cases hb : iF y (.str x) with
   | true =>
     rw [hb] at h
     cases h
     unfold fC getM bB
     rw [hb]; rfl
   | false =>
     rw [hb] at h
     cases hf : bB es (.str x) with
     | none => rw [hf] at h; cases h
     | some r =>
       obtain ⟨j', q1⟩ := r
       rw [hf] at h
       cases h
       have := zx (q' := q') hf
       unfold fC getM bB
       rw [hb]
       unfold getM at this
       cases hg : bB (fC es j' q') (.str x) with
       | none => rw [hg] at this; simpa using this
       | some r => obtain ⟨a, b⟩ := r; rw [hg] at this; simpa using this
abbrev OS : Type := Nat × Tk × Cu × List (List UInt8) × List Nd × List Nat × Nat
structure OInv (k : Nat) (c : Cu) (x : OS) : Prop where
 live : x.2.2.1.live
 s : x.2.2.1.s = c.s
 e : x.2.2.1.e = c.e
 acc : x.2.2.2.2.1.length + 1 + c.p ≤ x.2.2.1.p
 n : x.2.2.1.e - x.2.2.1.p + 1 ≤ x.1
 r : b6 (gv k) c = eu (gv k) x.1 x.2.1 x.2.2.1 x.2.2.2.1 x.2.2.2.2.1
theorem Gs (k : Nat) (hv : eP 41 (il k)) (c : Cu) (l : List V) (d : Int) (hp : c.live ∧ d + k = 32 ∧ (∃ L : List Nd, l = L.map aQ) ∧ l.length + (c.e - c.p) ≤ 100000000) (hc : ¬ ((b6 (gv k) c).1 ≠ 0)) : OK 70 ([.ptr 0 0, .int .i64 d]) ([.cells [.ptr 1 0, .buf 2], .cells (eC c), .buf 4 0 l]) (.tuple []) (some [.cells [.ptr 1 0, .buf 2], .cells (eC (b6 (gv k) c).2.2), .buf 4 0 (l ++ (b6 (gv k) c).2.1.map aQ)]) := by
 refine aq (C := cxq [] [(42, kO), (94, sj), (41, il k)] [9]) (zL trivial ⟨mM, Az, hv, trivial⟩) (fn := Tryz.f70) rfl rfl rfl rfl fun hw hs => ?_
 have hn := fun h => aX hp.1 h
 repeat' ((conv => whnf); first | with_reducible refine gD ?_ (fun h => ?_) fun h => ?_ | (apply al <;> intro h))
 all_goals try conv => whnf
 all_goals try (refine ab.mk ?_; try dsimp only)
 . exact ⟨trivial, hp.1.1, hp.1.2.2⟩
 . exfalso
   unfold b6 at hc
   rw [if_pos (by assumption)] at hc
   exact hc (by assumption)
 . simp only [aP] at *
   have hr : b6 (gv k) c = (0, [], c.next.1) := by unfold b6; rw [if_neg (by assumption), if_pos (by omega)]
   rw [hr]
   refine a8.mk [] ?_ <;> (repeat' first | trivial | apply aj | apply aM)
   simp
 simp only [aP] at *
 have hn := hn (by omega)
 refine bn.mk OS (OInv k c) (fun x => ⟨47, [(0, .ptr 0 0), (1, .int .i64 d), (4, .map 3), (5, .ptr 4 0)], [.cells [.ptr 1 0, .buf 2], .cells (eC x.2.2.1), .buf 4 0 (l ++ x.2.2.2.2.1.map aQ), .map false [.kS] (mK x.2.2.2.1) x.2.2.2.2.2.1 x.2.2.2.2.2.2, .cells (eT x.2.1)], [2]⟩) (fun x => x.1) [] (c.next.1.e - c.next.1.p + 1, c.next.2, c.next.1, [], [], [], 0) ⟨hn.1, hn.2.1, hn.2.2.1, by show 0 + 1 + c.p ≤ c.next.1.p; omega, Nat.le_refl _, by unfold b6; rw [if_neg (by assumption), if_neg (by omega)]⟩ ?_ (fun ⟨n, t, c', ks, acc, bs, ck⟩ hI _ _ => ?_)
 . refine Go.VG.Sub.mk rfl ?_ ?_ ?_ ?_ <;> (repeat' first | trivial | apply aj | apply aM)
   all_goals simp
 obtain ⟨i1, i2, i3, i4, i5, i6⟩ := hI
 dsimp only at i1 i2 i3 i4 i5 i6
 obtain ⟨n, rfl⟩ : ∃ m, n = m + 1 := ⟨n - 1, by omega⟩
 rw [eu] at i6
 obtain ⟨L, hL⟩ := hp.2.2.1
 have hma : (acc.map aQ).length = acc.length := List.length_map ..
 have hpe := i1.1.1
 have hkr := B3 ks t.t
 have hm : d9 t c' ks = 0 := Decidable.byContradiction fun q => by
  rw [if_pos q] at i6
  rw [i6] at hc
  exact hc q
 obtain ⟨m1, m2, m3, m4, m5⟩ := s5 i1 hm
 rw [if_neg (by omega)] at i6
 repeat' ((conv => whnf); first | with_reducible (first | refine go1 (fun j q h => ?_) fun h => ?_ | refine gD ?_ (fun h => ?_) fun h => ?_) | apply jv | apply aV | (apply al <;> intro h))
 all_goals try conv => whnf
 all_goals try (refine ab.mk ?_; try dsimp only)
 all_goals (try simp only [aP, l5, fO] at *)
 all_goals (try (exfalso; have hx : bB (mK ks) (V.str t.t) = some (j, q) := by assumption
                 rw [pZ m2] at hx; cases hx; done))
 . rw [m1]; rfl
 . have hx := ‹getM (mK ks ++ _) _ > 1›
   rw [zw (pZ m2), pY m2] at hx
   exact absurd hx (by decide)
 . exact ⟨by decide, trivial, i1.1, i1.2.2⟩
 . rcases ‹c'.ax ≠ 0 ∨ c'.next.2.k ≠ byte 58› with q | q
   . exact q m3
   . exact q (UInt8.toNat_inj.1 (by rw [m4]; rfl))
 obtain ⟨o1, o2, o3, o4, _⟩ := aX i1 m3
 obtain ⟨u1, u2, u3, u4, _⟩ := aX o1 m5
 have u5 := u1.1.1
 have fit := eX k c'.next.1.next.2 t.t c'.next.1.next.1 u1
 have hkk : mK ks ++ [(V.str t.t, IntKind.i64.wrap (getM (mK ks) (V.str t.t) + 1))] = mK (ks ++ [t.t]) := by rw [pY m2]; exact B0 ks t.t
 refine oZ.last [_, _, _, _, _, _] _ _ rfl rfl rfl rfl rfl ?_
 repeat' ((conv => whnf); first | with_reducible refine gD ?_ (fun h => ?_) fun h => ?_ | apply ak | apply jv | (apply al <;> intro h))
 all_goals try conv => whnf
 all_goals try (refine ab.mk ?_; try dsimp only)
 all_goals (try simp only [aP, l5, fO] at *)
 all_goals unfold bf at i6
 all_goals generalize gv k c'.next.1.next.2 t.t c'.next.1.next.1 = r at *
 . exact ⟨⟨trivial, o1.1, o1.2.2⟩, fun q => q m5⟩
 . exact ⟨⟨by omega, by have := c'.next.1.next.2.k.toNat_lt; omega⟩, u1, hp.2.1, oq hL, by have := hp.2.2.2; rw [List.length_append, hma]; rw [u3, o3, i3] at u5 ⊢; omega⟩
 . rw [if_pos (by assumption)] at i6
   rw [i6] at hc
   exact hc (by assumption)
 . have f := fit (by omega)
   exact ⟨trivial, f.live.1, f.live.2.2⟩
 . rw [if_neg (by assumption), if_pos (by assumption)] at i6
   rw [i6] at hc
   exact hc (by assumption)
 . rw [if_neg (by assumption), if_neg (by assumption), if_pos (by omega)] at i6
   rw [i6]
   refine a8.mk [] ?_ <;> (repeat' first | trivial | apply aj | apply aM)
   rw [List.map_append, List.append_assoc]
 all_goals
  have h44 : r.2.2.next.2.k.toNat = 44 := by
   refine Decidable.byContradiction fun q => hc ?_
   rw [if_neg (by assumption), if_neg (by assumption), if_neg (by omega), if_pos q] at i6
   rw [i6]
   exact (by decide : (3 : Int) ≠ 0)
 . rw [h44]; rfl
 all_goals
  have f := fit (by omega)
  obtain ⟨a1, a2, a3, a4, _⟩ := aX f.live (by omega)
  have f2 := f.p; have f3 := f.e; have f4 := f.len; have f5 := f.s
 . exact ⟨trivial, a1.1, a1.2.2⟩
 . rw [if_neg (by assumption), if_neg (by assumption), if_neg (by omega), if_neg (fun q => q h44), if_pos (by assumption)] at i6
   rw [i6] at hc
   exact hc (by assumption)
 . rw [if_neg (by assumption), if_neg (by assumption), if_neg (by omega), if_neg (fun q => q h44), if_neg (by assumption)] at i6
   obtain ⟨b1, b2, b3, b4, _⟩ := aX a1 (by omega)
   have b5 := b1.1.1
   refine ⟨[], (n, r.2.2.next.1.next.2, r.2.2.next.1.next.1, ks ++ [t.t], acc ++ r.2.1, bs ++ [ck], ck + 1), ⟨b1, by show _ = c.s; rw [b2, a2, f5, u2, o2, i2], by show _ = c.e; rw [b3, a3, f3, u3, o3, i3], by show (acc ++ r.2.1).length + 1 + c.p ≤ r.2.2.next.1.next.1.p; rw [List.length_append]; omega, by show r.2.2.next.1.next.1.e - r.2.2.next.1.next.1.p + 1 ≤ n; rw [b3, a3, f3, u3, o3, i3] at b5 ⊢; rw [i3] at i5; omega, i6⟩, ?_, Nat.lt_succ_self n⟩
   refine Go.VG.Sub.mk rfl ?_ ?_ ?_ ?_ <;> (repeat' first | trivial | apply aj | apply aM)
   all_goals first
    | (rw [hkk]; done)
    | (rw [List.map_append, List.append_assoc]; done)
theorem Jw (k : Nat) (hv : eP 41 (il k)) (c : Cu) (l : List V) (d : Int) (hp : c.live ∧ d + k = 32 ∧ (∃ L : List Nd, l = L.map aQ) ∧ l.length + (c.e - c.p) ≤ 100000000) (hc : (b6 (gv k) c).1 ≠ 0) : mf 70 ([.ptr 0 0, .int .i64 d]) ([.cells [.ptr 1 0, .buf 2], .cells (eC c), .buf 4 0 l]) (.iface 86 (.int .i64 (b6 (gv k) c).1)) (some [.dead, .dead, .dead, .buf 1 0 []]) := by
 refine mV (C := cxq [] [(42, kO), (94, sj), (41, il k)] [9]) (zL trivial ⟨mM, Az, hv, trivial⟩) (fn := Tryz.f70) rfl rfl rfl rfl fun hw hs => ?_
 have hn := fun h => aX hp.1 h
 repeat' ((conv => whnf); first | with_reducible refine gD ?_ (fun h => ?_) fun h => ?_ | apply ak | (apply al <;> intro h))
 all_goals try conv => whnf
 all_goals try (refine ab.mk ?_; try dsimp only)
 . exact ⟨trivial, hp.1.1, hp.1.2.2⟩
 . simp only [aP] at *
   have hr : b6 (gv k) c = (c.ax, [], c) := by unfold b6; rw [if_pos (by assumption)]
   rw [hr]
 . (refine cJ.mk [.nw, .swap 3 4] ?_ <;> (repeat' first | trivial | rfl | apply aj); done)
 . exfalso
   simp only [aP] at *
   have hr : b6 (gv k) c = (0, [], c.next.1) := by unfold b6; rw [if_neg (by assumption), if_pos (by omega)]
   rw [hr] at hc
   exact hc rfl
 simp only [aP] at *
 have hn := hn (by omega)
 refine bn.mk OS (OInv k c) (fun x => ⟨47, [(0, .ptr 0 0), (1, .int .i64 d), (4, .map 3), (5, .ptr 4 0)], [.cells [.ptr 1 0, .buf 2], .cells (eC x.2.2.1), .buf 4 0 (l ++ x.2.2.2.2.1.map aQ), .map false [.kS] (mK x.2.2.2.1) x.2.2.2.2.2.1 x.2.2.2.2.2.2, .cells (eT x.2.1)], [2]⟩) (fun x => x.1) [] (c.next.1.e - c.next.1.p + 1, c.next.2, c.next.1, [], [], [], 0) ⟨hn.1, hn.2.1, hn.2.2.1, by show 0 + 1 + c.p ≤ c.next.1.p; omega, Nat.le_refl _, by unfold b6; rw [if_neg (by assumption), if_neg (by omega)]⟩ ?_ (fun ⟨n, t, c', ks, acc, bs, ck⟩ hI _ _ => ?_)
 . refine Go.VG.Sub.mk rfl ?_ ?_ ?_ ?_ <;> (repeat' first | trivial | apply aj | apply aM)
   all_goals simp
 obtain ⟨i1, i2, i3, i4, i5, i6⟩ := hI
 dsimp only at i1 i2 i3 i4 i5 i6
 obtain ⟨n, rfl⟩ : ∃ m, n = m + 1 := ⟨n - 1, by omega⟩
 rw [eu] at i6
 obtain ⟨L, hL⟩ := hp.2.2.1
 have hma : (acc.map aQ).length = acc.length := List.length_map ..
 have hpe := i1.1.1
 have hkr := B3 ks t.t
 have hme : d9 t c' ks ≠ 0 → b6 (gv k) c = (d9 t c' ks, [], c') := fun q => by rw [if_pos q] at i6; exact i6
 have h8 : ∀ {j q}, bB (mK ks) (V.str t.t) = some (j, q) → t.k.toNat = 115 → d9 t c' ks = 8 := fun hf hk => by unfold d9; rw [if_neg (by omega), if_pos (B4 hf).1]
 have h2 : ∀ {j q}, bB (mK ks) (V.str t.t) = some (j, q) → getM (fC (mK ks) j (IntKind.i64.wrap (getM (mK ks) (V.str t.t) + 1))) (V.str t.t) > 1 := fun hf => by rw [zx hf, B1 (B4 hf).1]; decide
 have h1 : bB (mK ks) (V.str t.t) = none → ¬ getM (mK ks ++ [(V.str t.t, IntKind.i64.wrap (getM (mK ks) (V.str t.t) + 1))]) (V.str t.t) > 1 := fun hf => by rw [zw hf, pY (va hf)]; decide
 repeat' ((conv => whnf); first | with_reducible (first | refine go1 (fun j q h => ?_) fun h => ?_ | refine gD ?_ (fun h => ?_) fun h => ?_) | apply ak | apply aV | (apply al <;> intro h))
 all_goals try conv => whnf
 all_goals try (refine ab.mk ?_; try dsimp only)
 all_goals (try simp only [aP, l5, fO] at *)
 . have e := h8 (by assumption) (by omega)
   rw [hme (by rw [e]; decide)]
   show _ = Value.iface _ (Value.int _ (d9 t c' ks))
   rw [e]
 . (refine cJ.mk [.nw, .swap 3 5] ?_ <;> (repeat' first | trivial | rfl | apply aj); done)
 . exact ⟨by decide, trivial, i1.1, i1.2.2⟩
 . exact absurd (h2 (by assumption)) (by assumption)
 . (refine cJ.mk [.nw, .swap 3 5] ?_ <;> (repeat' first | trivial | rfl | apply aj); done)
 . exact absurd (h2 (by assumption)) (by assumption)
 . exact absurd (by assumption) (h1 (by assumption))
 . (refine cJ.mk [.nw, .swap 3 5] ?_ <;> (repeat' first | trivial | rfl | apply aj); done)
 . exact ⟨by decide, trivial, i1.1, i1.2.2⟩
 . have hq := ‹c'.ax ≠ 0 ∨ c'.next.2.k ≠ byte 58›
   have e : d9 t c' ks = if c'.ax ≠ 0 then c'.ax else 3 := by
    unfold d9
    rw [if_neg (by omega), if_neg (va (by assumption))]
    by_cases q : c'.ax ≠ 0
    . rw [if_pos q, if_pos q]
    . rw [if_neg q, if_neg q, if_pos (fun e => (hq.resolve_left q) (UInt8.toNat_inj.1 (by rw [e]; rfl)))]
   rw [hme (by rw [e]; split <;> first | assumption | decide)]
   show _ = Value.iface _ (Value.int _ (d9 t c' ks))
   rw [e]
 . (refine cJ.mk [.nw, .swap 3 5] ?_ <;> (repeat' first | trivial | rfl | apply aj); done)
 . have hq := ‹¬ (c'.ax ≠ 0 ∨ c'.next.2.k ≠ byte 58)›
   have m2 := va (ks := ks) (x := t.t) (by assumption)
   have m3 : c'.ax = 0 := Decidable.byContradiction fun q => hq (.inl q)
   have m4 : c'.next.2.k.toNat = 58 := Decidable.byContradiction fun q => hq (.inr fun e => q (by rw [e]; rfl))
   have e : d9 t c' ks = c'.next.1.ax := by unfold d9; rw [if_neg (by omega), if_neg m2, if_neg (by omega), if_neg (by omega)]
   obtain ⟨o1, o2, o3, o4, _⟩ := aX i1 m3
   by_cases m5 : c'.next.1.ax = 0
   . rw [if_neg (by omega)] at i6
     obtain ⟨u1, u2, u3, u4, _⟩ := aX o1 m5
     have u5 := u1.1.1
     have fit := eX k c'.next.1.next.2 t.t c'.next.1.next.1 u1
     have hkk : mK ks ++ [(V.str t.t, IntKind.i64.wrap (getM (mK ks) (V.str t.t) + 1))] = mK (ks ++ [t.t]) := by rw [pY m2]; exact B0 ks t.t
     refine oZ.last [_, _, _, _, _, _] _ _ rfl rfl rfl rfl rfl ?_
     repeat' ((conv => whnf); first | with_reducible refine gD ?_ (fun h => ?_) fun h => ?_ | apply ak | (apply al <;> intro h))
     all_goals try conv => whnf
     all_goals try (refine ab.mk ?_; try dsimp only)
     all_goals (try simp only [aP, l5, fO] at *)
     all_goals unfold bf at i6
     all_goals generalize gv k c'.next.1.next.2 t.t c'.next.1.next.1 = r at *
     . exact ⟨⟨trivial, o1.1, o1.2.2⟩, fun q => q m5⟩
     . exact ⟨⟨by omega, by have := c'.next.1.next.2.k.toNat_lt; omega⟩, u1, hp.2.1, oq hL, by have := hp.2.2.2; rw [List.length_append, hma]; rw [u3, o3, i3] at u5 ⊢; omega⟩
     . rw [if_pos (by assumption)] at i6
       rw [i6]
     . (refine cJ.mk [.nw, .swap 3 5] ?_ <;> (repeat' first | trivial | rfl | apply aj); done)
     . have f := fit (by omega)
       exact ⟨trivial, f.live.1, f.live.2.2⟩
     . rw [if_neg (by assumption), if_pos (by assumption)] at i6
       rw [i6]
     . (refine cJ.mk [.nw, .swap 3 5] ?_ <;> (repeat' first | trivial | rfl | apply aj); done)
     . rw [if_neg (by assumption), if_neg (by assumption), if_pos (by omega)] at i6
       rw [i6] at hc
       exact hc rfl
     . have f := fit (by omega)
       obtain ⟨a1, a2, a3, a4, _⟩ := aX f.live (by omega)
       exact ⟨trivial, a1.1, a1.2.2⟩
     . rw [if_neg (by assumption), if_neg (by assumption), if_neg (by omega), if_neg (by omega), if_pos (by assumption)] at i6
       rw [i6]
     . (refine cJ.mk [.nw, .swap 3 5] ?_ <;> (repeat' first | trivial | rfl | apply aj); done)
     . rw [if_neg (by assumption), if_neg (by assumption), if_neg (by omega), if_neg (by omega), if_neg (by assumption)] at i6
       have f := fit (by omega)
       obtain ⟨a1, a2, a3, a4, _⟩ := aX f.live (by omega)
       have f2 := f.p; have f3 := f.e; have f4 := f.len; have f5 := f.s
       obtain ⟨b1, b2, b3, b4, _⟩ := aX a1 (by omega)
       have b5 := b1.1.1
       refine ⟨[], (n, r.2.2.next.1.next.2, r.2.2.next.1.next.1, ks ++ [t.t], acc ++ r.2.1, bs ++ [ck], ck + 1), ⟨b1, by show _ = c.s; rw [b2, a2, f5, u2, o2, i2], by show _ = c.e; rw [b3, a3, f3, u3, o3, i3], by show (acc ++ r.2.1).length + 1 + c.p ≤ r.2.2.next.1.next.1.p; rw [List.length_append]; omega, by show r.2.2.next.1.next.1.e - r.2.2.next.1.next.1.p + 1 ≤ n; rw [b3, a3, f3, u3, o3, i3] at b5 ⊢; rw [i3] at i5; omega, i6⟩, ?_, Nat.lt_succ_self n⟩
       refine Go.VG.Sub.mk rfl ?_ ?_ ?_ ?_ <;> (repeat' first | trivial | apply aj | apply aM)
       all_goals first
        | (rw [hkk]; done)
        | (rw [List.map_append, List.append_assoc]; done)
     . rw [if_neg (by assumption), if_neg (by assumption), if_neg (by omega), if_pos (by omega)] at i6
       rw [i6]
     . (refine cJ.mk [.nw, .swap 3 5] ?_ <;> (repeat' first | trivial | rfl | apply aj); done)
   . rw [if_pos (by omega)] at i6
     refine oZ.pan [_, _, _, _, _, _] [_] 2 _ _ _ _ _ rfl rfl rfl rfl rfl rfl rfl rfl rfl rfl ?_
     repeat' ((conv => whnf); apply ak)
     all_goals try conv => whnf
     all_goals try (refine ab.mk ?_; try dsimp only)
     all_goals (try simp only [aP, l5, fO] at *)
     . exact ⟨⟨trivial, o1.1, o1.2.2⟩, m5⟩
     . rw [i6]
       show _ = Value.iface _ (Value.int _ (d9 t c' ks))
       rw [e]
     . (refine cJ.mk [.nw, .swap 3 5] ?_ <;> (repeat' first | trivial | rfl | apply aj); done)
 . have e : d9 t c' ks = 3 := by unfold d9; rw [if_pos (by omega)]
   rw [hme (by rw [e]; decide)]
   show _ = Value.iface _ (Value.int _ (d9 t c' ks))
   rw [e]
 . (refine cJ.mk [.nw, .swap 3 5] ?_ <;> (repeat' first | trivial | rfl | apply aj); done)
def mY (k : Nat) : eD := fun args σ => match args, σ with
 | [.ptr 0 0, .int .i64 d], [.cells [.ptr 1 0, .buf 2], .cells ([.str s_c, .int .i64 (.ofNat a_c), .int .i64 (.ofNat e_c), .int .i64 c_c]), .buf 4 0 l] => some (True ∧ ((Cu.mk s_c a_c e_c c_c).live ∧ d + k = 32 ∧ (∃ L : List Nd, l = L.map aQ) ∧ l.length + ((Cu.mk s_c a_c e_c c_c).e - (Cu.mk s_c a_c e_c c_c).p) ≤ 100000000), (b6 (gv k) (Cu.mk s_c a_c e_c c_c)).1 ≠ 0, .iface 86 (.int .i64 (b6 (gv k) (Cu.mk s_c a_c e_c c_c)).1), some [.dead, .dead, .dead, .buf 1 0 []], .tuple [], some [.cells [.ptr 1 0, .buf 2], .cells (eC (b6 (gv k) (Cu.mk s_c a_c e_c c_c)).2.2), .buf 4 0 (l ++ (b6 (gv k) (Cu.mk s_c a_c e_c c_c)).2.1.map aQ)])
 | _, _ => none
theorem Is (k : Nat) (hv : eP 41 (il k)) : eP 70 (mY k) := by
 intro args sg pre c u r x r2 he hp
 unfold mY at he
 split at he <;> cases he
 . rw [bZ (hp).1]; exact ⟨fun hc => ⟨_, rfl, Jw (hv := hv) (hp := hp.2) (hc := hc) ..⟩, fun hc => Gs (hv := hv) (hp := hp.2) (hc := hc) ..⟩
end Go.Proofs.YtllncocibkgjkaaGreat
