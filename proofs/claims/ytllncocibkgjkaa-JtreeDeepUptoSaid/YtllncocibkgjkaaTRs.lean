/-
  A part of the proof.
-/
import Derived.Test.YtllncocibkgjkaaTRr
set_option linter.unusedSimpArgs false
set_option linter.unusedVariables false
set_option maxHeartbeats 4000000
namespace Go.Proofs.Ytllncocibkgjkaa
open Go Go.VG
set_option maxRecDepth 100000
structure DO (k : Nat) (s0 : Sx) (i m : Nat) (s : Sx) (ks : List (List UInt8)) (acc : List Nd) : Prop where
 j : i + m = s0.1.length + 1
 n : s.1.length + 1 ≤ m
 a : acc.length + s.1.length ≤ s0.1.length
 b : ks.length ≤ i
 r : aY (aq k) 125 s0 = di (aq k) m s ks acc
theorem F6 (k : Nat) (hv : aD 60 (jO k)) (s : Sx) (d : Int) (hp : d + k = 32 ∧ s.1.length ≤ 10000000) : OK 85 [fP s, .int .u8 125, .int .i64 d] [] (.tuple [.buf 0, fP (aY (aq k) 125 s).2.2, .int .i64 (aY (aq k) 125 s).1]) (some [cD (aY (aq k) 125 s).2.1]) := by
 refine aC (C := cx [(84, ot), (60, jO k), (104, sr)]) (ay ⟨rn, hv, zH, trivial⟩) (fn := Try.f85) rfl rfl rfl rfl fun hw hs => ?_
 have hml : (s.1.map vT).length = s.1.length := List.length_map _
 have hst : ¬ (aw s = 0 ∧ (af s).k.toNat = 125) → aY (aq k) 125 s = di (aq k) (s.1.length + 1) s [] [] := fun h => by unfold aY; rw [if_neg h, if_pos rfl]
 repeat' ((conv => whnf); first | apply al | (apply ao <;> intro h))
 all_goals try conv => whnf
 all_goals try (refine ae.mk ?_; try dsimp only)
 all_goals (try simp only [gG, bT, iW, fq] at *)
 all_goals first | refine stay ?_ | (exact ⟨gn, trivial⟩) | skip
 . have h0 := ‹aw s = 0›
   have hr : aY (aq k) 125 s = (0, [], aa s) := by
    unfold aY
    rw [if_pos ⟨h0, by have h := ‹_ = (125 : Int)›; rw [if_pos h0] at h; omega⟩]
   rw [hr]
   (refine a8.mk [.tm 6 4, .swap 0 4] ?_ <;> (repeat' first | trivial | rfl | refine And.intro ?_ ?_))
 . have h0 := ‹aw s = 0›
   have hst := hst fun q => by have h := ‹¬ _ = (125 : Int)›; rw [if_pos h0] at h; have := q.2; omega
   refine bn.mk (Nat × Nat × Sx × List (List UInt8) × List Nd × Tk × Sx) (fun x => DO k s x.1 x.2.1 x.2.2.1 x.2.2.2.1 x.2.2.2.2.1) (fun x => ⟨129, [(1, .int .u8 125), (2, .int .i64 d), (3, .ptr 0 0), (6, .list true 0 []), (7, .ptr 1 0), (9, .buf 4), (10, .buf 5), (11, .ptr 2 0), (12, .ptr 3 0), (14, .int .i64 s.1.length), (15, .int .i64 x.1)], [.cells (lJ x.2.2.1), .cells [.list true 0 [], .int .i64 0], .cells (eT x.2.2.2.2.2.1), .cells (lJ x.2.2.2.2.2.2), cD x.2.2.2.2.1, lY x.2.2.2.1], [4, 5]⟩) (fun x => x.2.1) [.tm 9 4, .tm 10 1] (0, s.1.length + 1, s, [], [], (if aw s = 0 then af s else default), aa s) ⟨by show 0 + (s.1.length + 1) = _; omega, Nat.le_refl _, by show 0 + s.1.length ≤ _; omega, Nat.le_refl _, hst⟩ ?_ (fun ⟨i, n, s', ks, acc, tk, rs⟩ hI _ _ => ?_)
   . refine Go.VG.Sub.mk rfl ?_ ?_ ?_ ?_ <;> (repeat' first | trivial | apply aj | apply aQ)
     all_goals (simp only [gG, hml]; done)
   obtain ⟨i1, i2, i3, i5, i4⟩ := hI
   dsimp only at i1 i2 i3 i4 i5
   obtain ⟨n, rfl⟩ : ∃ m, n = m + 1 := ⟨n - 1, by omega⟩
   rw [di] at i4
   have nd := nb k (af s').t (aa (aa s'))
   have hml' : (s'.1.map vT).length = s'.1.length := List.length_map _
   have hml2 : ((aa (aa s')).1.map vT).length = (aa (aa s')).1.length := List.length_map _
   have hma : (acc.map aH).length = acc.length := List.length_map _
   have hmk : (ks.map V.str).length = ks.length := List.length_map _
   have hmv : ((aq k (af s').t (aa (aa s'))).2.1.map aH).length = (aq k (af s').t (aa (aa s'))).2.1.length := List.length_map _
   have hs1 := d9 s'
   have hs2 := d9 (aa s')
   have hA0 : aw s' ≠ 0 → aY (aq k) 125 s = (aw s', [], s') := fun h => by
    rw [i4, show dR s' ks = aw s' by unfold dR; rw [if_pos h], if_pos h]
   have hA1 : aw s' = 0 → (af s').k.toNat ≠ 115 → aY (aq k) 125 s = (3, [], s') := fun h h2 => by
    rw [i4, show dR s' ks = 3 by unfold dR; rw [if_neg (by omega), if_pos h2], if_pos (by decide)]
   have hA2 : aw s' = 0 → (af s').k.toNat = 115 → (af s').t ∈ ks → aY (aq k) 125 s = (8, [], s') := fun h h2 h3 => by
    rw [i4, show dR s' ks = 8 by unfold dR; rw [if_neg (by omega), if_neg (by omega), if_pos h3], if_pos (by decide)]
   have hK : aw s' = 0 → (af s').k.toNat = 115 → ¬ (af s').t ∈ ks → dR s' ks = 0 := fun h h2 h3 => by unfold dR; rw [if_neg (by omega), if_neg (by omega), if_neg h3]
   have hB0 : aw s' = 0 → (af s').k.toNat = 115 → ¬ (af s').t ∈ ks → aw (aa s') ≠ 0 → aY (aq k) 125 s = (aw (aa s'), [], aa (aa s')) := fun h h2 h3 h4 => by
    rw [i4, hK h h2 h3, if_neg (by decide), show fH (aa s') = aw (aa s') by unfold fH; rw [if_pos h4], if_pos h4]
   have hB1 : aw s' = 0 → (af s').k.toNat = 115 → ¬ (af s').t ∈ ks → aw (aa s') = 0 → (af (aa s')).k.toNat ≠ 58 → aY (aq k) 125 s = (3, [], aa (aa s')) := fun h h2 h3 h4 h5 => by
    rw [i4, hK h h2 h3, if_neg (by decide), show fH (aa s') = 3 by unfold fH; rw [if_neg (by omega), if_pos h5], if_pos (by decide)]
   have hCD : aw (aa s') = 0 → (af (aa s')).k.toNat = 58 → fH (aa s') = 0 := fun h4 h5 => by unfold fH; rw [if_neg (by omega), if_neg (by omega)]
   have hC : aw s' = 0 → (af s').k.toNat = 115 → ¬ (af s').t ∈ ks → aw (aa s') = 0 → (af (aa s')).k.toNat = 58 → aY (aq k) 125 s =
      if (aq k (af s').t (aa (aa s'))).1 ≠ 0 then ((aq k (af s').t (aa (aa s'))).1, [], aa (aa s'))
      else if bC 125 (aq k (af s').t (aa (aa s'))) ≠ 0 then (bC 125 (aq k (af s').t (aa (aa s'))), [], aa (aq k (af s').t (aa (aa s'))).2.2)
      else if (af (aq k (af s').t (aa (aa s'))).2.2).k.toNat = 125 then (0, acc ++ (aq k (af s').t (aa (aa s'))).2.1, aa (aq k (af s').t (aa (aa s'))).2.2)
      else di (aq k) n (aa (aq k (af s').t (aa (aa s'))).2.2) (ks ++ [(af s').t]) (acc ++ (aq k (af s').t (aa (aa s'))).2.1) := fun h h2 h3 h4 h5 => by
    rw [i4, hK h h2 h3, if_neg (by decide), hCD h4 h5, if_neg (by decide)]
   clear i4 hCD hK
   repeat' ((conv => whnf); first | apply al | apply aZ | (apply ao <;> intro h))
   all_goals try conv => whnf
   all_goals try (refine ae.mk ?_; try dsimp only)
   all_goals (try simp only [gG, bT, iW, fq] at *)
   all_goals (try (exfalso; omega))
   all_goals (try rw [if_pos (show aw s' = 0 by assumption)] at *)
   all_goals (try rw [if_pos (show aw (aa s') = 0 by assumption)] at *)
   all_goals generalize hR : aq k (af s').t (aa (aa s')) = R at *
   all_goals (try rw [if_pos (show aw R.2.2 = 0 by assumption)] at *)
   all_goals first | refine stay ?_ | (exact ⟨gn, trivial⟩) | omega | (simp only [d7]; omega) | skip
   all_goals (try (exfalso; omega))
   . exact ⟨AJ, by omega⟩
   . rw [hA2 (by assumption) (by omega) (by assumption)]
     (refine a8.mk [.tm 6 4, .swap 0 6] ?_ <;> (repeat' first | trivial | rfl | refine And.intro ?_ ?_))
   . exact ⟨gn, hp.1, by rw [hml2]; omega⟩
   all_goals (try have hC := hC (by assumption) (by omega) (by assumption) (by assumption) (by omega))
   . have b1 : aw R.2.2 = 0 := by assumption
     have b3 : (af R.2.2).k.toNat = 125 := by omega
     have hb : bC 125 R = 0 := by unfold bC; rw [if_neg (by omega), if_pos b3]
     rw [hC, if_neg (by omega), if_neg (by omega), if_pos b3]
     refine a8.mk [.swap 0 4] ?_ <;> (repeat' first | trivial | apply aj | apply aV)
     exact (List.map_append ..).symm
   . have b1 : aw R.2.2 = 0 := by assumption
     have b3 : ¬ (af R.2.2).k.toNat = 125 := by omega
     have b4 : ¬ (af R.2.2).k.toNat ≠ 44 := by omega
     have hb : bC 125 R = 0 := by unfold bC; rw [if_neg (by omega), if_neg b3, if_neg b4]
     rw [if_neg (by omega), if_neg (by omega), if_neg b3] at hC
     have hp0 := jQ b1
     have hr := d9 R.2.2
     have nd := nd (by assumption)
     refine ⟨[], (i + 1, n, aa R.2.2, ks ++ [(af s').t], acc ++ R.2.1, af R.2.2, aa s'), ⟨by show i + 1 + n = _; omega, by show (aa R.2.2).1.length + 1 ≤ n; omega, by show (acc ++ R.2.1).length + (aa R.2.2).1.length ≤ _; rw [List.length_append]; omega, by show (ks ++ [_]).length ≤ i + 1; rw [List.length_append, List.length_singleton]; omega, hC⟩, ?_, Nat.lt_succ_self n⟩
     refine Go.VG.Sub.mk rfl ?_ ?_ ?_ ?_ <;> (repeat' first | trivial | apply aj | apply aQ | apply aV)
     all_goals first
      | (first | (simp (discharger := omega) only [wR]; omega) | (simp (discharger := omega) [-List.getD_eq_getElem?_getD, wR] <;> omega))
      | exact (List.map_append ..).symm
   . have hb : bC 125 R = 3 := by unfold bC; rw [if_neg (by omega), if_neg (by omega), if_pos (by omega)]
     rw [hC, if_neg (by omega), hb, if_pos (by decide)]
     (refine a8.mk [.tm 6 4, .swap 0 8] ?_ <;> (repeat' first | trivial | rfl | refine And.intro ?_ ?_))
   . have b1 : aw R.2.2 ≠ 0 := by assumption
     have hb : bC 125 R = aw R.2.2 := by unfold bC; rw [if_pos b1]
     rw [hC, if_neg (by omega), hb, if_pos b1]
     (refine a8.mk [.tm 6 4, .swap 0 8] ?_ <;> (repeat' first | trivial | rfl | refine And.intro ?_ ?_))
   . rw [hC, if_pos (by assumption)]
     (refine a8.mk [.tm 6 4, .swap 0 8] ?_ <;> (repeat' first | trivial | rfl | refine And.intro ?_ ?_))
   . rw [hB1 (by assumption) (by omega) (by assumption) (by assumption) (by omega)]
     (refine a8.mk [.tm 6 4, .swap 0 6] ?_ <;> (repeat' first | trivial | rfl | refine And.intro ?_ ?_))
   . rw [hB0 (by assumption) (by omega) (by assumption) (by assumption)]
     (refine a8.mk [.tm 6 4, .swap 0 6] ?_ <;> (repeat' first | trivial | rfl | refine And.intro ?_ ?_))
   . rw [hA1 (by assumption) (by omega)]
     (refine a8.mk [.tm 6 4, .swap 0 6] ?_ <;> (repeat' first | trivial | rfl | refine And.intro ?_ ?_))
   . rw [hA0 (by assumption)]
     (refine a8.mk [.tm 6 4, .swap 0 6] ?_ <;> (repeat' first | trivial | rfl | refine And.intro ?_ ?_))
 . have hst := hst fun q => ‹¬ aw s = 0› q.1
   refine bn.mk (Nat × Nat × Sx × List (List UInt8) × List Nd × Tk × Sx) (fun x => DO k s x.1 x.2.1 x.2.2.1 x.2.2.2.1 x.2.2.2.2.1) (fun x => ⟨129, [(1, .int .u8 125), (2, .int .i64 d), (3, .ptr 0 0), (6, .list true 0 []), (7, .ptr 1 0), (9, .buf 4), (10, .buf 5), (11, .ptr 2 0), (12, .ptr 3 0), (14, .int .i64 s.1.length), (15, .int .i64 x.1)], [.cells (lJ x.2.2.1), .cells [.list true 0 [], .int .i64 0], .cells (eT x.2.2.2.2.2.1), .cells (lJ x.2.2.2.2.2.2), cD x.2.2.2.2.1, lY x.2.2.2.1], [4, 5]⟩) (fun x => x.2.1) [.tm 9 4, .tm 10 1] (0, s.1.length + 1, s, [], [], (if aw s = 0 then af s else default), aa s) ⟨by show 0 + (s.1.length + 1) = _; omega, Nat.le_refl _, by show 0 + s.1.length ≤ _; omega, Nat.le_refl _, hst⟩ ?_ (fun ⟨i, n, s', ks, acc, tk, rs⟩ hI _ _ => ?_)
   . refine Go.VG.Sub.mk rfl ?_ ?_ ?_ ?_ <;> (repeat' first | trivial | apply aj | apply aQ)
     all_goals (simp only [gG, hml]; done)
   obtain ⟨i1, i2, i3, i5, i4⟩ := hI
   dsimp only at i1 i2 i3 i4 i5
   obtain ⟨n, rfl⟩ : ∃ m, n = m + 1 := ⟨n - 1, by omega⟩
   rw [di] at i4
   have nd := nb k (af s').t (aa (aa s'))
   have hml' : (s'.1.map vT).length = s'.1.length := List.length_map _
   have hml2 : ((aa (aa s')).1.map vT).length = (aa (aa s')).1.length := List.length_map _
   have hma : (acc.map aH).length = acc.length := List.length_map _
   have hmk : (ks.map V.str).length = ks.length := List.length_map _
   have hmv : ((aq k (af s').t (aa (aa s'))).2.1.map aH).length = (aq k (af s').t (aa (aa s'))).2.1.length := List.length_map _
   have hs1 := d9 s'
   have hs2 := d9 (aa s')
   have hA0 : aw s' ≠ 0 → aY (aq k) 125 s = (aw s', [], s') := fun h => by
    rw [i4, show dR s' ks = aw s' by unfold dR; rw [if_pos h], if_pos h]
   have hA1 : aw s' = 0 → (af s').k.toNat ≠ 115 → aY (aq k) 125 s = (3, [], s') := fun h h2 => by
    rw [i4, show dR s' ks = 3 by unfold dR; rw [if_neg (by omega), if_pos h2], if_pos (by decide)]
   have hA2 : aw s' = 0 → (af s').k.toNat = 115 → (af s').t ∈ ks → aY (aq k) 125 s = (8, [], s') := fun h h2 h3 => by
    rw [i4, show dR s' ks = 8 by unfold dR; rw [if_neg (by omega), if_neg (by omega), if_pos h3], if_pos (by decide)]
   have hK : aw s' = 0 → (af s').k.toNat = 115 → ¬ (af s').t ∈ ks → dR s' ks = 0 := fun h h2 h3 => by unfold dR; rw [if_neg (by omega), if_neg (by omega), if_neg h3]
   have hB0 : aw s' = 0 → (af s').k.toNat = 115 → ¬ (af s').t ∈ ks → aw (aa s') ≠ 0 → aY (aq k) 125 s = (aw (aa s'), [], aa (aa s')) := fun h h2 h3 h4 => by
    rw [i4, hK h h2 h3, if_neg (by decide), show fH (aa s') = aw (aa s') by unfold fH; rw [if_pos h4], if_pos h4]
   have hB1 : aw s' = 0 → (af s').k.toNat = 115 → ¬ (af s').t ∈ ks → aw (aa s') = 0 → (af (aa s')).k.toNat ≠ 58 → aY (aq k) 125 s = (3, [], aa (aa s')) := fun h h2 h3 h4 h5 => by
    rw [i4, hK h h2 h3, if_neg (by decide), show fH (aa s') = 3 by unfold fH; rw [if_neg (by omega), if_pos h5], if_pos (by decide)]
   have hCD : aw (aa s') = 0 → (af (aa s')).k.toNat = 58 → fH (aa s') = 0 := fun h4 h5 => by unfold fH; rw [if_neg (by omega), if_neg (by omega)]
   have hC : aw s' = 0 → (af s').k.toNat = 115 → ¬ (af s').t ∈ ks → aw (aa s') = 0 → (af (aa s')).k.toNat = 58 → aY (aq k) 125 s =
      if (aq k (af s').t (aa (aa s'))).1 ≠ 0 then ((aq k (af s').t (aa (aa s'))).1, [], aa (aa s'))
      else if bC 125 (aq k (af s').t (aa (aa s'))) ≠ 0 then (bC 125 (aq k (af s').t (aa (aa s'))), [], aa (aq k (af s').t (aa (aa s'))).2.2)
      else if (af (aq k (af s').t (aa (aa s'))).2.2).k.toNat = 125 then (0, acc ++ (aq k (af s').t (aa (aa s'))).2.1, aa (aq k (af s').t (aa (aa s'))).2.2)
      else di (aq k) n (aa (aq k (af s').t (aa (aa s'))).2.2) (ks ++ [(af s').t]) (acc ++ (aq k (af s').t (aa (aa s'))).2.1) := fun h h2 h3 h4 h5 => by
    rw [i4, hK h h2 h3, if_neg (by decide), hCD h4 h5, if_neg (by decide)]
   clear i4 hCD hK
   repeat' ((conv => whnf); first | apply al | apply aZ | (apply ao <;> intro h))
   all_goals try conv => whnf
   all_goals try (refine ae.mk ?_; try dsimp only)
   all_goals (try simp only [gG, bT, iW, fq] at *)
   all_goals (try (exfalso; omega))
   all_goals (try rw [if_pos (show aw s' = 0 by assumption)] at *)
   all_goals (try rw [if_pos (show aw (aa s') = 0 by assumption)] at *)
   all_goals generalize hR : aq k (af s').t (aa (aa s')) = R at *
   all_goals (try rw [if_pos (show aw R.2.2 = 0 by assumption)] at *)
   all_goals first | refine stay ?_ | (exact ⟨gn, trivial⟩) | omega | (simp only [d7]; omega) | skip
   all_goals (try (exfalso; omega))
   . exact ⟨AJ, by omega⟩
   . rw [hA2 (by assumption) (by omega) (by assumption)]
     (refine a8.mk [.tm 6 4, .swap 0 6] ?_ <;> (repeat' first | trivial | rfl | refine And.intro ?_ ?_))
   . exact ⟨gn, hp.1, by rw [hml2]; omega⟩
   all_goals (try have hC := hC (by assumption) (by omega) (by assumption) (by assumption) (by omega))
   . have b1 : aw R.2.2 = 0 := by assumption
     have b3 : (af R.2.2).k.toNat = 125 := by omega
     have hb : bC 125 R = 0 := by unfold bC; rw [if_neg (by omega), if_pos b3]
     rw [hC, if_neg (by omega), if_neg (by omega), if_pos b3]
     refine a8.mk [.swap 0 4] ?_ <;> (repeat' first | trivial | apply aj | apply aV)
     exact (List.map_append ..).symm
   . have b1 : aw R.2.2 = 0 := by assumption
     have b3 : ¬ (af R.2.2).k.toNat = 125 := by omega
     have b4 : ¬ (af R.2.2).k.toNat ≠ 44 := by omega
     have hb : bC 125 R = 0 := by unfold bC; rw [if_neg (by omega), if_neg b3, if_neg b4]
     rw [if_neg (by omega), if_neg (by omega), if_neg b3] at hC
     have hp0 := jQ b1
     have hr := d9 R.2.2
     have nd := nd (by assumption)
     refine ⟨[], (i + 1, n, aa R.2.2, ks ++ [(af s').t], acc ++ R.2.1, af R.2.2, aa s'), ⟨by show i + 1 + n = _; omega, by show (aa R.2.2).1.length + 1 ≤ n; omega, by show (acc ++ R.2.1).length + (aa R.2.2).1.length ≤ _; rw [List.length_append]; omega, by show (ks ++ [_]).length ≤ i + 1; rw [List.length_append, List.length_singleton]; omega, hC⟩, ?_, Nat.lt_succ_self n⟩
     refine Go.VG.Sub.mk rfl ?_ ?_ ?_ ?_ <;> (repeat' first | trivial | apply aj | apply aQ | apply aV)
     all_goals first
      | (first | (simp (discharger := omega) only [wR]; omega) | (simp (discharger := omega) [-List.getD_eq_getElem?_getD, wR] <;> omega))
      | exact (List.map_append ..).symm
   . have hb : bC 125 R = 3 := by unfold bC; rw [if_neg (by omega), if_neg (by omega), if_pos (by omega)]
     rw [hC, if_neg (by omega), hb, if_pos (by decide)]
     (refine a8.mk [.tm 6 4, .swap 0 8] ?_ <;> (repeat' first | trivial | rfl | refine And.intro ?_ ?_))
   . have b1 : aw R.2.2 ≠ 0 := by assumption
     have hb : bC 125 R = aw R.2.2 := by unfold bC; rw [if_pos b1]
     rw [hC, if_neg (by omega), hb, if_pos b1]
     (refine a8.mk [.tm 6 4, .swap 0 8] ?_ <;> (repeat' first | trivial | rfl | refine And.intro ?_ ?_))
   . rw [hC, if_pos (by assumption)]
     (refine a8.mk [.tm 6 4, .swap 0 8] ?_ <;> (repeat' first | trivial | rfl | refine And.intro ?_ ?_))
   . rw [hB1 (by assumption) (by omega) (by assumption) (by assumption) (by omega)]
     (refine a8.mk [.tm 6 4, .swap 0 6] ?_ <;> (repeat' first | trivial | rfl | refine And.intro ?_ ?_))
   . rw [hB0 (by assumption) (by omega) (by assumption) (by assumption)]
     (refine a8.mk [.tm 6 4, .swap 0 6] ?_ <;> (repeat' first | trivial | rfl | refine And.intro ?_ ?_))
   . rw [hA1 (by assumption) (by omega)]
     (refine a8.mk [.tm 6 4, .swap 0 6] ?_ <;> (repeat' first | trivial | rfl | refine And.intro ?_ ?_))
   . rw [hA0 (by assumption)]
     (refine a8.mk [.tm 6 4, .swap 0 6] ?_ <;> (repeat' first | trivial | rfl | refine And.intro ?_ ?_))
def su (k : Nat) : Sm := fun args σ => match args, σ with
 | [.agg [.list false 2 l, .int .i64 e], .int .u8 a, .int .i64 d], [] => some (nW l ∧ (a = 93 ∨ a = 125) ∧ d + k = 32 ∧ l.length ≤ 10000000, .tuple [.buf 0, fP (aY (aq k) a.toNat (cN l, e)).2.2, .int .i64 (aY (aq k) a.toNat (cN l, e)).1], some [cD (aY (aq k) a.toNat (cN l, e)).2.1])
 | _, _ => none
-- #name r13inner truchmanref13.inner
theorem GY (k : Nat) (hv : aD 60 (jO k)) : aD 85 (su k) := by
 intro args sg pre x r he hp
 unfold su at he
 split at he <;> cases he
 rename_i l e a d
 obtain ⟨h1, h2, h3, h4⟩ := hp
 have el : (cN l).length = l.length := by have h := congrArg List.length h1; rw [List.length_map] at h; exact h.symm
 rw [sJ h1]
 rcases h2 with rfl | rfl
 . exact F5 k hv (cN l, e) d ⟨h3, by show (cN l).length ≤ _; omega⟩
 . exact F6 k hv (cN l, e) d ⟨h3, by show (cN l).length ≤ _; omega⟩
end Go.Proofs.Ytllncocibkgjkaa
