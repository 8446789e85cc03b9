/-
  A part of the proof.
-/
import Derived.Test.YtllncocibkgjkaaGreatTRr
set_option linter.unusedSimpArgs false
set_option linter.unusedVariables false
set_option maxHeartbeats 4000000
namespace Go.Proofs.YtllncocibkgjkaaGreat
open Go Go.VG
set_option maxRecDepth 100000
structure DO (k : Nat) (s0 : Sx) (i m : Nat) (s : Sx) (ks : List (List UInt8)) (acc : List Nd) : Prop where
 j : i + m = s0.1.length + 1
 n : s.1.length + 1 ≤ m
 a : acc.length + s.1.length ≤ s0.1.length
 b : ks.length ≤ i
 r : aY (ao k) 125 s0 = dj (ao k) m s ks acc
theorem Ge (k : Nat) (hv : ay 37 (kf k)) (s : Sx) (d : Int) (hp : d + k = 32 ∧ s.1.length ≤ 10000000) : OK 65 [fU s, .int .u8 125, .int .i64 d] [] (.tuple [.buf 0, fU (aY (ao k) 125 s).2.2, .int .i64 (aY (ao k) 125 s).1]) (some [fJ (aY (ao k) 125 s).2.1]) := by
 refine aq (C := cx [(64, oN), (37, kf k), (92, tc)]) (ar ⟨rK, hv, Al, trivial⟩) (fn := Tryz.f65) rfl rfl rfl rfl fun hw hs => ?_
 have hml : (s.1.map vT).length = s.1.length := List.length_map _
 have hst : ¬ (az s = 0 ∧ (ae s).k.toNat = 125) → aY (ao k) 125 s = dj (ao k) (s.1.length + 1) s [] [] := fun h => by unfold aY; rw [if_neg h, if_pos rfl]
 repeat' ((conv => whnf); first | apply ak | (apply al <;> intro h))
 all_goals try conv => whnf
 all_goals try (refine ab.mk ?_; try dsimp only)
 all_goals (try simp only [iM, du, km, fO] at *)
 all_goals first | refine stay ?_ | (exact ⟨gH, trivial⟩) | skip
 . have h0 := ‹az s = 0›
   have hr : aY (ao k) 125 s = (0, [], aa s) := by
    unfold aY
    rw [if_pos ⟨h0, by have h := ‹_ = (125 : Int)›; rw [if_pos h0] at h; omega⟩]
   rw [hr]
   (refine a8.mk [.tm 6 4, .swap 0 4] ?_ <;> (repeat' first | trivial | rfl | refine And.intro ?_ ?_))
 . have h0 := ‹az s = 0›
   have hst := hst fun q => by have h := ‹¬ _ = (125 : Int)›; rw [if_pos h0] at h; have := q.2; omega
   refine bn.mk (Nat × Nat × Sx × List (List UInt8) × List Nd × Tk × Sx) (fun x => DO k s x.1 x.2.1 x.2.2.1 x.2.2.2.1 x.2.2.2.2.1) (fun x => ⟨129, [(1, .int .u8 125), (2, .int .i64 d), (3, .ptr 0 0), (6, .list true 0 []), (7, .ptr 1 0), (9, .buf 4), (10, .buf 5), (11, .ptr 2 0), (12, .ptr 3 0), (14, .int .i64 s.1.length), (15, .int .i64 x.1)], [.cells (m8 x.2.2.1), .cells [.list true 0 [], .int .i64 0], .cells (eT x.2.2.2.2.2.1), .cells (m8 x.2.2.2.2.2.2), fJ x.2.2.2.2.1, mq x.2.2.2.1], [4, 5]⟩) (fun x => x.2.1) [.tm 9 4, .tm 10 1] (0, s.1.length + 1, s, [], [], (if az s = 0 then ae s else default), aa s) ⟨by show 0 + (s.1.length + 1) = _; omega, Nat.le_refl _, by show 0 + s.1.length ≤ _; omega, Nat.le_refl _, hst⟩ ?_ (fun ⟨i, n, s', ks, acc, tk, rs⟩ hI _ _ => ?_)
   . refine Go.VG.Sub.mk rfl ?_ ?_ ?_ ?_ <;> (repeat' first | trivial | apply aj | apply aR)
     all_goals (simp only [iM, hml]; done)
   obtain ⟨i1, i2, i3, i5, i4⟩ := hI
   dsimp only at i1 i2 i3 i4 i5
   obtain ⟨n, rfl⟩ : ∃ m, n = m + 1 := ⟨n - 1, by omega⟩
   rw [dj] at i4
   have nd := nv k (ae s').t (aa (aa s'))
   have hml' : (s'.1.map vT).length = s'.1.length := List.length_map _
   have hml2 : ((aa (aa s')).1.map vT).length = (aa (aa s')).1.length := List.length_map _
   have hma : (acc.map aQ).length = acc.length := List.length_map _
   have hmk : (ks.map V.str).length = ks.length := List.length_map _
   have hmv : ((ao k (ae s').t (aa (aa s'))).2.1.map aQ).length = (ao k (ae s').t (aa (aa s'))).2.1.length := List.length_map _
   have hs1 := da s'
   have hs2 := da (aa s')
   have hA0 : az s' ≠ 0 → aY (ao k) 125 s = (az s', [], s') := fun h => by
    rw [i4, show dU s' ks = az s' by unfold dU; rw [if_pos h], if_pos h]
   have hA1 : az s' = 0 → (ae s').k.toNat ≠ 115 → aY (ao k) 125 s = (3, [], s') := fun h h2 => by
    rw [i4, show dU s' ks = 3 by unfold dU; rw [if_neg (by omega), if_pos h2], if_pos (by decide)]
   have hA2 : az s' = 0 → (ae s').k.toNat = 115 → (ae s').t ∈ ks → aY (ao k) 125 s = (8, [], s') := fun h h2 h3 => by
    rw [i4, show dU s' ks = 8 by unfold dU; rw [if_neg (by omega), if_neg (by omega), if_pos h3], if_pos (by decide)]
   have hK : az s' = 0 → (ae s').k.toNat = 115 → ¬ (ae s').t ∈ ks → dU s' ks = 0 := fun h h2 h3 => by unfold dU; rw [if_neg (by omega), if_neg (by omega), if_neg h3]
   have hB0 : az s' = 0 → (ae s').k.toNat = 115 → ¬ (ae s').t ∈ ks → az (aa s') ≠ 0 → aY (ao k) 125 s = (az (aa s'), [], aa (aa s')) := fun h h2 h3 h4 => by
    rw [i4, hK h h2 h3, if_neg (by decide), show fI (aa s') = az (aa s') by unfold fI; rw [if_pos h4], if_pos h4]
   have hB1 : az s' = 0 → (ae s').k.toNat = 115 → ¬ (ae s').t ∈ ks → az (aa s') = 0 → (ae (aa s')).k.toNat ≠ 58 → aY (ao k) 125 s = (3, [], aa (aa s')) := fun h h2 h3 h4 h5 => by
    rw [i4, hK h h2 h3, if_neg (by decide), show fI (aa s') = 3 by unfold fI; rw [if_neg (by omega), if_pos h5], if_pos (by decide)]
   have hCD : az (aa s') = 0 → (ae (aa s')).k.toNat = 58 → fI (aa s') = 0 := fun h4 h5 => by unfold fI; rw [if_neg (by omega), if_neg (by omega)]
   have hC : az s' = 0 → (ae s').k.toNat = 115 → ¬ (ae s').t ∈ ks → az (aa s') = 0 → (ae (aa s')).k.toNat = 58 → aY (ao k) 125 s =
      if (ao k (ae s').t (aa (aa s'))).1 ≠ 0 then ((ao k (ae s').t (aa (aa s'))).1, [], aa (aa s'))
      else if bz 125 (ao k (ae s').t (aa (aa s'))) ≠ 0 then (bz 125 (ao k (ae s').t (aa (aa s'))), [], aa (ao k (ae s').t (aa (aa s'))).2.2)
      else if (ae (ao k (ae s').t (aa (aa s'))).2.2).k.toNat = 125 then (0, acc ++ (ao k (ae s').t (aa (aa s'))).2.1, aa (ao k (ae s').t (aa (aa s'))).2.2)
      else dj (ao k) n (aa (ao k (ae s').t (aa (aa s'))).2.2) (ks ++ [(ae s').t]) (acc ++ (ao k (ae s').t (aa (aa s'))).2.1) := fun h h2 h3 h4 h5 => by
    rw [i4, hK h h2 h3, if_neg (by decide), hCD h4 h5, if_neg (by decide)]
   clear i4 hCD hK
   repeat' ((conv => whnf); first | apply ak | apply aV | (apply al <;> intro h))
   all_goals try conv => whnf
   all_goals try (refine ab.mk ?_; try dsimp only)
   all_goals (try simp only [iM, du, km, fO] at *)
   all_goals (try (exfalso; omega))
   all_goals (try rw [if_pos (show az s' = 0 by assumption)] at *)
   all_goals (try rw [if_pos (show az (aa s') = 0 by assumption)] at *)
   all_goals generalize hR : ao k (ae s').t (aa (aa s')) = R at *
   all_goals (try rw [if_pos (show az R.2.2 = 0 by assumption)] at *)
   all_goals first | refine stay ?_ | (exact ⟨gH, trivial⟩) | omega | (simp only [cK]; omega) | skip
   all_goals (try (exfalso; omega))
   . exact ⟨Bp, by omega⟩
   . rw [hA2 (by assumption) (by omega) (by assumption)]
     (refine a8.mk [.tm 6 4, .swap 0 6] ?_ <;> (repeat' first | trivial | rfl | refine And.intro ?_ ?_))
   . exact ⟨gH, hp.1, by rw [hml2]; omega⟩
   all_goals (try have hC := hC (by assumption) (by omega) (by assumption) (by assumption) (by omega))
   . have b1 : az R.2.2 = 0 := by assumption
     have b3 : (ae R.2.2).k.toNat = 125 := by omega
     have hb : bz 125 R = 0 := by unfold bz; rw [if_neg (by omega), if_pos b3]
     rw [hC, if_neg (by omega), if_neg (by omega), if_pos b3]
     refine a8.mk [.swap 0 4] ?_ <;> (repeat' first | trivial | apply aj | apply aM)
     exact (List.map_append ..).symm
   . have b1 : az R.2.2 = 0 := by assumption
     have b3 : ¬ (ae R.2.2).k.toNat = 125 := by omega
     have b4 : ¬ (ae R.2.2).k.toNat ≠ 44 := by omega
     have hb : bz 125 R = 0 := by unfold bz; rw [if_neg (by omega), if_neg b3, if_neg b4]
     rw [if_neg (by omega), if_neg (by omega), if_neg b3] at hC
     have hp0 := kh b1
     have hr := da R.2.2
     have nd := nd (by assumption)
     refine ⟨[], (i + 1, n, aa R.2.2, ks ++ [(ae s').t], acc ++ R.2.1, ae R.2.2, aa s'), ⟨by show i + 1 + n = _; omega, by show (aa R.2.2).1.length + 1 ≤ n; omega, by show (acc ++ R.2.1).length + (aa R.2.2).1.length ≤ _; rw [List.length_append]; omega, by show (ks ++ [_]).length ≤ i + 1; rw [List.length_append, List.length_singleton]; omega, hC⟩, ?_, Nat.lt_succ_self n⟩
     refine Go.VG.Sub.mk rfl ?_ ?_ ?_ ?_ <;> (repeat' first | trivial | apply aj | apply aR | apply aM)
     all_goals first
      | (first | (simp (discharger := omega) only [wR]; omega) | (simp (discharger := omega) [-List.getD_eq_getElem?_getD, wR] <;> omega))
      | exact (List.map_append ..).symm
   . have hb : bz 125 R = 3 := by unfold bz; rw [if_neg (by omega), if_neg (by omega), if_pos (by omega)]
     rw [hC, if_neg (by omega), hb, if_pos (by decide)]
     (refine a8.mk [.tm 6 4, .swap 0 8] ?_ <;> (repeat' first | trivial | rfl | refine And.intro ?_ ?_))
   . have b1 : az R.2.2 ≠ 0 := by assumption
     have hb : bz 125 R = az R.2.2 := by unfold bz; rw [if_pos b1]
     rw [hC, if_neg (by omega), hb, if_pos b1]
     (refine a8.mk [.tm 6 4, .swap 0 8] ?_ <;> (repeat' first | trivial | rfl | refine And.intro ?_ ?_))
   . rw [hC, if_pos (by assumption)]
     (refine a8.mk [.tm 6 4, .swap 0 8] ?_ <;> (repeat' first | trivial | rfl | refine And.intro ?_ ?_))
   . rw [hB1 (by assumption) (by omega) (by assumption) (by assumption) (by omega)]
     (refine a8.mk [.tm 6 4, .swap 0 6] ?_ <;> (repeat' first | trivial | rfl | refine And.intro ?_ ?_))
   . rw [hB0 (by assumption) (by omega) (by assumption) (by assumption)]
     (refine a8.mk [.tm 6 4, .swap 0 6] ?_ <;> (repeat' first | trivial | rfl | refine And.intro ?_ ?_))
   . rw [hA1 (by assumption) (by omega)]
     (refine a8.mk [.tm 6 4, .swap 0 6] ?_ <;> (repeat' first | trivial | rfl | refine And.intro ?_ ?_))
   . rw [hA0 (by assumption)]
     (refine a8.mk [.tm 6 4, .swap 0 6] ?_ <;> (repeat' first | trivial | rfl | refine And.intro ?_ ?_))
 . have hst := hst fun q => ‹¬ az s = 0› q.1
   refine bn.mk (Nat × Nat × Sx × List (List UInt8) × List Nd × Tk × Sx) (fun x => DO k s x.1 x.2.1 x.2.2.1 x.2.2.2.1 x.2.2.2.2.1) (fun x => ⟨129, [(1, .int .u8 125), (2, .int .i64 d), (3, .ptr 0 0), (6, .list true 0 []), (7, .ptr 1 0), (9, .buf 4), (10, .buf 5), (11, .ptr 2 0), (12, .ptr 3 0), (14, .int .i64 s.1.length), (15, .int .i64 x.1)], [.cells (m8 x.2.2.1), .cells [.list true 0 [], .int .i64 0], .cells (eT x.2.2.2.2.2.1), .cells (m8 x.2.2.2.2.2.2), fJ x.2.2.2.2.1, mq x.2.2.2.1], [4, 5]⟩) (fun x => x.2.1) [.tm 9 4, .tm 10 1] (0, s.1.length + 1, s, [], [], (if az s = 0 then ae s else default), aa s) ⟨by show 0 + (s.1.length + 1) = _; omega, Nat.le_refl _, by show 0 + s.1.length ≤ _; omega, Nat.le_refl _, hst⟩ ?_ (fun ⟨i, n, s', ks, acc, tk, rs⟩ hI _ _ => ?_)
   . refine Go.VG.Sub.mk rfl ?_ ?_ ?_ ?_ <;> (repeat' first | trivial | apply aj | apply aR)
     all_goals (simp only [iM, hml]; done)
   obtain ⟨i1, i2, i3, i5, i4⟩ := hI
   dsimp only at i1 i2 i3 i4 i5
   obtain ⟨n, rfl⟩ : ∃ m, n = m + 1 := ⟨n - 1, by omega⟩
   rw [dj] at i4
   have nd := nv k (ae s').t (aa (aa s'))
   have hml' : (s'.1.map vT).length = s'.1.length := List.length_map _
   have hml2 : ((aa (aa s')).1.map vT).length = (aa (aa s')).1.length := List.length_map _
   have hma : (acc.map aQ).length = acc.length := List.length_map _
   have hmk : (ks.map V.str).length = ks.length := List.length_map _
   have hmv : ((ao k (ae s').t (aa (aa s'))).2.1.map aQ).length = (ao k (ae s').t (aa (aa s'))).2.1.length := List.length_map _
   have hs1 := da s'
   have hs2 := da (aa s')
   have hA0 : az s' ≠ 0 → aY (ao k) 125 s = (az s', [], s') := fun h => by
    rw [i4, show dU s' ks = az s' by unfold dU; rw [if_pos h], if_pos h]
   have hA1 : az s' = 0 → (ae s').k.toNat ≠ 115 → aY (ao k) 125 s = (3, [], s') := fun h h2 => by
    rw [i4, show dU s' ks = 3 by unfold dU; rw [if_neg (by omega), if_pos h2], if_pos (by decide)]
   have hA2 : az s' = 0 → (ae s').k.toNat = 115 → (ae s').t ∈ ks → aY (ao k) 125 s = (8, [], s') := fun h h2 h3 => by
    rw [i4, show dU s' ks = 8 by unfold dU; rw [if_neg (by omega), if_neg (by omega), if_pos h3], if_pos (by decide)]
   have hK : az s' = 0 → (ae s').k.toNat = 115 → ¬ (ae s').t ∈ ks → dU s' ks = 0 := fun h h2 h3 => by unfold dU; rw [if_neg (by omega), if_neg (by omega), if_neg h3]
   have hB0 : az s' = 0 → (ae s').k.toNat = 115 → ¬ (ae s').t ∈ ks → az (aa s') ≠ 0 → aY (ao k) 125 s = (az (aa s'), [], aa (aa s')) := fun h h2 h3 h4 => by
    rw [i4, hK h h2 h3, if_neg (by decide), show fI (aa s') = az (aa s') by unfold fI; rw [if_pos h4], if_pos h4]
   have hB1 : az s' = 0 → (ae s').k.toNat = 115 → ¬ (ae s').t ∈ ks → az (aa s') = 0 → (ae (aa s')).k.toNat ≠ 58 → aY (ao k) 125 s = (3, [], aa (aa s')) := fun h h2 h3 h4 h5 => by
    rw [i4, hK h h2 h3, if_neg (by decide), show fI (aa s') = 3 by unfold fI; rw [if_neg (by omega), if_pos h5], if_pos (by decide)]
   have hCD : az (aa s') = 0 → (ae (aa s')).k.toNat = 58 → fI (aa s') = 0 := fun h4 h5 => by unfold fI; rw [if_neg (by omega), if_neg (by omega)]
   have hC : az s' = 0 → (ae s').k.toNat = 115 → ¬ (ae s').t ∈ ks → az (aa s') = 0 → (ae (aa s')).k.toNat = 58 → aY (ao k) 125 s =
      if (ao k (ae s').t (aa (aa s'))).1 ≠ 0 then ((ao k (ae s').t (aa (aa s'))).1, [], aa (aa s'))
      else if bz 125 (ao k (ae s').t (aa (aa s'))) ≠ 0 then (bz 125 (ao k (ae s').t (aa (aa s'))), [], aa (ao k (ae s').t (aa (aa s'))).2.2)
      else if (ae (ao k (ae s').t (aa (aa s'))).2.2).k.toNat = 125 then (0, acc ++ (ao k (ae s').t (aa (aa s'))).2.1, aa (ao k (ae s').t (aa (aa s'))).2.2)
      else dj (ao k) n (aa (ao k (ae s').t (aa (aa s'))).2.2) (ks ++ [(ae s').t]) (acc ++ (ao k (ae s').t (aa (aa s'))).2.1) := fun h h2 h3 h4 h5 => by
    rw [i4, hK h h2 h3, if_neg (by decide), hCD h4 h5, if_neg (by decide)]
   clear i4 hCD hK
   repeat' ((conv => whnf); first | apply ak | apply aV | (apply al <;> intro h))
   all_goals try conv => whnf
   all_goals try (refine ab.mk ?_; try dsimp only)
   all_goals (try simp only [iM, du, km, fO] at *)
   all_goals (try (exfalso; omega))
   all_goals (try rw [if_pos (show az s' = 0 by assumption)] at *)
   all_goals (try rw [if_pos (show az (aa s') = 0 by assumption)] at *)
   all_goals generalize hR : ao k (ae s').t (aa (aa s')) = R at *
   all_goals (try rw [if_pos (show az R.2.2 = 0 by assumption)] at *)
   all_goals first | refine stay ?_ | (exact ⟨gH, trivial⟩) | omega | (simp only [cK]; omega) | skip
   all_goals (try (exfalso; omega))
   . exact ⟨Bp, by omega⟩
   . rw [hA2 (by assumption) (by omega) (by assumption)]
     (refine a8.mk [.tm 6 4, .swap 0 6] ?_ <;> (repeat' first | trivial | rfl | refine And.intro ?_ ?_))
   . exact ⟨gH, hp.1, by rw [hml2]; omega⟩
   all_goals (try have hC := hC (by assumption) (by omega) (by assumption) (by assumption) (by omega))
   . have b1 : az R.2.2 = 0 := by assumption
     have b3 : (ae R.2.2).k.toNat = 125 := by omega
     have hb : bz 125 R = 0 := by unfold bz; rw [if_neg (by omega), if_pos b3]
     rw [hC, if_neg (by omega), if_neg (by omega), if_pos b3]
     refine a8.mk [.swap 0 4] ?_ <;> (repeat' first | trivial | apply aj | apply aM)
     exact (List.map_append ..).symm
   . have b1 : az R.2.2 = 0 := by assumption
     have b3 : ¬ (ae R.2.2).k.toNat = 125 := by omega
     have b4 : ¬ (ae R.2.2).k.toNat ≠ 44 := by omega
     have hb : bz 125 R = 0 := by unfold bz; rw [if_neg (by omega), if_neg b3, if_neg b4]
     rw [if_neg (by omega), if_neg (by omega), if_neg b3] at hC
     have hp0 := kh b1
     have hr := da R.2.2
     have nd := nd (by assumption)
     refine ⟨[], (i + 1, n, aa R.2.2, ks ++ [(ae s').t], acc ++ R.2.1, ae R.2.2, aa s'), ⟨by show i + 1 + n = _; omega, by show (aa R.2.2).1.length + 1 ≤ n; omega, by show (acc ++ R.2.1).length + (aa R.2.2).1.length ≤ _; rw [List.length_append]; omega, by show (ks ++ [_]).length ≤ i + 1; rw [List.length_append, List.length_singleton]; omega, hC⟩, ?_, Nat.lt_succ_self n⟩
     refine Go.VG.Sub.mk rfl ?_ ?_ ?_ ?_ <;> (repeat' first | trivial | apply aj | apply aR | apply aM)
     all_goals first
      | (first | (simp (discharger := omega) only [wR]; omega) | (simp (discharger := omega) [-List.getD_eq_getElem?_getD, wR] <;> omega))
      | exact (List.map_append ..).symm
   . have hb : bz 125 R = 3 := by unfold bz; rw [if_neg (by omega), if_neg (by omega), if_pos (by omega)]
     rw [hC, if_neg (by omega), hb, if_pos (by decide)]
     (refine a8.mk [.tm 6 4, .swap 0 8] ?_ <;> (repeat' first | trivial | rfl | refine And.intro ?_ ?_))
   . have b1 : az R.2.2 ≠ 0 := by assumption
     have hb : bz 125 R = az R.2.2 := by unfold bz; rw [if_pos b1]
     rw [hC, if_neg (by omega), hb, if_pos b1]
     (refine a8.mk [.tm 6 4, .swap 0 8] ?_ <;> (repeat' first | trivial | rfl | refine And.intro ?_ ?_))
   . rw [hC, if_pos (by assumption)]
     (refine a8.mk [.tm 6 4, .swap 0 8] ?_ <;> (repeat' first | trivial | rfl | refine And.intro ?_ ?_))
   . rw [hB1 (by assumption) (by omega) (by assumption) (by assumption) (by omega)]
     (refine a8.mk [.tm 6 4, .swap 0 6] ?_ <;> (repeat' first | trivial | rfl | refine And.intro ?_ ?_))
   . rw [hB0 (by assumption) (by omega) (by assumption) (by assumption)]
     (refine a8.mk [.tm 6 4, .swap 0 6] ?_ <;> (repeat' first | trivial | rfl | refine And.intro ?_ ?_))
   . rw [hA1 (by assumption) (by omega)]
     (refine a8.mk [.tm 6 4, .swap 0 6] ?_ <;> (repeat' first | trivial | rfl | refine And.intro ?_ ?_))
   . rw [hA0 (by assumption)]
     (refine a8.mk [.tm 6 4, .swap 0 6] ?_ <;> (repeat' first | trivial | rfl | refine And.intro ?_ ?_))
def td (k : Nat) : Sm := fun args σ => match args, σ with
 | [.agg [.list false 2 l, .int .i64 e], .int .u8 a, .int .i64 d], [] => some (oy l ∧ (a = 93 ∨ a = 125) ∧ d + k = 32 ∧ l.length ≤ 10000000, .tuple [.buf 0, fU (aY (ao k) a.toNat (cR l, e)).2.2, .int .i64 (aY (ao k) a.toNat (cR l, e)).1], some [fJ (aY (ao k) a.toNat (cR l, e)).2.1])
 | _, _ => none
-- #name r13inner truchmanref13.inner
theorem I7 (k : Nat) (hv : ay 37 (kf k)) : ay 65 (td k) := by
 intro args sg pre x r he hp
 unfold td at he
 split at he <;> cases he
 rename_i l e a d
 obtain ⟨h1, h2, h3, h4⟩ := hp
 have el : (cR l).length = l.length := by have h := congrArg List.length h1; rw [List.length_map] at h; exact h.symm
 rw [tA h1]
 rcases h2 with rfl | rfl
 . exact Gc k hv (cR l, e) d ⟨h3, by show (cR l).length ≤ _; omega⟩
 . exact Ge k hv (cR l, e) d ⟨h3, by show (cR l).length ≤ _; omega⟩
end Go.Proofs.YtllncocibkgjkaaGreat
