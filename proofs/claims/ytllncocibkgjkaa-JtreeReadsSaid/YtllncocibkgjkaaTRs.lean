/-
  A tree of JSON as the document reads it: objects, values.
-/
import Derived.Test.YtllncocibkgjkaaTRr
set_option linter.unusedSimpArgs false
set_option linter.unusedVariables false
set_option maxHeartbeats 4000000
namespace Go.Proofs.Ytllncocibkgjkaa
open Go Go.VG
set_option maxRecDepth 100000
structure DO (k : Nat) (s0 : Sx) (i m : Nat) (s : Sx) (ks : List (List UInt8)) (acc : List Nd) : Prop where
  j : i + m = s0.1.length + 1
  n : s.1.length + 1 ≤ m
  a : acc.length + s.1.length ≤ s0.1.length
  b : ks.length ≤ i
  r : aec (aay k) 125 s0 = ack (aay k) m s ks acc
theorem a6f (k : Nat) (hv : SOK 60 (ac2 k)) (s : Sx) (d : Int) (hp : d + k = 32 ∧ s.1.length ≤ 10000000) : OK 85 [eSx s, .int .u8 125, .int .i64 d] [] (.tuple [.buf 0, eSx (aec (aay k) 125 s).2.2, .int .i64 (aec (aay k) 125 s).1]) (some [eNb (aec (aay k) 125 s).2.1]) := by
  refine aa0 (C := cx [(84, afp), (60, ac2 k), (104, am0)]) (abh ⟨ald, hv, a0w, trivial⟩) (fn := Try.f85) rfl rfl rfl rfl fun hw hs => ?_
  have hml : (s.1.map vT).length = s.1.length := List.length_map _
  have hst : ¬ (stE s = 0 ∧ (stT s).k.toNat = 125) → aec (aay k) 125 s = ack (aay k) (s.1.length + 1) s [] [] := fun h => by unfold aec; rw [if_neg h, if_pos rfl]
  repeat' ((conv => whnf); first | with_reducible (first | refine go1 (fun j q h => ?_) fun h => ?_ | refine go2 ⟨rfl, rfl⟩ (fun h => ?_) fun j h => ?_ | refine go2 ?_ (fun h => ?_) fun j h => ?_ | refine goQ ?_ (fun h => ?_) fun h => ?_) | refine go3 ?_ ?_ | refine go4 ?_ ?_ | refine go5 ?_ | ((first | refine go6 ?_ ?_ | refine go7 ?_ ?_ | refine go8 ?_ ?_ | refine go9 ?_ ?_ | refine goA ?_ ?_) <;> intro h) | with_reducible (first | refine aai.mk _ rfl ?_ | refine goB ?_ fun hc => ?_ | refine goC ?_ fun hc => ?_ | refine goD ?_ fun hc => ?_ | refine goE ?_ fun hc => ?_ | refine goF ?_ ?_ | refine goG ?_ ?_ | refine goH ?_ fun b hb => ?_) | refine goI ?_ | refine goJ ?_ ?_ | refine goK ?_ ?_ ?_ | refine goL ?_ ?_ ?_ ?_ | refine goM ?_ ?_ ?_ ?_ ?_ | refine goN ?_ ?_ | refine goO ?_ ?_ | with_reducible refine goP ?_)
  all_goals try conv => whnf
  all_goals try (refine aac.mk ?_; try dsimp only)
  all_goals (try simp only [aat, aaa, abn, akz] at *)
  all_goals (try simp only [aat, aaa, abn, akz] at *)
  all_goals first
    | (exact ⟨acp, trivial⟩)
    | (exact acp)
    | (exact aco)
    | (exact aki)
    | (refine stay ?_)
    | (first | trivial | omega | (simp (discharger := omega) only [wR]; omega) | (simp only [lnS]; omega) | (simp (discharger := omega) [-List.getD_eq_getElem?_getD, wR] <;> omega)) | skip
  · have h0 := ‹stE s = 0›
    have hr : aec (aay k) 125 s = (0, [], stR s) := by
      unfold aec
      rw [if_pos ⟨h0, by have h := ‹_ = (125 : Int)›; rw [if_pos h0] at h; omega⟩]
    rw [hr]
    (refine aa9.mk [.tm 6 4, .swap 0 4] ?_ <;> (repeat' first | trivial | rfl | refine And.intro ?_ ?_))
  · have h0 := ‹stE s = 0›
    have hst := hst fun q => by have h := ‹¬ _ = (125 : Int)›; rw [if_pos h0] at h; have := q.2; omega
    refine abt.mk (Nat × Nat × Sx × List (List UInt8) × List Nd × Tk × Sx) (fun x => DO k s x.1 x.2.1 x.2.2.1 x.2.2.2.1 x.2.2.2.2.1) (fun x => ⟨129, [(1, .int .u8 125), (2, .int .i64 d), (3, .ptr 0 0), (6, .list true 0 []), (7, .ptr 1 0), (9, .buf 4), (10, .buf 5), (11, .ptr 2 0), (12, .ptr 3 0), (14, .int .i64 s.1.length), (15, .int .i64 x.1)], [.cells (sxC x.2.2.1), .cells [.list true 0 [], .int .i64 0], .cells (eT x.2.2.2.2.2.1), .cells (sxC x.2.2.2.2.2.2), eNb x.2.2.2.2.1, eKb x.2.2.2.1], [4, 5]⟩) (fun x => x.2.1) [.tm 9 4, .tm 10 1] (0, s.1.length + 1, s, [], [], (if stE s = 0 then stT s else default), stR s) ⟨by show 0 + (s.1.length + 1) = _; omega, Nat.le_refl _, by show 0 + s.1.length ≤ _; omega, Nat.le_refl _, hst⟩ ?_ (fun ⟨i, n, s', ks, acc, tk, rs⟩ hI _ _ => ?_)
    · refine Go.VG.Sub.mk rfl ?_ ?_ ?_ ?_ <;> (repeat' first | trivial | rfl | exact eqS _ _ | apply And.intro | apply eqA | apply eqB | apply eqC | apply eqD | apply eqE | apply eqF | apply eqG | apply eqH | apply eqI)
      all_goals (simp only [aat, hml]; done)
    obtain ⟨i1, i2, i3, i5, i4⟩ := hI
    dsimp only at i1 i2 i3 i4 i5
    obtain ⟨n, rfl⟩ : ∃ m, n = m + 1 := ⟨n - 1, by omega⟩
    rw [ack] at i4
    have nd := amm k (stT s').t (stR (stR s'))
    have hml' : (s'.1.map vT).length = s'.1.length := List.length_map _
    have hml2 : ((stR (stR s')).1.map vT).length = (stR (stR s')).1.length := List.length_map _
    have hma : (acc.map eNd).length = acc.length := List.length_map _
    have hmk : (ks.map V.str).length = ks.length := List.length_map _
    have hmv : ((aay k (stT s').t (stR (stR s'))).2.1.map eNd).length = (aay k (stT s').t (stR (stR s'))).2.1.length := List.length_map _
    have hs1 := ab5 s'
    have hs2 := ab5 (stR s')
    have hA0 : stE s' ≠ 0 → aec (aay k) 125 s = (stE s', [], s') := fun h => by
      rw [i4, show apq s' ks = stE s' by unfold apq; rw [if_pos h], if_pos h]
    have hA1 : stE s' = 0 → (stT s').k.toNat ≠ 115 → aec (aay k) 125 s = (3, [], s') := fun h h2 => by
      rw [i4, show apq s' ks = 3 by unfold apq; rw [if_neg (by omega), if_pos h2], if_pos (by decide)]
    have hA2 : stE s' = 0 → (stT s').k.toNat = 115 → (stT s').t ∈ ks → aec (aay k) 125 s = (8, [], s') := fun h h2 h3 => by
      rw [i4, show apq s' ks = 8 by unfold apq; rw [if_neg (by omega), if_neg (by omega), if_pos h3], if_pos (by decide)]
    have hK : stE s' = 0 → (stT s').k.toNat = 115 → ¬ (stT s').t ∈ ks → apq s' ks = 0 := fun h h2 h3 => by unfold apq; rw [if_neg (by omega), if_neg (by omega), if_neg h3]
    have hB0 : stE s' = 0 → (stT s').k.toNat = 115 → ¬ (stT s').t ∈ ks → stE (stR s') ≠ 0 → aec (aay k) 125 s = (stE (stR s'), [], stR (stR s')) := fun h h2 h3 h4 => by
      rw [i4, hK h h2 h3, if_neg (by decide), show avm (stR s') = stE (stR s') by unfold avm; rw [if_pos h4], if_pos h4]
    have hB1 : stE s' = 0 → (stT s').k.toNat = 115 → ¬ (stT s').t ∈ ks → stE (stR s') = 0 → (stT (stR s')).k.toNat ≠ 58 → aec (aay k) 125 s = (3, [], stR (stR s')) := fun h h2 h3 h4 h5 => by
      rw [i4, hK h h2 h3, if_neg (by decide), show avm (stR s') = 3 by unfold avm; rw [if_neg (by omega), if_pos h5], if_pos (by decide)]
    have hCD : stE (stR s') = 0 → (stT (stR s')).k.toNat = 58 → avm (stR s') = 0 := fun h4 h5 => by unfold avm; rw [if_neg (by omega), if_neg (by omega)]
    have hC : stE s' = 0 → (stT s').k.toNat = 115 → ¬ (stT s').t ∈ ks → stE (stR s') = 0 → (stT (stR s')).k.toNat = 58 → aec (aay k) 125 s =
        if (aay k (stT s').t (stR (stR s'))).1 ≠ 0 then ((aay k (stT s').t (stR (stR s'))).1, [], stR (stR s'))
        else if bhD 125 (aay k (stT s').t (stR (stR s'))) ≠ 0 then (bhD 125 (aay k (stT s').t (stR (stR s'))), [], stR (aay k (stT s').t (stR (stR s'))).2.2)
        else if (stT (aay k (stT s').t (stR (stR s'))).2.2).k.toNat = 125 then (0, acc ++ (aay k (stT s').t (stR (stR s'))).2.1, stR (aay k (stT s').t (stR (stR s'))).2.2)
        else ack (aay k) n (stR (aay k (stT s').t (stR (stR s'))).2.2) (ks ++ [(stT s').t]) (acc ++ (aay k (stT s').t (stR (stR s'))).2.1) := fun h h2 h3 h4 h5 => by
      rw [i4, hK h h2 h3, if_neg (by decide), hCD h4 h5, if_neg (by decide)]
    clear i4 hCD hK
    repeat' ((conv => whnf); first | with_reducible (first | refine go1 (fun j q h => ?_) fun h => ?_ | refine go2 ⟨rfl, rfl⟩ (fun h => ?_) fun j h => ?_ | refine go2 ?_ (fun h => ?_) fun j h => ?_ | refine goQ ?_ (fun h => ?_) fun h => ?_) | refine go3 ?_ ?_ | refine go4 ?_ ?_ | refine go5 ?_ | ((first | refine go6 ?_ ?_ | refine go7 ?_ ?_ | refine go8 ?_ ?_ | refine go9 ?_ ?_ | refine goA ?_ ?_) <;> intro h) | with_reducible (first | refine aai.mk _ rfl ?_ | refine goB ?_ fun hc => ?_ | refine goC ?_ fun hc => ?_ | refine goD ?_ fun hc => ?_ | refine goE ?_ fun hc => ?_ | refine goF ?_ ?_ | refine goG ?_ ?_ | refine goH ?_ fun b hb => ?_) | refine goI ?_ | refine goJ ?_ ?_ | refine goK ?_ ?_ ?_ | refine goL ?_ ?_ ?_ ?_ | refine goM ?_ ?_ ?_ ?_ ?_ | refine goN ?_ ?_ | refine goO ?_ ?_ | with_reducible refine goP ?_)
    all_goals try conv => whnf
    all_goals try (refine aac.mk ?_; try dsimp only)
    all_goals (try simp only [aat, aaa, abn, akz] at *)
    all_goals (try (exfalso; omega))
    all_goals (try rw [if_pos (show stE s' = 0 by assumption)] at *)
    all_goals (try rw [if_pos (show stE (stR s') = 0 by assumption)] at *)
    all_goals generalize hR : aay k (stT s').t (stR (stR s')) = R at *
    all_goals (try rw [if_pos (show stE R.2.2 = 0 by assumption)] at *)
    all_goals (try simp only [aat, aaa, abn, akz] at *)
    all_goals first
      | (exact ⟨acp, trivial⟩)
      | (exact acp)
      | (exact aco)
      | (exact aki)
      | (refine stay ?_)
      | (first | trivial | omega | (simp (discharger := omega) only [wR]; omega) | (simp only [lnS]; omega) | (simp (discharger := omega) [-List.getD_eq_getElem?_getD, wR] <;> omega)) | skip
    all_goals (try (exfalso; omega))
    · exact ⟨aki, by omega⟩
    · rw [hA2 (by assumption) (by omega) (by assumption)]
      (refine aa9.mk [.tm 6 4, .swap 0 6] ?_ <;> (repeat' first | trivial | rfl | refine And.intro ?_ ?_))
    · exact ⟨acp, hp.1, by rw [hml2]; omega⟩
    all_goals (try have hC := hC (by assumption) (by omega) (by assumption) (by assumption) (by omega))
    · have b1 : stE R.2.2 = 0 := by assumption
      have b3 : (stT R.2.2).k.toNat = 125 := by omega
      have hb : bhD 125 R = 0 := by unfold bhD; rw [if_neg (by omega), if_pos b3]
      rw [hC, if_neg (by omega), if_neg (by omega), if_pos b3]
      refine aa9.mk [.swap 0 4] ?_ <;> (repeat' first | trivial | rfl | exact eqS _ _ | apply And.intro | apply eqA | apply eqB | apply eqC | apply eqD | apply eqE | apply eqF | apply eqG | apply eqH | apply eqI)
      exact (List.map_append ..).symm
    · have b1 : stE R.2.2 = 0 := by assumption
      have b3 : ¬ (stT R.2.2).k.toNat = 125 := by omega
      have b4 : ¬ (stT R.2.2).k.toNat ≠ 44 := by omega
      have hb : bhD 125 R = 0 := by unfold bhD; rw [if_neg (by omega), if_neg b3, if_neg b4]
      rw [if_neg (by omega), if_neg (by omega), if_neg b3] at hC
      have hp0 := agy b1
      have hr := ab5 R.2.2
      have nd := nd (by assumption)
      refine ⟨[], (i + 1, n, stR R.2.2, ks ++ [(stT s').t], acc ++ R.2.1, stT R.2.2, stR s'), ⟨by show i + 1 + n = _; omega, by show (stR R.2.2).1.length + 1 ≤ n; omega, by show (acc ++ R.2.1).length + (stR R.2.2).1.length ≤ _; rw [List.length_append]; omega, by show (ks ++ [_]).length ≤ i + 1; rw [List.length_append, List.length_singleton]; omega, hC⟩, ?_, Nat.lt_succ_self n⟩
      refine Go.VG.Sub.mk rfl ?_ ?_ ?_ ?_ <;> (repeat' first | trivial | rfl | exact eqS _ _ | apply And.intro | apply eqA | apply eqB | apply eqC | apply eqD | apply eqE | apply eqF | apply eqG | apply eqH | apply eqI)
      all_goals first
        | (first | omega | (simp (discharger := omega) only [wR]; omega) | (simp only [lnS]; omega) | (simp (discharger := omega) [-List.getD_eq_getElem?_getD, wR] <;> omega))
        | exact (List.map_append ..).symm
    · have hb : bhD 125 R = 3 := by unfold bhD; rw [if_neg (by omega), if_neg (by omega), if_pos (by omega)]
      rw [hC, if_neg (by omega), hb, if_pos (by decide)]
      (refine aa9.mk [.tm 6 4, .swap 0 8] ?_ <;> (repeat' first | trivial | rfl | refine And.intro ?_ ?_))
    · have b1 : stE R.2.2 ≠ 0 := by assumption
      have hb : bhD 125 R = stE R.2.2 := by unfold bhD; rw [if_pos b1]
      rw [hC, if_neg (by omega), hb, if_pos b1]
      (refine aa9.mk [.tm 6 4, .swap 0 8] ?_ <;> (repeat' first | trivial | rfl | refine And.intro ?_ ?_))
    · rw [hC, if_pos (by assumption)]
      (refine aa9.mk [.tm 6 4, .swap 0 8] ?_ <;> (repeat' first | trivial | rfl | refine And.intro ?_ ?_))
    · rw [hB1 (by assumption) (by omega) (by assumption) (by assumption) (by omega)]
      (refine aa9.mk [.tm 6 4, .swap 0 6] ?_ <;> (repeat' first | trivial | rfl | refine And.intro ?_ ?_))
    · rw [hB0 (by assumption) (by omega) (by assumption) (by assumption)]
      (refine aa9.mk [.tm 6 4, .swap 0 6] ?_ <;> (repeat' first | trivial | rfl | refine And.intro ?_ ?_))
    · rw [hA1 (by assumption) (by omega)]
      (refine aa9.mk [.tm 6 4, .swap 0 6] ?_ <;> (repeat' first | trivial | rfl | refine And.intro ?_ ?_))
    · rw [hA0 (by assumption)]
      (refine aa9.mk [.tm 6 4, .swap 0 6] ?_ <;> (repeat' first | trivial | rfl | refine And.intro ?_ ?_))
  · have hst := hst fun q => ‹¬ stE s = 0› q.1
    refine abt.mk (Nat × Nat × Sx × List (List UInt8) × List Nd × Tk × Sx) (fun x => DO k s x.1 x.2.1 x.2.2.1 x.2.2.2.1 x.2.2.2.2.1) (fun x => ⟨129, [(1, .int .u8 125), (2, .int .i64 d), (3, .ptr 0 0), (6, .list true 0 []), (7, .ptr 1 0), (9, .buf 4), (10, .buf 5), (11, .ptr 2 0), (12, .ptr 3 0), (14, .int .i64 s.1.length), (15, .int .i64 x.1)], [.cells (sxC x.2.2.1), .cells [.list true 0 [], .int .i64 0], .cells (eT x.2.2.2.2.2.1), .cells (sxC x.2.2.2.2.2.2), eNb x.2.2.2.2.1, eKb x.2.2.2.1], [4, 5]⟩) (fun x => x.2.1) [.tm 9 4, .tm 10 1] (0, s.1.length + 1, s, [], [], (if stE s = 0 then stT s else default), stR s) ⟨by show 0 + (s.1.length + 1) = _; omega, Nat.le_refl _, by show 0 + s.1.length ≤ _; omega, Nat.le_refl _, hst⟩ ?_ (fun ⟨i, n, s', ks, acc, tk, rs⟩ hI _ _ => ?_)
    · refine Go.VG.Sub.mk rfl ?_ ?_ ?_ ?_ <;> (repeat' first | trivial | rfl | exact eqS _ _ | apply And.intro | apply eqA | apply eqB | apply eqC | apply eqD | apply eqE | apply eqF | apply eqG | apply eqH | apply eqI)
      all_goals (simp only [aat, hml]; done)
    obtain ⟨i1, i2, i3, i5, i4⟩ := hI
    dsimp only at i1 i2 i3 i4 i5
    obtain ⟨n, rfl⟩ : ∃ m, n = m + 1 := ⟨n - 1, by omega⟩
    rw [ack] at i4
    have nd := amm k (stT s').t (stR (stR s'))
    have hml' : (s'.1.map vT).length = s'.1.length := List.length_map _
    have hml2 : ((stR (stR s')).1.map vT).length = (stR (stR s')).1.length := List.length_map _
    have hma : (acc.map eNd).length = acc.length := List.length_map _
    have hmk : (ks.map V.str).length = ks.length := List.length_map _
    have hmv : ((aay k (stT s').t (stR (stR s'))).2.1.map eNd).length = (aay k (stT s').t (stR (stR s'))).2.1.length := List.length_map _
    have hs1 := ab5 s'
    have hs2 := ab5 (stR s')
    have hA0 : stE s' ≠ 0 → aec (aay k) 125 s = (stE s', [], s') := fun h => by
      rw [i4, show apq s' ks = stE s' by unfold apq; rw [if_pos h], if_pos h]
    have hA1 : stE s' = 0 → (stT s').k.toNat ≠ 115 → aec (aay k) 125 s = (3, [], s') := fun h h2 => by
      rw [i4, show apq s' ks = 3 by unfold apq; rw [if_neg (by omega), if_pos h2], if_pos (by decide)]
    have hA2 : stE s' = 0 → (stT s').k.toNat = 115 → (stT s').t ∈ ks → aec (aay k) 125 s = (8, [], s') := fun h h2 h3 => by
      rw [i4, show apq s' ks = 8 by unfold apq; rw [if_neg (by omega), if_neg (by omega), if_pos h3], if_pos (by decide)]
    have hK : stE s' = 0 → (stT s').k.toNat = 115 → ¬ (stT s').t ∈ ks → apq s' ks = 0 := fun h h2 h3 => by unfold apq; rw [if_neg (by omega), if_neg (by omega), if_neg h3]
    have hB0 : stE s' = 0 → (stT s').k.toNat = 115 → ¬ (stT s').t ∈ ks → stE (stR s') ≠ 0 → aec (aay k) 125 s = (stE (stR s'), [], stR (stR s')) := fun h h2 h3 h4 => by
      rw [i4, hK h h2 h3, if_neg (by decide), show avm (stR s') = stE (stR s') by unfold avm; rw [if_pos h4], if_pos h4]
    have hB1 : stE s' = 0 → (stT s').k.toNat = 115 → ¬ (stT s').t ∈ ks → stE (stR s') = 0 → (stT (stR s')).k.toNat ≠ 58 → aec (aay k) 125 s = (3, [], stR (stR s')) := fun h h2 h3 h4 h5 => by
      rw [i4, hK h h2 h3, if_neg (by decide), show avm (stR s') = 3 by unfold avm; rw [if_neg (by omega), if_pos h5], if_pos (by decide)]
    have hCD : stE (stR s') = 0 → (stT (stR s')).k.toNat = 58 → avm (stR s') = 0 := fun h4 h5 => by unfold avm; rw [if_neg (by omega), if_neg (by omega)]
    have hC : stE s' = 0 → (stT s').k.toNat = 115 → ¬ (stT s').t ∈ ks → stE (stR s') = 0 → (stT (stR s')).k.toNat = 58 → aec (aay k) 125 s =
        if (aay k (stT s').t (stR (stR s'))).1 ≠ 0 then ((aay k (stT s').t (stR (stR s'))).1, [], stR (stR s'))
        else if bhD 125 (aay k (stT s').t (stR (stR s'))) ≠ 0 then (bhD 125 (aay k (stT s').t (stR (stR s'))), [], stR (aay k (stT s').t (stR (stR s'))).2.2)
        else if (stT (aay k (stT s').t (stR (stR s'))).2.2).k.toNat = 125 then (0, acc ++ (aay k (stT s').t (stR (stR s'))).2.1, stR (aay k (stT s').t (stR (stR s'))).2.2)
        else ack (aay k) n (stR (aay k (stT s').t (stR (stR s'))).2.2) (ks ++ [(stT s').t]) (acc ++ (aay k (stT s').t (stR (stR s'))).2.1) := fun h h2 h3 h4 h5 => by
      rw [i4, hK h h2 h3, if_neg (by decide), hCD h4 h5, if_neg (by decide)]
    clear i4 hCD hK
    repeat' ((conv => whnf); first | with_reducible (first | refine go1 (fun j q h => ?_) fun h => ?_ | refine go2 ⟨rfl, rfl⟩ (fun h => ?_) fun j h => ?_ | refine go2 ?_ (fun h => ?_) fun j h => ?_ | refine goQ ?_ (fun h => ?_) fun h => ?_) | refine go3 ?_ ?_ | refine go4 ?_ ?_ | refine go5 ?_ | ((first | refine go6 ?_ ?_ | refine go7 ?_ ?_ | refine go8 ?_ ?_ | refine go9 ?_ ?_ | refine goA ?_ ?_) <;> intro h) | with_reducible (first | refine aai.mk _ rfl ?_ | refine goB ?_ fun hc => ?_ | refine goC ?_ fun hc => ?_ | refine goD ?_ fun hc => ?_ | refine goE ?_ fun hc => ?_ | refine goF ?_ ?_ | refine goG ?_ ?_ | refine goH ?_ fun b hb => ?_) | refine goI ?_ | refine goJ ?_ ?_ | refine goK ?_ ?_ ?_ | refine goL ?_ ?_ ?_ ?_ | refine goM ?_ ?_ ?_ ?_ ?_ | refine goN ?_ ?_ | refine goO ?_ ?_ | with_reducible refine goP ?_)
    all_goals try conv => whnf
    all_goals try (refine aac.mk ?_; try dsimp only)
    all_goals (try simp only [aat, aaa, abn, akz] at *)
    all_goals (try (exfalso; omega))
    all_goals (try rw [if_pos (show stE s' = 0 by assumption)] at *)
    all_goals (try rw [if_pos (show stE (stR s') = 0 by assumption)] at *)
    all_goals generalize hR : aay k (stT s').t (stR (stR s')) = R at *
    all_goals (try rw [if_pos (show stE R.2.2 = 0 by assumption)] at *)
    all_goals (try simp only [aat, aaa, abn, akz] at *)
    all_goals first
      | (exact ⟨acp, trivial⟩)
      | (exact acp)
      | (exact aco)
      | (exact aki)
      | (refine stay ?_)
      | (first | trivial | omega | (simp (discharger := omega) only [wR]; omega) | (simp only [lnS]; omega) | (simp (discharger := omega) [-List.getD_eq_getElem?_getD, wR] <;> omega)) | skip
    all_goals (try (exfalso; omega))
    · exact ⟨aki, by omega⟩
    · rw [hA2 (by assumption) (by omega) (by assumption)]
      (refine aa9.mk [.tm 6 4, .swap 0 6] ?_ <;> (repeat' first | trivial | rfl | refine And.intro ?_ ?_))
    · exact ⟨acp, hp.1, by rw [hml2]; omega⟩
    all_goals (try have hC := hC (by assumption) (by omega) (by assumption) (by assumption) (by omega))
    · have b1 : stE R.2.2 = 0 := by assumption
      have b3 : (stT R.2.2).k.toNat = 125 := by omega
      have hb : bhD 125 R = 0 := by unfold bhD; rw [if_neg (by omega), if_pos b3]
      rw [hC, if_neg (by omega), if_neg (by omega), if_pos b3]
      refine aa9.mk [.swap 0 4] ?_ <;> (repeat' first | trivial | rfl | exact eqS _ _ | apply And.intro | apply eqA | apply eqB | apply eqC | apply eqD | apply eqE | apply eqF | apply eqG | apply eqH | apply eqI)
      exact (List.map_append ..).symm
    · have b1 : stE R.2.2 = 0 := by assumption
      have b3 : ¬ (stT R.2.2).k.toNat = 125 := by omega
      have b4 : ¬ (stT R.2.2).k.toNat ≠ 44 := by omega
      have hb : bhD 125 R = 0 := by unfold bhD; rw [if_neg (by omega), if_neg b3, if_neg b4]
      rw [if_neg (by omega), if_neg (by omega), if_neg b3] at hC
      have hp0 := agy b1
      have hr := ab5 R.2.2
      have nd := nd (by assumption)
      refine ⟨[], (i + 1, n, stR R.2.2, ks ++ [(stT s').t], acc ++ R.2.1, stT R.2.2, stR s'), ⟨by show i + 1 + n = _; omega, by show (stR R.2.2).1.length + 1 ≤ n; omega, by show (acc ++ R.2.1).length + (stR R.2.2).1.length ≤ _; rw [List.length_append]; omega, by show (ks ++ [_]).length ≤ i + 1; rw [List.length_append, List.length_singleton]; omega, hC⟩, ?_, Nat.lt_succ_self n⟩
      refine Go.VG.Sub.mk rfl ?_ ?_ ?_ ?_ <;> (repeat' first | trivial | rfl | exact eqS _ _ | apply And.intro | apply eqA | apply eqB | apply eqC | apply eqD | apply eqE | apply eqF | apply eqG | apply eqH | apply eqI)
      all_goals first
        | (first | omega | (simp (discharger := omega) only [wR]; omega) | (simp only [lnS]; omega) | (simp (discharger := omega) [-List.getD_eq_getElem?_getD, wR] <;> omega))
        | exact (List.map_append ..).symm
    · have hb : bhD 125 R = 3 := by unfold bhD; rw [if_neg (by omega), if_neg (by omega), if_pos (by omega)]
      rw [hC, if_neg (by omega), hb, if_pos (by decide)]
      (refine aa9.mk [.tm 6 4, .swap 0 8] ?_ <;> (repeat' first | trivial | rfl | refine And.intro ?_ ?_))
    · have b1 : stE R.2.2 ≠ 0 := by assumption
      have hb : bhD 125 R = stE R.2.2 := by unfold bhD; rw [if_pos b1]
      rw [hC, if_neg (by omega), hb, if_pos b1]
      (refine aa9.mk [.tm 6 4, .swap 0 8] ?_ <;> (repeat' first | trivial | rfl | refine And.intro ?_ ?_))
    · rw [hC, if_pos (by assumption)]
      (refine aa9.mk [.tm 6 4, .swap 0 8] ?_ <;> (repeat' first | trivial | rfl | refine And.intro ?_ ?_))
    · rw [hB1 (by assumption) (by omega) (by assumption) (by assumption) (by omega)]
      (refine aa9.mk [.tm 6 4, .swap 0 6] ?_ <;> (repeat' first | trivial | rfl | refine And.intro ?_ ?_))
    · rw [hB0 (by assumption) (by omega) (by assumption) (by assumption)]
      (refine aa9.mk [.tm 6 4, .swap 0 6] ?_ <;> (repeat' first | trivial | rfl | refine And.intro ?_ ?_))
    · rw [hA1 (by assumption) (by omega)]
      (refine aa9.mk [.tm 6 4, .swap 0 6] ?_ <;> (repeat' first | trivial | rfl | refine And.intro ?_ ?_))
    · rw [hA0 (by assumption)]
      (refine aa9.mk [.tm 6 4, .swap 0 6] ?_ <;> (repeat' first | trivial | rfl | refine And.intro ?_ ?_))
def ai3 (k : Nat) : Sm := fun args σ => match args, σ with
  | [.agg [.list false 2 l, .int .i64 e], .int .u8 a, .int .i64 d], [] => some (okT l ∧ (a = 93 ∨ a = 125) ∧ d + k = 32 ∧ l.length ≤ 10000000, .tuple [.buf 0, eSx (aec (aay k) a.toNat (upT l, e)).2.2, .int .i64 (aec (aay k) a.toNat (upT l, e)).1], some [eNb (aec (aay k) a.toNat (upT l, e)).2.1])
  | _, _ => none
-- #name r13inner truchmanref13.inner
theorem a3z (k : Nat) (hv : SOK 60 (ac2 k)) : SOK 85 (ai3 k) := by
  intro args sg pre x r he hp
  unfold ai3 at he
  split at he <;> cases he
  rename_i l e a d
  obtain ⟨h1, h2, h3, h4⟩ := hp
  have el : (upT l).length = l.length := by have h := congrArg List.length h1; rw [List.length_map] at h; exact h.symm
  rw [a25 h1]
  rcases h2 with rfl | rfl
  · exact a6e k hv (upT l, e) d ⟨h3, by show (upT l).length ≤ _; omega⟩
  · exact a6f k hv (upT l, e) d ⟨h3, by show (upT l).length ≤ _; omega⟩
end Go.Proofs.Ytllncocibkgjkaa
