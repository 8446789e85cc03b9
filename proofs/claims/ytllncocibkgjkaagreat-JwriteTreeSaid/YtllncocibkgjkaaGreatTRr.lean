/-
  A part of the proof.
-/
import Derived.Test.YtllncocibkgjkaaGreatTRq
set_option linter.unusedSimpArgs false
set_option linter.unusedVariables false
set_option maxHeartbeats 4000000
namespace Go.Proofs.YtllncocibkgjkaaGreat
open Go Go.VG
set_option maxRecDepth 100000
def NdV (vd : VD) : Prop := ∀ key s, (vd key s).1 = 0 → (vd key s).2.1.length + (vd key s).2.2.1.length ≤ s.1.length
theorem yG {vd : VD} (hv : NdV vd) : ∀ (n : Nat) (s : Sx) (acc : List Nd), (dO vd n s acc).1 = 0 → (dO vd n s acc).2.1.length + (dO vd n s acc).2.2.1.length ≤ acc.length + s.1.length
 | 0, s, acc, h => by rw [dO] at h; cases h
 | n + 1, s, acc, h => by
   rw [dO] at h ⊢
   by_cases h1 : (vd [] s).1 ≠ 0
   . rw [if_pos h1] at h; exact absurd h h1
   rw [if_neg h1] at h ⊢
   have hd := hv [] s (by omega)
   by_cases h2 : bz 93 (vd [] s) ≠ 0
   . rw [if_pos h2] at h; exact absurd h h2
   rw [if_neg h2] at h ⊢
   have hr := da (vd [] s).2.2
   by_cases h3 : (ae (vd [] s).2.2).k.toNat = 93
   . rw [if_pos h3]
     show (acc ++ (vd [] s).2.1).length + (aa (vd [] s).2.2).1.length ≤ _
     rw [List.length_append, hr]; omega
   . rw [if_neg h3] at h ⊢
     have := yG hv n _ _ h
     rw [List.length_append, hr] at this; omega
theorem yJ {vd : VD} (hv : NdV vd) : ∀ (n : Nat) (s : Sx) (ks : List (List UInt8)) (acc : List Nd), (dj vd n s ks acc).1 = 0 → (dj vd n s ks acc).2.1.length + (dj vd n s ks acc).2.2.1.length ≤ acc.length + s.1.length
 | 0, s, ks, acc, h => by rw [dj] at h; cases h
 | n + 1, s, ks, acc, h => by
   rw [dj] at h ⊢
   by_cases a1 : dU s ks ≠ 0
   . rw [if_pos a1] at h; exact absurd h a1
   rw [if_neg a1] at h ⊢
   by_cases a2 : fI (aa s) ≠ 0
   . rw [if_pos a2] at h; exact absurd h a2
   rw [if_neg a2] at h ⊢
   have r1 := da s
   have r2 := da (aa s)
   generalize hx : vd (ae s).t (aa (aa s)) = x at h ⊢
   by_cases h1 : x.1 ≠ 0
   . rw [if_pos h1] at h; exact absurd h h1
   rw [if_neg h1] at h ⊢
   have hd := hv (ae s).t (aa (aa s)) (by rw [hx]; omega)
   rw [hx] at hd
   by_cases h2 : bz 125 x ≠ 0
   . rw [if_pos h2] at h; exact absurd h h2
   rw [if_neg h2] at h ⊢
   have hr := da x.2.2
   by_cases h3 : (ae x.2.2).k.toNat = 125
   . rw [if_pos h3]
     show (acc ++ x.2.1).length + (aa x.2.2).1.length ≤ _
     rw [List.length_append, hr]; omega
   . rw [if_neg h3] at h ⊢
     have := yJ hv n _ _ _ h
     rw [List.length_append, hr] at this; omega
theorem yE {vd : VD} (hv : NdV vd) {en : Nat} {s : Sx} (h : (aY vd en s).1 = 0) : (aY vd en s).2.1.length + (aY vd en s).2.2.1.length ≤ s.1.length := by
 unfold aY at h ⊢
 split
 . have := da s
   show 0 + (aa s).1.length ≤ _
   omega
 . rename_i q
   rw [if_neg q] at h
   split
   . rename_i q2
     rw [if_pos q2] at h
     have := yJ hv _ _ _ _ h
     simpa using this
   . rename_i q2
     rw [if_neg q2] at h
     have := yG hv _ _ _ h
     simpa using this
theorem nv : ∀ k, NdV (ao k)
 | 0 => fun key s h => by
   rw [ao] at h ⊢
   by_cases h1 : az s ≠ 0
   . rw [if_pos h1] at h; exact absurd h h1
   rw [if_neg h1] at h ⊢
   have hp := kh (s := s) (by omega)
   have hr := da s
   split
   . rename_i q; rw [if_pos q] at h; cases h
   . rename_i q
     rw [if_neg q] at h
     split
     . rename_i q2; rw [if_pos q2] at h; cases h
     . show 1 + (aa s).1.length ≤ _; omega
 | k + 1 => fun key s h => by
   rw [ao] at h ⊢
   by_cases h1 : az s ≠ 0
   . rw [if_pos h1] at h; exact absurd h h1
   rw [if_neg h1] at h ⊢
   have hp := kh (s := s) (by omega)
   have hr := da s
   split
   . rename_i q
     rw [if_pos q] at h
     have := yE (nv k) h
     show (_ :: _ : List Nd).length + _ ≤ _
     rw [List.length_cons]
     show (aY (ao k) _ (aa s)).2.1.length + 1 + (aY (ao k) _ (aa s)).2.2.1.length ≤ _
     omega
   . rename_i q
     rw [if_neg q] at h
     split
     . rename_i q2; rw [if_pos q2] at h; cases h
     . show 1 + (aa s).1.length ≤ _; omega
theorem yH {vd : VD} : ∀ (n : Nat) (s : Sx) (acc : List Nd), (dO vd n s acc).1 ≠ 0 → (dO vd n s acc).2.1 = []
 | 0, s, acc, _ => by rw [dO]
 | n + 1, s, acc, h => by
   rw [dO] at h ⊢
   repeat' split
   all_goals first
    | rfl
    | (exfalso; simp_all; done)
    | (refine yH n _ _ ?_; simp_all)
theorem yK {vd : VD} : ∀ (n : Nat) (s : Sx) (ks : List (List UInt8)) (acc : List Nd), (dj vd n s ks acc).1 ≠ 0 → (dj vd n s ks acc).2.1 = []
 | 0, s, ks, acc, _ => by rw [dj]
 | n + 1, s, ks, acc, h => by
   rw [dj] at h ⊢
   repeat' split
   all_goals first
    | rfl
    | (exfalso; simp_all; done)
    | (refine yK n _ _ _ ?_; simp_all)
theorem DI {vd : VD} {en : Nat} {s : Sx} (h : (aY vd en s).1 ≠ 0) : (aY vd en s).2.1 = [] := by
 unfold aY at h ⊢
 split
 . rfl
 . rename_i q
   rw [if_neg q] at h
   split
   . rename_i q2; rw [if_pos q2] at h; exact yK _ _ _ _ h
   . rename_i q2; rw [if_neg q2] at h; exact yH _ _ _ h
theorem iM (s : Sx) : (cR (s.1.map vT), s.2) = s := by rw [CM]
theorem fO : ({ data := #[] } : ByteArray).data.toList = [] := rfl

abbrev m8 (s : Sx) : List V := [.list false 2 (s.1.map vT), .int .i64 s.2]
-- #name r13value truchmanref13.value
def kf (k : Nat) : Sm := fun args σ => match args, σ with
 | [.agg [.list false 2 l, .int .i64 e], .str key, .int .i64 d], [] => some (oy l ∧ d + k = 32 ∧ l.length ≤ 10000000, .tuple [.buf 0, fU (ao k key (cR l, e)).2.2, .int .i64 (ao k key (cR l, e)).1], some [fJ (ao k key (cR l, e)).2.1])
 | _, _ => none
structure DL (k : Nat) (s0 : Sx) (i m : Nat) (s : Sx) (acc : List Nd) : Prop where
 i : i + m = s0.1.length + 1
 n : s.1.length + 1 ≤ m
 a : acc.length + s.1.length ≤ s0.1.length
 r : aY (ao k) 93 s0 = dO (ao k) m s acc
theorem Gc (k : Nat) (hv : ay 37 (kf k)) (s : Sx) (d : Int) (hp : d + k = 32 ∧ s.1.length ≤ 10000000) : OK 65 [fU s, .int .u8 93, .int .i64 d] [] (.tuple [.buf 0, fU (aY (ao k) 93 s).2.2, .int .i64 (aY (ao k) 93 s).1]) (some [fJ (aY (ao k) 93 s).2.1]) := by
 refine aq (C := cx [(64, oN), (37, kf k), (92, tc)]) (ar ⟨rK, hv, Al, trivial⟩) (fn := Tryz.f65) rfl rfl rfl rfl fun hw hs => ?_
 have hml : (s.1.map vT).length = s.1.length := List.length_map _
 have hst : ¬ (az s = 0 ∧ (ae s).k.toNat = 93) → aY (ao k) 93 s = dO (ao k) (s.1.length + 1) s [] := fun h => by unfold aY; rw [if_neg h, if_neg (by decide)]
 repeat' ((conv => whnf); first | apply ak | (apply al <;> intro h))
 all_goals try conv => whnf
 all_goals try (refine ab.mk ?_; try dsimp only)
 all_goals (try simp only [iM, du, km, fO] at *)
 all_goals first | refine stay ?_ | (exact ⟨gH, trivial⟩) | skip
 . have h0 := ‹az s = 0›
   have hr : aY (ao k) 93 s = (0, [], aa s) := by
    unfold aY
    rw [if_pos ⟨h0, by have h := ‹_ = (93 : Int)›; rw [if_pos h0] at h; omega⟩]
   rw [hr]
   (refine a8.mk [.tm 6 4, .swap 0 4] ?_ <;> (repeat' first | trivial | rfl | refine And.intro ?_ ?_))
 . have h0 := ‹az s = 0›
   have hst := hst fun q => by have h := ‹¬ _ = (93 : Int)›; rw [if_pos h0] at h; have := q.2; omega
   refine bn.mk (Nat × Nat × Sx × List Nd × Tk) (fun x => DL k s x.1 x.2.1 x.2.2.1 x.2.2.2.1) (fun x => ⟨129, [(1, .int .u8 93), (2, .int .i64 d), (3, .ptr 0 0), (6, .list true 0 []), (7, .ptr 1 0), (9, .buf 4), (10, .buf 5), (11, .ptr 2 0), (12, .ptr 3 0), (14, .int .i64 s.1.length), (15, .int .i64 x.1)], [.cells (m8 x.2.2.1), .cells [.list true 0 [], .int .i64 0], .cells (eT x.2.2.2.2), .cells (m8 (aa s)), fJ x.2.2.2.1, mq []], [4, 5]⟩) (fun x => x.2.1) [.tm 9 4, .tm 10 1] (0, s.1.length + 1, s, [], (if az s = 0 then ae s else default)) ⟨by show 0 + (s.1.length + 1) = _; omega, Nat.le_refl _, by show 0 + s.1.length ≤ _; omega, hst⟩ ?_ (fun ⟨i, n, s', acc, tk⟩ hI _ _ => ?_)
   . refine Go.VG.Sub.mk rfl ?_ ?_ ?_ ?_ <;> (repeat' first | trivial | apply aj | apply aR)
     all_goals (simp only [iM, hml]; done)
   obtain ⟨i1, i2, i3, i4⟩ := hI
   dsimp only at i1 i2 i3 i4
   obtain ⟨n, rfl⟩ : ∃ m, n = m + 1 := ⟨n - 1, by omega⟩
   rw [dO] at i4
   have nd := nv k [] s'
   have hml' : (s'.1.map vT).length = s'.1.length := List.length_map _
   have hma : (acc.map aQ).length = acc.length := List.length_map _
   have hmv : ((ao k [] s').2.1.map aQ).length = (ao k [] s').2.1.length := List.length_map _
   repeat' ((conv => whnf); first | apply ak | apply aV | (apply al <;> intro h))
   all_goals try conv => whnf
   all_goals try (refine ab.mk ?_; try dsimp only)
   all_goals (try simp only [iM, du, km, fO] at *)
   all_goals first | refine stay ?_ | (exact ⟨gH, trivial⟩) | omega | skip
   . exact ⟨gH, hp.1, by rw [hml']; omega⟩
   all_goals (try (exfalso; omega))
   all_goals generalize ao k [] s' = r at *
   all_goals (try have b1 : az r.2.2 = 0 := by assumption)
   all_goals (try rw [if_pos b1] at *)
   . have b0 : r.1 = 0 := by assumption
     have b3 : (ae r.2.2).k.toNat = 93 := by omega
     have hb : bz 93 r = 0 := by unfold bz; rw [if_neg (by omega), if_pos b3]
     rw [if_neg (by omega), if_neg (by omega), if_pos b3] at i4
     rw [i4]
     refine a8.mk [.swap 0 4] ?_ <;> (repeat' first | trivial | apply aj | apply aM)
     exact (List.map_append ..).symm
   . have b0 : r.1 = 0 := by assumption
     have b3 : ¬ (ae r.2.2).k.toNat = 93 := by omega
     have b4 : ¬ (ae r.2.2).k.toNat ≠ 44 := by omega
     have hb : bz 93 r = 0 := by unfold bz; rw [if_neg (by omega), if_neg b3, if_neg b4]
     rw [if_neg (by omega), if_neg (by omega), if_neg b3] at i4
     have hp0 := kh b1
     have hr := da r.2.2
     have nd := nd b0
     refine ⟨[], (i + 1, n, aa r.2.2, acc ++ r.2.1, ae r.2.2), ⟨by show i + 1 + n = _; omega, by show (aa r.2.2).1.length + 1 ≤ n; omega, by show (acc ++ r.2.1).length + (aa r.2.2).1.length ≤ _; rw [List.length_append]; omega, i4⟩, ?_, Nat.lt_succ_self n⟩
     refine Go.VG.Sub.mk rfl ?_ ?_ ?_ ?_ <;> (repeat' first | trivial | apply aj | apply aR | apply aM)
     all_goals first
      | (first | (simp (discharger := omega) only [wR]; omega) | (simp (discharger := omega) [-List.getD_eq_getElem?_getD, wR] <;> omega))
      | exact (List.map_append ..).symm
   . have b0 : r.1 = 0 := by assumption
     have hb : bz 93 r = 3 := by unfold bz; rw [if_neg (by omega), if_neg (by omega), if_pos (by omega)]
     rw [if_neg (by omega), hb, if_pos (by decide)] at i4
     rw [i4]
     (refine a8.mk [.tm 6 4, .swap 0 8] ?_ <;> (repeat' first | trivial | rfl | refine And.intro ?_ ?_))
   . have b0 : r.1 = 0 := by assumption
     have b1 : az r.2.2 ≠ 0 := by assumption
     have hb : bz 93 r = az r.2.2 := by unfold bz; rw [if_pos b1]
     rw [if_neg (by omega), hb, if_pos b1] at i4
     rw [i4]
     (refine a8.mk [.tm 6 4, .swap 0 8] ?_ <;> (repeat' first | trivial | rfl | refine And.intro ?_ ?_))
   . have b0 : r.1 ≠ 0 := by assumption
     rw [if_pos b0] at i4
     rw [i4]
     (refine a8.mk [.tm 6 4, .swap 0 8] ?_ <;> (repeat' first | trivial | rfl | refine And.intro ?_ ?_))
 . have hst := hst fun q => ‹¬ az s = 0› q.1
   refine bn.mk (Nat × Nat × Sx × List Nd × Tk) (fun x => DL k s x.1 x.2.1 x.2.2.1 x.2.2.2.1) (fun x => ⟨129, [(1, .int .u8 93), (2, .int .i64 d), (3, .ptr 0 0), (6, .list true 0 []), (7, .ptr 1 0), (9, .buf 4), (10, .buf 5), (11, .ptr 2 0), (12, .ptr 3 0), (14, .int .i64 s.1.length), (15, .int .i64 x.1)], [.cells (m8 x.2.2.1), .cells [.list true 0 [], .int .i64 0], .cells (eT x.2.2.2.2), .cells (m8 (aa s)), fJ x.2.2.2.1, mq []], [4, 5]⟩) (fun x => x.2.1) [.tm 9 4, .tm 10 1] (0, s.1.length + 1, s, [], (if az s = 0 then ae s else default)) ⟨by show 0 + (s.1.length + 1) = _; omega, Nat.le_refl _, by show 0 + s.1.length ≤ _; omega, hst⟩ ?_ (fun ⟨i, n, s', acc, tk⟩ hI _ _ => ?_)
   . refine Go.VG.Sub.mk rfl ?_ ?_ ?_ ?_ <;> (repeat' first | trivial | apply aj | apply aR)
     all_goals (simp only [iM, hml]; done)
   obtain ⟨i1, i2, i3, i4⟩ := hI
   dsimp only at i1 i2 i3 i4
   obtain ⟨n, rfl⟩ : ∃ m, n = m + 1 := ⟨n - 1, by omega⟩
   rw [dO] at i4
   have nd := nv k [] s'
   have hml' : (s'.1.map vT).length = s'.1.length := List.length_map _
   have hma : (acc.map aQ).length = acc.length := List.length_map _
   have hmv : ((ao k [] s').2.1.map aQ).length = (ao k [] s').2.1.length := List.length_map _
   repeat' ((conv => whnf); first | apply ak | apply aV | (apply al <;> intro h))
   all_goals try conv => whnf
   all_goals try (refine ab.mk ?_; try dsimp only)
   all_goals (try simp only [iM, du, km, fO] at *)
   all_goals first | refine stay ?_ | (exact ⟨gH, trivial⟩) | omega | skip
   . exact ⟨gH, hp.1, by rw [hml']; omega⟩
   all_goals (try (exfalso; omega))
   all_goals generalize ao k [] s' = r at *
   all_goals (try have b1 : az r.2.2 = 0 := by assumption)
   all_goals (try rw [if_pos b1] at *)
   . have b0 : r.1 = 0 := by assumption
     have b3 : (ae r.2.2).k.toNat = 93 := by omega
     have hb : bz 93 r = 0 := by unfold bz; rw [if_neg (by omega), if_pos b3]
     rw [if_neg (by omega), if_neg (by omega), if_pos b3] at i4
     rw [i4]
     refine a8.mk [.swap 0 4] ?_ <;> (repeat' first | trivial | apply aj | apply aM)
     exact (List.map_append ..).symm
   . have b0 : r.1 = 0 := by assumption
     have b3 : ¬ (ae r.2.2).k.toNat = 93 := by omega
     have b4 : ¬ (ae r.2.2).k.toNat ≠ 44 := by omega
     have hb : bz 93 r = 0 := by unfold bz; rw [if_neg (by omega), if_neg b3, if_neg b4]
     rw [if_neg (by omega), if_neg (by omega), if_neg b3] at i4
     have hp0 := kh b1
     have hr := da r.2.2
     have nd := nd b0
     refine ⟨[], (i + 1, n, aa r.2.2, acc ++ r.2.1, ae r.2.2), ⟨by show i + 1 + n = _; omega, by show (aa r.2.2).1.length + 1 ≤ n; omega, by show (acc ++ r.2.1).length + (aa r.2.2).1.length ≤ _; rw [List.length_append]; omega, i4⟩, ?_, Nat.lt_succ_self n⟩
     refine Go.VG.Sub.mk rfl ?_ ?_ ?_ ?_ <;> (repeat' first | trivial | apply aj | apply aR | apply aM)
     all_goals first
      | (first | (simp (discharger := omega) only [wR]; omega) | (simp (discharger := omega) [-List.getD_eq_getElem?_getD, wR] <;> omega))
      | exact (List.map_append ..).symm
   . have b0 : r.1 = 0 := by assumption
     have hb : bz 93 r = 3 := by unfold bz; rw [if_neg (by omega), if_neg (by omega), if_pos (by omega)]
     rw [if_neg (by omega), hb, if_pos (by decide)] at i4
     rw [i4]
     (refine a8.mk [.tm 6 4, .swap 0 8] ?_ <;> (repeat' first | trivial | rfl | refine And.intro ?_ ?_))
   . have b0 : r.1 = 0 := by assumption
     have b1 : az r.2.2 ≠ 0 := by assumption
     have hb : bz 93 r = az r.2.2 := by unfold bz; rw [if_pos b1]
     rw [if_neg (by omega), hb, if_pos b1] at i4
     rw [i4]
     (refine a8.mk [.tm 6 4, .swap 0 8] ?_ <;> (repeat' first | trivial | rfl | refine And.intro ?_ ?_))
   . have b0 : r.1 ≠ 0 := by assumption
     rw [if_pos b0] at i4
     rw [i4]
     (refine a8.mk [.tm 6 4, .swap 0 8] ?_ <;> (repeat' first | trivial | rfl | refine And.intro ?_ ?_))
end Go.Proofs.YtllncocibkgjkaaGreat
