/-
  A part of the proof.
-/
import Derived.Test.YtllncocibkgjkaaTRq
set_option linter.unusedSimpArgs false
set_option linter.unusedVariables false
set_option maxHeartbeats 4000000
namespace Go.Proofs.Ytllncocibkgjkaa
open Go Go.VG
set_option maxRecDepth 100000
def NdV (vd : VD) : Prop := ∀ key s, (vd key s).1 = 0 → (vd key s).2.1.length + (vd key s).2.2.1.length ≤ s.1.length
theorem yb {vd : VD} (hv : NdV vd) : ∀ (n : Nat) (s : Sx) (acc : List Nd), (dM vd n s acc).1 = 0 → (dM vd n s acc).2.1.length + (dM vd n s acc).2.2.1.length ≤ acc.length + s.1.length
 | 0, s, acc, h => by rw [dM] at h; cases h
 | n + 1, s, acc, h => by
   rw [dM] at h ⊢
   by_cases h1 : (vd [] s).1 ≠ 0
   . rw [if_pos h1] at h; exact absurd h h1
   rw [if_neg h1] at h ⊢
   have hd := hv [] s (by omega)
   by_cases h2 : bC 93 (vd [] s) ≠ 0
   . rw [if_pos h2] at h; exact absurd h h2
   rw [if_neg h2] at h ⊢
   have hr := d9 (vd [] s).2.2
   by_cases h3 : (af (vd [] s).2.2).k.toNat = 93
   . rw [if_pos h3]
     show (acc ++ (vd [] s).2.1).length + (aa (vd [] s).2.2).1.length ≤ _
     rw [List.length_append, hr]; omega
   . rw [if_neg h3] at h ⊢
     have := yb hv n _ _ h
     rw [List.length_append, hr] at this; omega
theorem yf {vd : VD} (hv : NdV vd) : ∀ (n : Nat) (s : Sx) (ks : List (List UInt8)) (acc : List Nd), (di vd n s ks acc).1 = 0 → (di vd n s ks acc).2.1.length + (di vd n s ks acc).2.2.1.length ≤ acc.length + s.1.length
 | 0, s, ks, acc, h => by rw [di] at h; cases h
 | n + 1, s, ks, acc, h => by
   rw [di] at h ⊢
   by_cases a1 : dR s ks ≠ 0
   . rw [if_pos a1] at h; exact absurd h a1
   rw [if_neg a1] at h ⊢
   by_cases a2 : fH (aa s) ≠ 0
   . rw [if_pos a2] at h; exact absurd h a2
   rw [if_neg a2] at h ⊢
   have r1 := d9 s
   have r2 := d9 (aa s)
   generalize hx : vd (af s).t (aa (aa s)) = x at h ⊢
   by_cases h1 : x.1 ≠ 0
   . rw [if_pos h1] at h; exact absurd h h1
   rw [if_neg h1] at h ⊢
   have hd := hv (af s).t (aa (aa s)) (by rw [hx]; omega)
   rw [hx] at hd
   by_cases h2 : bC 125 x ≠ 0
   . rw [if_pos h2] at h; exact absurd h h2
   rw [if_neg h2] at h ⊢
   have hr := d9 x.2.2
   by_cases h3 : (af x.2.2).k.toNat = 125
   . rw [if_pos h3]
     show (acc ++ x.2.1).length + (aa x.2.2).1.length ≤ _
     rw [List.length_append, hr]; omega
   . rw [if_neg h3] at h ⊢
     have := yf hv n _ _ _ h
     rw [List.length_append, hr] at this; omega
theorem y9 {vd : VD} (hv : NdV vd) {en : Nat} {s : Sx} (h : (aY vd en s).1 = 0) : (aY vd en s).2.1.length + (aY vd en s).2.2.1.length ≤ s.1.length := by
 unfold aY at h ⊢
 split
 . have := d9 s
   show 0 + (aa s).1.length ≤ _
   omega
 . rename_i q
   rw [if_neg q] at h
   split
   . rename_i q2
     rw [if_pos q2] at h
     have := yf hv _ _ _ _ h
     simpa using this
   . rename_i q2
     rw [if_neg q2] at h
     have := yb hv _ _ _ h
     simpa using this
theorem nb : ∀ k, NdV (aq k)
 | 0 => fun key s h => by
   rw [aq] at h ⊢
   by_cases h1 : aw s ≠ 0
   . rw [if_pos h1] at h; exact absurd h h1
   rw [if_neg h1] at h ⊢
   have hp := jQ (s := s) (by omega)
   have hr := d9 s
   split
   . rename_i q; rw [if_pos q] at h; cases h
   . rename_i q
     rw [if_neg q] at h
     split
     . rename_i q2; rw [if_pos q2] at h; cases h
     . show 1 + (aa s).1.length ≤ _; omega
 | k + 1 => fun key s h => by
   rw [aq] at h ⊢
   by_cases h1 : aw s ≠ 0
   . rw [if_pos h1] at h; exact absurd h h1
   rw [if_neg h1] at h ⊢
   have hp := jQ (s := s) (by omega)
   have hr := d9 s
   split
   . rename_i q
     rw [if_pos q] at h
     have := y9 (nb k) h
     show (_ :: _ : List Nd).length + _ ≤ _
     rw [List.length_cons]
     show (aY (aq k) _ (aa s)).2.1.length + 1 + (aY (aq k) _ (aa s)).2.2.1.length ≤ _
     omega
   . rename_i q
     rw [if_neg q] at h
     split
     . rename_i q2; rw [if_pos q2] at h; cases h
     . show 1 + (aa s).1.length ≤ _; omega
theorem yc {vd : VD} : ∀ (n : Nat) (s : Sx) (acc : List Nd), (dM vd n s acc).1 ≠ 0 → (dM vd n s acc).2.1 = []
 | 0, s, acc, _ => by rw [dM]
 | n + 1, s, acc, h => by
   rw [dM] at h ⊢
   repeat' split
   all_goals first
    | rfl
    | (exfalso; simp_all; done)
    | (refine yc n _ _ ?_; simp_all)
theorem yg {vd : VD} : ∀ (n : Nat) (s : Sx) (ks : List (List UInt8)) (acc : List Nd), (di vd n s ks acc).1 ≠ 0 → (di vd n s ks acc).2.1 = []
 | 0, s, ks, acc, _ => by rw [di]
 | n + 1, s, ks, acc, h => by
   rw [di] at h ⊢
   repeat' split
   all_goals first
    | rfl
    | (exfalso; simp_all; done)
    | (refine yg n _ _ _ ?_; simp_all)
theorem CV {vd : VD} {en : Nat} {s : Sx} (h : (aY vd en s).1 ≠ 0) : (aY vd en s).2.1 = [] := by
 unfold aY at h ⊢
 split
 . rfl
 . rename_i q
   rw [if_neg q] at h
   split
   . rename_i q2; rw [if_pos q2] at h; exact yg _ _ _ _ h
   . rename_i q2; rw [if_neg q2] at h; exact yc _ _ _ h
theorem gG (s : Sx) : (cN (s.1.map vT), s.2) = s := by rw [C3]
theorem fq : ({ data := #[] } : ByteArray).data.toList = [] := rfl

abbrev lJ (s : Sx) : List V := [.list false 2 (s.1.map vT), .int .i64 s.2]
-- #name r13value truchmanref13.value
def jO (k : Nat) : Sm := fun args σ => match args, σ with
 | [.agg [.list false 2 l, .int .i64 e], .str key, .int .i64 d], [] => some (nW l ∧ d + k = 32 ∧ l.length ≤ 10000000, .tuple [.buf 0, fP (aq k key (cN l, e)).2.2, .int .i64 (aq k key (cN l, e)).1], some [cD (aq k key (cN l, e)).2.1])
 | _, _ => none
structure DL (k : Nat) (s0 : Sx) (i m : Nat) (s : Sx) (acc : List Nd) : Prop where
 i : i + m = s0.1.length + 1
 n : s.1.length + 1 ≤ m
 a : acc.length + s.1.length ≤ s0.1.length
 r : aY (aq k) 93 s0 = dM (aq k) m s acc
theorem F5 (k : Nat) (hv : aD 60 (jO k)) (s : Sx) (d : Int) (hp : d + k = 32 ∧ s.1.length ≤ 10000000) : OK 85 [fP s, .int .u8 93, .int .i64 d] [] (.tuple [.buf 0, fP (aY (aq k) 93 s).2.2, .int .i64 (aY (aq k) 93 s).1]) (some [cD (aY (aq k) 93 s).2.1]) := by
 refine aC (C := cx [(84, ot), (60, jO k), (104, sr)]) (ay ⟨rn, hv, zH, trivial⟩) (fn := Try.f85) rfl rfl rfl rfl fun hw hs => ?_
 have hml : (s.1.map vT).length = s.1.length := List.length_map _
 have hst : ¬ (aw s = 0 ∧ (af s).k.toNat = 93) → aY (aq k) 93 s = dM (aq k) (s.1.length + 1) s [] := fun h => by unfold aY; rw [if_neg h, if_neg (by decide)]
 repeat' ((conv => whnf); first | apply al | (apply ao <;> intro h))
 all_goals try conv => whnf
 all_goals try (refine ae.mk ?_; try dsimp only)
 all_goals (try simp only [gG, bT, iW, fq] at *)
 all_goals first | refine stay ?_ | (exact ⟨gn, trivial⟩) | skip
 . have h0 := ‹aw s = 0›
   have hr : aY (aq k) 93 s = (0, [], aa s) := by
    unfold aY
    rw [if_pos ⟨h0, by have h := ‹_ = (93 : Int)›; rw [if_pos h0] at h; omega⟩]
   rw [hr]
   (refine a8.mk [.tm 6 4, .swap 0 4] ?_ <;> (repeat' first | trivial | rfl | refine And.intro ?_ ?_))
 . have h0 := ‹aw s = 0›
   have hst := hst fun q => by have h := ‹¬ _ = (93 : Int)›; rw [if_pos h0] at h; have := q.2; omega
   refine bn.mk (Nat × Nat × Sx × List Nd × Tk) (fun x => DL k s x.1 x.2.1 x.2.2.1 x.2.2.2.1) (fun x => ⟨129, [(1, .int .u8 93), (2, .int .i64 d), (3, .ptr 0 0), (6, .list true 0 []), (7, .ptr 1 0), (9, .buf 4), (10, .buf 5), (11, .ptr 2 0), (12, .ptr 3 0), (14, .int .i64 s.1.length), (15, .int .i64 x.1)], [.cells (lJ x.2.2.1), .cells [.list true 0 [], .int .i64 0], .cells (eT x.2.2.2.2), .cells (lJ (aa s)), cD x.2.2.2.1, lY []], [4, 5]⟩) (fun x => x.2.1) [.tm 9 4, .tm 10 1] (0, s.1.length + 1, s, [], (if aw s = 0 then af s else default)) ⟨by show 0 + (s.1.length + 1) = _; omega, Nat.le_refl _, by show 0 + s.1.length ≤ _; omega, hst⟩ ?_ (fun ⟨i, n, s', acc, tk⟩ hI _ _ => ?_)
   . refine Go.VG.Sub.mk rfl ?_ ?_ ?_ ?_ <;> (repeat' first | trivial | apply aj | apply aQ)
     all_goals (simp only [gG, hml]; done)
   obtain ⟨i1, i2, i3, i4⟩ := hI
   dsimp only at i1 i2 i3 i4
   obtain ⟨n, rfl⟩ : ∃ m, n = m + 1 := ⟨n - 1, by omega⟩
   rw [dM] at i4
   have nd := nb k [] s'
   have hml' : (s'.1.map vT).length = s'.1.length := List.length_map _
   have hma : (acc.map aH).length = acc.length := List.length_map _
   have hmv : ((aq k [] s').2.1.map aH).length = (aq k [] s').2.1.length := List.length_map _
   repeat' ((conv => whnf); first | apply al | apply aZ | (apply ao <;> intro h))
   all_goals try conv => whnf
   all_goals try (refine ae.mk ?_; try dsimp only)
   all_goals (try simp only [gG, bT, iW, fq] at *)
   all_goals first | refine stay ?_ | (exact ⟨gn, trivial⟩) | omega | skip
   . exact ⟨gn, hp.1, by rw [hml']; omega⟩
   all_goals (try (exfalso; omega))
   all_goals generalize aq k [] s' = r at *
   all_goals (try have b1 : aw r.2.2 = 0 := by assumption)
   all_goals (try rw [if_pos b1] at *)
   . have b0 : r.1 = 0 := by assumption
     have b3 : (af r.2.2).k.toNat = 93 := by omega
     have hb : bC 93 r = 0 := by unfold bC; rw [if_neg (by omega), if_pos b3]
     rw [if_neg (by omega), if_neg (by omega), if_pos b3] at i4
     rw [i4]
     refine a8.mk [.swap 0 4] ?_ <;> (repeat' first | trivial | apply aj | apply aV)
     exact (List.map_append ..).symm
   . have b0 : r.1 = 0 := by assumption
     have b3 : ¬ (af r.2.2).k.toNat = 93 := by omega
     have b4 : ¬ (af r.2.2).k.toNat ≠ 44 := by omega
     have hb : bC 93 r = 0 := by unfold bC; rw [if_neg (by omega), if_neg b3, if_neg b4]
     rw [if_neg (by omega), if_neg (by omega), if_neg b3] at i4
     have hp0 := jQ b1
     have hr := d9 r.2.2
     have nd := nd b0
     refine ⟨[], (i + 1, n, aa r.2.2, acc ++ r.2.1, af r.2.2), ⟨by show i + 1 + n = _; omega, by show (aa r.2.2).1.length + 1 ≤ n; omega, by show (acc ++ r.2.1).length + (aa r.2.2).1.length ≤ _; rw [List.length_append]; omega, i4⟩, ?_, Nat.lt_succ_self n⟩
     refine Go.VG.Sub.mk rfl ?_ ?_ ?_ ?_ <;> (repeat' first | trivial | apply aj | apply aQ | apply aV)
     all_goals first
      | (first | (simp (discharger := omega) only [wR]; omega) | (simp (discharger := omega) [-List.getD_eq_getElem?_getD, wR] <;> omega))
      | exact (List.map_append ..).symm
   . have b0 : r.1 = 0 := by assumption
     have hb : bC 93 r = 3 := by unfold bC; rw [if_neg (by omega), if_neg (by omega), if_pos (by omega)]
     rw [if_neg (by omega), hb, if_pos (by decide)] at i4
     rw [i4]
     (refine a8.mk [.tm 6 4, .swap 0 8] ?_ <;> (repeat' first | trivial | rfl | refine And.intro ?_ ?_))
   . have b0 : r.1 = 0 := by assumption
     have b1 : aw r.2.2 ≠ 0 := by assumption
     have hb : bC 93 r = aw r.2.2 := by unfold bC; rw [if_pos b1]
     rw [if_neg (by omega), hb, if_pos b1] at i4
     rw [i4]
     (refine a8.mk [.tm 6 4, .swap 0 8] ?_ <;> (repeat' first | trivial | rfl | refine And.intro ?_ ?_))
   . have b0 : r.1 ≠ 0 := by assumption
     rw [if_pos b0] at i4
     rw [i4]
     (refine a8.mk [.tm 6 4, .swap 0 8] ?_ <;> (repeat' first | trivial | rfl | refine And.intro ?_ ?_))
 . have hst := hst fun q => ‹¬ aw s = 0› q.1
   refine bn.mk (Nat × Nat × Sx × List Nd × Tk) (fun x => DL k s x.1 x.2.1 x.2.2.1 x.2.2.2.1) (fun x => ⟨129, [(1, .int .u8 93), (2, .int .i64 d), (3, .ptr 0 0), (6, .list true 0 []), (7, .ptr 1 0), (9, .buf 4), (10, .buf 5), (11, .ptr 2 0), (12, .ptr 3 0), (14, .int .i64 s.1.length), (15, .int .i64 x.1)], [.cells (lJ x.2.2.1), .cells [.list true 0 [], .int .i64 0], .cells (eT x.2.2.2.2), .cells (lJ (aa s)), cD x.2.2.2.1, lY []], [4, 5]⟩) (fun x => x.2.1) [.tm 9 4, .tm 10 1] (0, s.1.length + 1, s, [], (if aw s = 0 then af s else default)) ⟨by show 0 + (s.1.length + 1) = _; omega, Nat.le_refl _, by show 0 + s.1.length ≤ _; omega, hst⟩ ?_ (fun ⟨i, n, s', acc, tk⟩ hI _ _ => ?_)
   . refine Go.VG.Sub.mk rfl ?_ ?_ ?_ ?_ <;> (repeat' first | trivial | apply aj | apply aQ)
     all_goals (simp only [gG, hml]; done)
   obtain ⟨i1, i2, i3, i4⟩ := hI
   dsimp only at i1 i2 i3 i4
   obtain ⟨n, rfl⟩ : ∃ m, n = m + 1 := ⟨n - 1, by omega⟩
   rw [dM] at i4
   have nd := nb k [] s'
   have hml' : (s'.1.map vT).length = s'.1.length := List.length_map _
   have hma : (acc.map aH).length = acc.length := List.length_map _
   have hmv : ((aq k [] s').2.1.map aH).length = (aq k [] s').2.1.length := List.length_map _
   repeat' ((conv => whnf); first | apply al | apply aZ | (apply ao <;> intro h))
   all_goals try conv => whnf
   all_goals try (refine ae.mk ?_; try dsimp only)
   all_goals (try simp only [gG, bT, iW, fq] at *)
   all_goals first | refine stay ?_ | (exact ⟨gn, trivial⟩) | omega | skip
   . exact ⟨gn, hp.1, by rw [hml']; omega⟩
   all_goals (try (exfalso; omega))
   all_goals generalize aq k [] s' = r at *
   all_goals (try have b1 : aw r.2.2 = 0 := by assumption)
   all_goals (try rw [if_pos b1] at *)
   . have b0 : r.1 = 0 := by assumption
     have b3 : (af r.2.2).k.toNat = 93 := by omega
     have hb : bC 93 r = 0 := by unfold bC; rw [if_neg (by omega), if_pos b3]
     rw [if_neg (by omega), if_neg (by omega), if_pos b3] at i4
     rw [i4]
     refine a8.mk [.swap 0 4] ?_ <;> (repeat' first | trivial | apply aj | apply aV)
     exact (List.map_append ..).symm
   . have b0 : r.1 = 0 := by assumption
     have b3 : ¬ (af r.2.2).k.toNat = 93 := by omega
     have b4 : ¬ (af r.2.2).k.toNat ≠ 44 := by omega
     have hb : bC 93 r = 0 := by unfold bC; rw [if_neg (by omega), if_neg b3, if_neg b4]
     rw [if_neg (by omega), if_neg (by omega), if_neg b3] at i4
     have hp0 := jQ b1
     have hr := d9 r.2.2
     have nd := nd b0
     refine ⟨[], (i + 1, n, aa r.2.2, acc ++ r.2.1, af r.2.2), ⟨by show i + 1 + n = _; omega, by show (aa r.2.2).1.length + 1 ≤ n; omega, by show (acc ++ r.2.1).length + (aa r.2.2).1.length ≤ _; rw [List.length_append]; omega, i4⟩, ?_, Nat.lt_succ_self n⟩
     refine Go.VG.Sub.mk rfl ?_ ?_ ?_ ?_ <;> (repeat' first | trivial | apply aj | apply aQ | apply aV)
     all_goals first
      | (first | (simp (discharger := omega) only [wR]; omega) | (simp (discharger := omega) [-List.getD_eq_getElem?_getD, wR] <;> omega))
      | exact (List.map_append ..).symm
   . have b0 : r.1 = 0 := by assumption
     have hb : bC 93 r = 3 := by unfold bC; rw [if_neg (by omega), if_neg (by omega), if_pos (by omega)]
     rw [if_neg (by omega), hb, if_pos (by decide)] at i4
     rw [i4]
     (refine a8.mk [.tm 6 4, .swap 0 8] ?_ <;> (repeat' first | trivial | rfl | refine And.intro ?_ ?_))
   . have b0 : r.1 = 0 := by assumption
     have b1 : aw r.2.2 ≠ 0 := by assumption
     have hb : bC 93 r = aw r.2.2 := by unfold bC; rw [if_pos b1]
     rw [if_neg (by omega), hb, if_pos b1] at i4
     rw [i4]
     (refine a8.mk [.tm 6 4, .swap 0 8] ?_ <;> (repeat' first | trivial | rfl | refine And.intro ?_ ?_))
   . have b0 : r.1 ≠ 0 := by assumption
     rw [if_pos b0] at i4
     rw [i4]
     (refine a8.mk [.tm 6 4, .swap 0 8] ?_ <;> (repeat' first | trivial | rfl | refine And.intro ?_ ?_))
end Go.Proofs.Ytllncocibkgjkaa
