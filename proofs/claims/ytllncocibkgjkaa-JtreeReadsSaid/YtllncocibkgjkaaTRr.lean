/-
  A tree of JSON as the document reads it: a value, lists and objects.
-/
import Derived.Test.YtllncocibkgjkaaTRq
set_option linter.unusedSimpArgs false
set_option linter.unusedVariables false
set_option maxHeartbeats 4000000
namespace Go.Proofs.Ytllncocibkgjkaa
open Go Go.VG
set_option maxRecDepth 100000
def NdV (vd : VD) : Prop := ∀ key s, (vd key s).1 = 0 → (vd key s).2.1.length + (vd key s).2.2.1.length ≤ s.1.length
theorem a5l {vd : VD} (hv : NdV vd) : ∀ (n : Nat) (s : Sx) (acc : List Nd), (ad2 vd n s acc).1 = 0 → (ad2 vd n s acc).2.1.length + (ad2 vd n s acc).2.2.1.length ≤ acc.length + s.1.length
  | 0, s, acc, h => by rw [ad2] at h; cases h
  | n + 1, s, acc, h => by
    rw [ad2] at h ⊢
    by_cases h1 : (vd [] s).1 ≠ 0
    · rw [if_pos h1] at h; exact absurd h h1
    rw [if_neg h1] at h ⊢
    have hd := hv [] s (by omega)
    by_cases h2 : bhD 93 (vd [] s) ≠ 0
    · rw [if_pos h2] at h; exact absurd h h2
    rw [if_neg h2] at h ⊢
    have hr := ab5 (vd [] s).2.2
    by_cases h3 : (stT (vd [] s).2.2).k.toNat = 93
    · rw [if_pos h3]
      show (acc ++ (vd [] s).2.1).length + (stR (vd [] s).2.2).1.length ≤ _
      rw [List.length_append, hr]; omega
    · rw [if_neg h3] at h ⊢
      have := a5l hv n _ _ h
      rw [List.length_append, hr] at this; omega
theorem a5m {vd : VD} (hv : NdV vd) : ∀ (n : Nat) (s : Sx) (ks : List (List UInt8)) (acc : List Nd), (ack vd n s ks acc).1 = 0 → (ack vd n s ks acc).2.1.length + (ack vd n s ks acc).2.2.1.length ≤ acc.length + s.1.length
  | 0, s, ks, acc, h => by rw [ack] at h; cases h
  | n + 1, s, ks, acc, h => by
    rw [ack] at h ⊢
    by_cases a1 : apq s ks ≠ 0
    · rw [if_pos a1] at h; exact absurd h a1
    rw [if_neg a1] at h ⊢
    by_cases a2 : avm (stR s) ≠ 0
    · rw [if_pos a2] at h; exact absurd h a2
    rw [if_neg a2] at h ⊢
    have r1 := ab5 s
    have r2 := ab5 (stR s)
    generalize hx : vd (stT s).t (stR (stR s)) = x at h ⊢
    by_cases h1 : x.1 ≠ 0
    · rw [if_pos h1] at h; exact absurd h h1
    rw [if_neg h1] at h ⊢
    have hd := hv (stT s).t (stR (stR s)) (by rw [hx]; omega)
    rw [hx] at hd
    by_cases h2 : bhD 125 x ≠ 0
    · rw [if_pos h2] at h; exact absurd h h2
    rw [if_neg h2] at h ⊢
    have hr := ab5 x.2.2
    by_cases h3 : (stT x.2.2).k.toNat = 125
    · rw [if_pos h3]
      show (acc ++ x.2.1).length + (stR x.2.2).1.length ≤ _
      rw [List.length_append, hr]; omega
    · rw [if_neg h3] at h ⊢
      have := a5m hv n _ _ _ h
      rw [List.length_append, hr] at this; omega
theorem a5j {vd : VD} (hv : NdV vd) {en : Nat} {s : Sx} (h : (aec vd en s).1 = 0) : (aec vd en s).2.1.length + (aec vd en s).2.2.1.length ≤ s.1.length := by
  unfold aec at h ⊢
  split
  · have := ab5 s
    show 0 + (stR s).1.length ≤ _
    omega
  · rename_i q
    rw [if_neg q] at h
    split
    · rename_i q2
      rw [if_pos q2] at h
      have := a5m hv _ _ _ _ h
      simpa using this
    · rename_i q2
      rw [if_neg q2] at h
      have := a5l hv _ _ _ h
      simpa using this
theorem amm : ∀ k, NdV (aay k)
  | 0 => fun key s h => by
    rw [aay] at h ⊢
    by_cases h1 : stE s ≠ 0
    · rw [if_pos h1] at h; exact absurd h h1
    rw [if_neg h1] at h ⊢
    have hp := agy (s := s) (by omega)
    have hr := ab5 s
    split
    · rename_i q; rw [if_pos q] at h; cases h
    · rename_i q
      rw [if_neg q] at h
      split
      · rename_i q2; rw [if_pos q2] at h; cases h
      · show 1 + (stR s).1.length ≤ _; omega
  | k + 1 => fun key s h => by
    rw [aay] at h ⊢
    by_cases h1 : stE s ≠ 0
    · rw [if_pos h1] at h; exact absurd h h1
    rw [if_neg h1] at h ⊢
    have hp := agy (s := s) (by omega)
    have hr := ab5 s
    split
    · rename_i q
      rw [if_pos q] at h
      have := a5j (amm k) h
      show (_ :: _ : List Nd).length + _ ≤ _
      rw [List.length_cons]
      show (aec (aay k) _ (stR s)).2.1.length + 1 + (aec (aay k) _ (stR s)).2.2.1.length ≤ _
      omega
    · rename_i q
      rw [if_neg q] at h
      split
      · rename_i q2; rw [if_pos q2] at h; cases h
      · show 1 + (stR s).1.length ≤ _; omega
theorem avp {vd : VD} : ∀ (n : Nat) (s : Sx) (acc : List Nd), (ad2 vd n s acc).1 ≠ 0 → (ad2 vd n s acc).2.1 = []
  | 0, s, acc, _ => by rw [ad2]
  | n + 1, s, acc, h => by
    rw [ad2] at h ⊢
    repeat' split
    all_goals first
      | rfl
      | (exfalso; simp_all; done)
      | (refine avp n _ _ ?_; simp_all)
theorem avq {vd : VD} : ∀ (n : Nat) (s : Sx) (ks : List (List UInt8)) (acc : List Nd), (ack vd n s ks acc).1 ≠ 0 → (ack vd n s ks acc).2.1 = []
  | 0, s, ks, acc, _ => by rw [ack]
  | n + 1, s, ks, acc, h => by
    rw [ack] at h ⊢
    repeat' split
    all_goals first
      | rfl
      | (exfalso; simp_all; done)
      | (refine avq n _ _ _ ?_; simp_all)
theorem a5k {vd : VD} {en : Nat} {s : Sx} (h : (aec vd en s).1 ≠ 0) : (aec vd en s).2.1 = [] := by
  unfold aec at h ⊢
  split
  · rfl
  · rename_i q
    rw [if_neg q] at h
    split
    · rename_i q2; rw [if_pos q2] at h; exact avq _ _ _ _ h
    · rename_i q2; rw [if_neg q2] at h; exact avp _ _ _ h
theorem aat (s : Sx) : (upT (s.1.map vT), s.2) = s := by rw [akw]
theorem akz : ({ data := #[] } : ByteArray).data.toList = [] := rfl

abbrev sxC (s : Sx) : List V := [.list false 2 (s.1.map vT), .int .i64 s.2]
-- #name r13value truchmanref13.value
def ac2 (k : Nat) : Sm := fun args σ => match args, σ with
  | [.agg [.list false 2 l, .int .i64 e], .str key, .int .i64 d], [] => some (okT l ∧ d + k = 32 ∧ l.length ≤ 10000000, .tuple [.buf 0, eSx (aay k key (upT l, e)).2.2, .int .i64 (aay k key (upT l, e)).1], some [eNb (aay k key (upT l, e)).2.1])
  | _, _ => none
structure DL (k : Nat) (s0 : Sx) (i m : Nat) (s : Sx) (acc : List Nd) : Prop where
  i : i + m = s0.1.length + 1
  n : s.1.length + 1 ≤ m
  a : acc.length + s.1.length ≤ s0.1.length
  r : aec (aay k) 93 s0 = ad2 (aay k) m s acc
theorem a6e (k : Nat) (hv : SOK 60 (ac2 k)) (s : Sx) (d : Int) (hp : d + k = 32 ∧ s.1.length ≤ 10000000) : OK 85 [eSx s, .int .u8 93, .int .i64 d] [] (.tuple [.buf 0, eSx (aec (aay k) 93 s).2.2, .int .i64 (aec (aay k) 93 s).1]) (some [eNb (aec (aay k) 93 s).2.1]) := by
  refine aa0 (C := cx [(84, afp), (60, ac2 k), (104, am0)]) (abh ⟨ald, hv, a0w, trivial⟩) (fn := Try.f85) rfl rfl rfl rfl fun hw hs => ?_
  have hml : (s.1.map vT).length = s.1.length := List.length_map _
  have hst : ¬ (stE s = 0 ∧ (stT s).k.toNat = 93) → aec (aay k) 93 s = ad2 (aay k) (s.1.length + 1) s [] := fun h => by unfold aec; rw [if_neg h, if_neg (by decide)]
  repeat' ((conv => whnf); first | with_reducible (first | refine go1 (fun j q h => ?_) fun h => ?_ | refine go2 ⟨rfl, rfl⟩ (fun h => ?_) fun j h => ?_ | refine go2 ?_ (fun h => ?_) fun j h => ?_ | refine goQ ?_ (fun h => ?_) fun h => ?_) | refine go3 ?_ ?_ | refine go4 ?_ ?_ | refine go5 ?_ | ((first | refine go6 ?_ ?_ | refine go7 ?_ ?_ | refine go8 ?_ ?_ | refine go9 ?_ ?_ | refine goA ?_ ?_) <;> intro h) | with_reducible (first | refine aai.mk _ rfl ?_ | refine goB ?_ fun hc => ?_ | refine goC ?_ fun hc => ?_ | refine goD ?_ fun hc => ?_ | refine goE ?_ fun hc => ?_ | refine goF ?_ ?_ | refine goG ?_ ?_ | refine goH ?_ fun b hb => ?_) | refine goI ?_ | refine goJ ?_ ?_ | refine goK ?_ ?_ ?_ | refine goL ?_ ?_ ?_ ?_ | refine goM ?_ ?_ ?_ ?_ ?_ | refine goN ?_ ?_ | refine goO ?_ ?_ | with_reducible refine goP ?_)
  all_goals try conv => whnf
  all_goals try (refine aac.mk ?_; try dsimp only)
  all_goals (try simp only [aat, aaa, abn, akz] at *)
  all_goals (try simp only [aat, aaa, abn, akz] at *)
  all_goals first
    | (exact ⟨acp, trivial⟩)
    | (exact acp)
    | (exact aco)
    | (exact aki)
    | (refine stay ?_)
    | (first | trivial | omega | (simp (discharger := omega) only [wR]; omega) | (simp only [lnS]; omega) | (simp (discharger := omega) [-List.getD_eq_getElem?_getD, wR] <;> omega)) | skip
  · have h0 := ‹stE s = 0›
    have hr : aec (aay k) 93 s = (0, [], stR s) := by
      unfold aec
      rw [if_pos ⟨h0, by have h := ‹_ = (93 : Int)›; rw [if_pos h0] at h; omega⟩]
    rw [hr]
    (refine aa9.mk [.tm 6 4, .swap 0 4] ?_ <;> (repeat' first | trivial | rfl | refine And.intro ?_ ?_))
  · have h0 := ‹stE s = 0›
    have hst := hst fun q => by have h := ‹¬ _ = (93 : Int)›; rw [if_pos h0] at h; have := q.2; omega
    refine abt.mk (Nat × Nat × Sx × List Nd × Tk) (fun x => DL k s x.1 x.2.1 x.2.2.1 x.2.2.2.1) (fun x => ⟨129, [(1, .int .u8 93), (2, .int .i64 d), (3, .ptr 0 0), (6, .list true 0 []), (7, .ptr 1 0), (9, .buf 4), (10, .buf 5), (11, .ptr 2 0), (12, .ptr 3 0), (14, .int .i64 s.1.length), (15, .int .i64 x.1)], [.cells (sxC x.2.2.1), .cells [.list true 0 [], .int .i64 0], .cells (eT x.2.2.2.2), .cells (sxC (stR s)), eNb x.2.2.2.1, eKb []], [4, 5]⟩) (fun x => x.2.1) [.tm 9 4, .tm 10 1] (0, s.1.length + 1, s, [], (if stE s = 0 then stT s else default)) ⟨by show 0 + (s.1.length + 1) = _; omega, Nat.le_refl _, by show 0 + s.1.length ≤ _; omega, hst⟩ ?_ (fun ⟨i, n, s', acc, tk⟩ hI _ _ => ?_)
    · refine Go.VG.Sub.mk rfl ?_ ?_ ?_ ?_ <;> (repeat' first | trivial | rfl | exact eqS _ _ | apply And.intro | apply eqA | apply eqB | apply eqC | apply eqD | apply eqE | apply eqF | apply eqG | apply eqH | apply eqI)
      all_goals (simp only [aat, hml]; done)
    obtain ⟨i1, i2, i3, i4⟩ := hI
    dsimp only at i1 i2 i3 i4
    obtain ⟨n, rfl⟩ : ∃ m, n = m + 1 := ⟨n - 1, by omega⟩
    rw [ad2] at i4
    have nd := amm k [] s'
    have hml' : (s'.1.map vT).length = s'.1.length := List.length_map _
    have hma : (acc.map eNd).length = acc.length := List.length_map _
    have hmv : ((aay k [] s').2.1.map eNd).length = (aay k [] s').2.1.length := List.length_map _
    repeat' ((conv => whnf); first | with_reducible (first | refine go1 (fun j q h => ?_) fun h => ?_ | refine go2 ⟨rfl, rfl⟩ (fun h => ?_) fun j h => ?_ | refine go2 ?_ (fun h => ?_) fun j h => ?_ | refine goQ ?_ (fun h => ?_) fun h => ?_) | refine go3 ?_ ?_ | refine go4 ?_ ?_ | refine go5 ?_ | ((first | refine go6 ?_ ?_ | refine go7 ?_ ?_ | refine go8 ?_ ?_ | refine go9 ?_ ?_ | refine goA ?_ ?_) <;> intro h) | with_reducible (first | refine aai.mk _ rfl ?_ | refine goB ?_ fun hc => ?_ | refine goC ?_ fun hc => ?_ | refine goD ?_ fun hc => ?_ | refine goE ?_ fun hc => ?_ | refine goF ?_ ?_ | refine goG ?_ ?_ | refine goH ?_ fun b hb => ?_) | refine goI ?_ | refine goJ ?_ ?_ | refine goK ?_ ?_ ?_ | refine goL ?_ ?_ ?_ ?_ | refine goM ?_ ?_ ?_ ?_ ?_ | refine goN ?_ ?_ | refine goO ?_ ?_ | with_reducible refine goP ?_)
    all_goals try conv => whnf
    all_goals try (refine aac.mk ?_; try dsimp only)
    all_goals (try simp only [aat, aaa, abn, akz] at *)
    all_goals (try simp only [aat, aaa, abn, akz] at *)
    all_goals first
      | (exact ⟨acp, trivial⟩)
      | (exact acp)
      | (exact aco)
      | (exact aki)
      | (refine stay ?_)
      | (first | trivial | omega | (simp (discharger := omega) only [wR]; omega) | (simp only [lnS]; omega) | (simp (discharger := omega) [-List.getD_eq_getElem?_getD, wR] <;> omega)) | skip
    · exact ⟨acp, hp.1, by rw [hml']; omega⟩
    all_goals (try (exfalso; omega))
    all_goals generalize aay k [] s' = r at *
    all_goals (try have b1 : stE r.2.2 = 0 := by assumption)
    all_goals (try rw [if_pos b1] at *)
    · have b0 : r.1 = 0 := by assumption
      have b3 : (stT r.2.2).k.toNat = 93 := by omega
      have hb : bhD 93 r = 0 := by unfold bhD; rw [if_neg (by omega), if_pos b3]
      rw [if_neg (by omega), if_neg (by omega), if_pos b3] at i4
      rw [i4]
      refine aa9.mk [.swap 0 4] ?_ <;> (repeat' first | trivial | rfl | exact eqS _ _ | apply And.intro | apply eqA | apply eqB | apply eqC | apply eqD | apply eqE | apply eqF | apply eqG | apply eqH | apply eqI)
      exact (List.map_append ..).symm
    · have b0 : r.1 = 0 := by assumption
      have b3 : ¬ (stT r.2.2).k.toNat = 93 := by omega
      have b4 : ¬ (stT r.2.2).k.toNat ≠ 44 := by omega
      have hb : bhD 93 r = 0 := by unfold bhD; rw [if_neg (by omega), if_neg b3, if_neg b4]
      rw [if_neg (by omega), if_neg (by omega), if_neg b3] at i4
      have hp0 := agy b1
      have hr := ab5 r.2.2
      have nd := nd b0
      refine ⟨[], (i + 1, n, stR r.2.2, acc ++ r.2.1, stT r.2.2), ⟨by show i + 1 + n = _; omega, by show (stR r.2.2).1.length + 1 ≤ n; omega, by show (acc ++ r.2.1).length + (stR r.2.2).1.length ≤ _; rw [List.length_append]; omega, i4⟩, ?_, Nat.lt_succ_self n⟩
      refine Go.VG.Sub.mk rfl ?_ ?_ ?_ ?_ <;> (repeat' first | trivial | rfl | exact eqS _ _ | apply And.intro | apply eqA | apply eqB | apply eqC | apply eqD | apply eqE | apply eqF | apply eqG | apply eqH | apply eqI)
      all_goals first
        | (first | omega | (simp (discharger := omega) only [wR]; omega) | (simp only [lnS]; omega) | (simp (discharger := omega) [-List.getD_eq_getElem?_getD, wR] <;> omega))
        | exact (List.map_append ..).symm
    · have b0 : r.1 = 0 := by assumption
      have hb : bhD 93 r = 3 := by unfold bhD; rw [if_neg (by omega), if_neg (by omega), if_pos (by omega)]
      rw [if_neg (by omega), hb, if_pos (by decide)] at i4
      rw [i4]
      (refine aa9.mk [.tm 6 4, .swap 0 8] ?_ <;> (repeat' first | trivial | rfl | refine And.intro ?_ ?_))
    · have b0 : r.1 = 0 := by assumption
      have b1 : stE r.2.2 ≠ 0 := by assumption
      have hb : bhD 93 r = stE r.2.2 := by unfold bhD; rw [if_pos b1]
      rw [if_neg (by omega), hb, if_pos b1] at i4
      rw [i4]
      (refine aa9.mk [.tm 6 4, .swap 0 8] ?_ <;> (repeat' first | trivial | rfl | refine And.intro ?_ ?_))
    · have b0 : r.1 ≠ 0 := by assumption
      rw [if_pos b0] at i4
      rw [i4]
      (refine aa9.mk [.tm 6 4, .swap 0 8] ?_ <;> (repeat' first | trivial | rfl | refine And.intro ?_ ?_))
  · have hst := hst fun q => ‹¬ stE s = 0› q.1
    refine abt.mk (Nat × Nat × Sx × List Nd × Tk) (fun x => DL k s x.1 x.2.1 x.2.2.1 x.2.2.2.1) (fun x => ⟨129, [(1, .int .u8 93), (2, .int .i64 d), (3, .ptr 0 0), (6, .list true 0 []), (7, .ptr 1 0), (9, .buf 4), (10, .buf 5), (11, .ptr 2 0), (12, .ptr 3 0), (14, .int .i64 s.1.length), (15, .int .i64 x.1)], [.cells (sxC x.2.2.1), .cells [.list true 0 [], .int .i64 0], .cells (eT x.2.2.2.2), .cells (sxC (stR s)), eNb x.2.2.2.1, eKb []], [4, 5]⟩) (fun x => x.2.1) [.tm 9 4, .tm 10 1] (0, s.1.length + 1, s, [], (if stE s = 0 then stT s else default)) ⟨by show 0 + (s.1.length + 1) = _; omega, Nat.le_refl _, by show 0 + s.1.length ≤ _; omega, hst⟩ ?_ (fun ⟨i, n, s', acc, tk⟩ hI _ _ => ?_)
    · refine Go.VG.Sub.mk rfl ?_ ?_ ?_ ?_ <;> (repeat' first | trivial | rfl | exact eqS _ _ | apply And.intro | apply eqA | apply eqB | apply eqC | apply eqD | apply eqE | apply eqF | apply eqG | apply eqH | apply eqI)
      all_goals (simp only [aat, hml]; done)
    obtain ⟨i1, i2, i3, i4⟩ := hI
    dsimp only at i1 i2 i3 i4
    obtain ⟨n, rfl⟩ : ∃ m, n = m + 1 := ⟨n - 1, by omega⟩
    rw [ad2] at i4
    have nd := amm k [] s'
    have hml' : (s'.1.map vT).length = s'.1.length := List.length_map _
    have hma : (acc.map eNd).length = acc.length := List.length_map _
    have hmv : ((aay k [] s').2.1.map eNd).length = (aay k [] s').2.1.length := List.length_map _
    repeat' ((conv => whnf); first | with_reducible (first | refine go1 (fun j q h => ?_) fun h => ?_ | refine go2 ⟨rfl, rfl⟩ (fun h => ?_) fun j h => ?_ | refine go2 ?_ (fun h => ?_) fun j h => ?_ | refine goQ ?_ (fun h => ?_) fun h => ?_) | refine go3 ?_ ?_ | refine go4 ?_ ?_ | refine go5 ?_ | ((first | refine go6 ?_ ?_ | refine go7 ?_ ?_ | refine go8 ?_ ?_ | refine go9 ?_ ?_ | refine goA ?_ ?_) <;> intro h) | with_reducible (first | refine aai.mk _ rfl ?_ | refine goB ?_ fun hc => ?_ | refine goC ?_ fun hc => ?_ | refine goD ?_ fun hc => ?_ | refine goE ?_ fun hc => ?_ | refine goF ?_ ?_ | refine goG ?_ ?_ | refine goH ?_ fun b hb => ?_) | refine goI ?_ | refine goJ ?_ ?_ | refine goK ?_ ?_ ?_ | refine goL ?_ ?_ ?_ ?_ | refine goM ?_ ?_ ?_ ?_ ?_ | refine goN ?_ ?_ | refine goO ?_ ?_ | with_reducible refine goP ?_)
    all_goals try conv => whnf
    all_goals try (refine aac.mk ?_; try dsimp only)
    all_goals (try simp only [aat, aaa, abn, akz] at *)
    all_goals (try simp only [aat, aaa, abn, akz] at *)
    all_goals first
      | (exact ⟨acp, trivial⟩)
      | (exact acp)
      | (exact aco)
      | (exact aki)
      | (refine stay ?_)
      | (first | trivial | omega | (simp (discharger := omega) only [wR]; omega) | (simp only [lnS]; omega) | (simp (discharger := omega) [-List.getD_eq_getElem?_getD, wR] <;> omega)) | skip
    · exact ⟨acp, hp.1, by rw [hml']; omega⟩
    all_goals (try (exfalso; omega))
    all_goals generalize aay k [] s' = r at *
    all_goals (try have b1 : stE r.2.2 = 0 := by assumption)
    all_goals (try rw [if_pos b1] at *)
    · have b0 : r.1 = 0 := by assumption
      have b3 : (stT r.2.2).k.toNat = 93 := by omega
      have hb : bhD 93 r = 0 := by unfold bhD; rw [if_neg (by omega), if_pos b3]
      rw [if_neg (by omega), if_neg (by omega), if_pos b3] at i4
      rw [i4]
      refine aa9.mk [.swap 0 4] ?_ <;> (repeat' first | trivial | rfl | exact eqS _ _ | apply And.intro | apply eqA | apply eqB | apply eqC | apply eqD | apply eqE | apply eqF | apply eqG | apply eqH | apply eqI)
      exact (List.map_append ..).symm
    · have b0 : r.1 = 0 := by assumption
      have b3 : ¬ (stT r.2.2).k.toNat = 93 := by omega
      have b4 : ¬ (stT r.2.2).k.toNat ≠ 44 := by omega
      have hb : bhD 93 r = 0 := by unfold bhD; rw [if_neg (by omega), if_neg b3, if_neg b4]
      rw [if_neg (by omega), if_neg (by omega), if_neg b3] at i4
      have hp0 := agy b1
      have hr := ab5 r.2.2
      have nd := nd b0
      refine ⟨[], (i + 1, n, stR r.2.2, acc ++ r.2.1, stT r.2.2), ⟨by show i + 1 + n = _; omega, by show (stR r.2.2).1.length + 1 ≤ n; omega, by show (acc ++ r.2.1).length + (stR r.2.2).1.length ≤ _; rw [List.length_append]; omega, i4⟩, ?_, Nat.lt_succ_self n⟩
      refine Go.VG.Sub.mk rfl ?_ ?_ ?_ ?_ <;> (repeat' first | trivial | rfl | exact eqS _ _ | apply And.intro | apply eqA | apply eqB | apply eqC | apply eqD | apply eqE | apply eqF | apply eqG | apply eqH | apply eqI)
      all_goals first
        | (first | omega | (simp (discharger := omega) only [wR]; omega) | (simp only [lnS]; omega) | (simp (discharger := omega) [-List.getD_eq_getElem?_getD, wR] <;> omega))
        | exact (List.map_append ..).symm
    · have b0 : r.1 = 0 := by assumption
      have hb : bhD 93 r = 3 := by unfold bhD; rw [if_neg (by omega), if_neg (by omega), if_pos (by omega)]
      rw [if_neg (by omega), hb, if_pos (by decide)] at i4
      rw [i4]
      (refine aa9.mk [.tm 6 4, .swap 0 8] ?_ <;> (repeat' first | trivial | rfl | refine And.intro ?_ ?_))
    · have b0 : r.1 = 0 := by assumption
      have b1 : stE r.2.2 ≠ 0 := by assumption
      have hb : bhD 93 r = stE r.2.2 := by unfold bhD; rw [if_pos b1]
      rw [if_neg (by omega), hb, if_pos b1] at i4
      rw [i4]
      (refine aa9.mk [.tm 6 4, .swap 0 8] ?_ <;> (repeat' first | trivial | rfl | refine And.intro ?_ ?_))
    · have b0 : r.1 ≠ 0 := by assumption
      rw [if_pos b0] at i4
      rw [i4]
      (refine aa9.mk [.tm 6 4, .swap 0 8] ?_ <;> (repeat' first | trivial | rfl | refine And.intro ?_ ?_))
end Go.Proofs.Ytllncocibkgjkaa
