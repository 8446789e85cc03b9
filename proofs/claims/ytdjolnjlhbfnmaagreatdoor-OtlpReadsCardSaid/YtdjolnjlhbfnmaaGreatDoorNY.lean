/-
  A part of the proof.
-/
import Derived.Test.YtdjolnjlhbfnmaaGreatDoorNX
import Derived.Test.YtdjolnjlhbfnmaaGreatDoorNU
set_option linter.unusedSimpArgs false
set_option linter.unusedVariables false
set_option maxHeartbeats 4000000
namespace Go.Proofs.YtdjolnjlhbfnmaaGreatDoor
-- #defs NS NW
open Go Go.VG
set_option maxRecDepth 100000
def jA {α : Type} (sz : Nat) (e : α → V) (r : Int × List α) : V := if r.1 = 0 then .tuple [.list false sz (r.2.map e), .int .i64 r.1] else .tuple [.list true 0 [], .int .i64 r.1]
theorem vJ {α : Type} {sz : Nat} {e : α → V} (r : Int × List α) (h : r.1 ≠ 0 → r.2 = []) : Wk (jA sz e r) (.tuple [.list false sz (r.2.map e), .int .i64 r.1]) := by
 unfold jA
 split
 . exact Wk.refl _
 . rename_i q
   rw [h q]
   exact Wk.tuple (aE.cons (Wk.nil (.inl rfl)) (aE.refl _))
theorem uu {α : Type} {f : List UInt8 → Int × α} : ∀ {L : List (List UInt8)} {acc : List α}, (aC f L acc).1 ≠ 0 → (aC f L acc).2 = []
 | [], _, h => absurd rfl h
 | x :: xs, acc, h => by
   rw [aC] at h ⊢
   split
   . rfl
   . rename_i q
     rw [if_neg q] at h
     exact uu h
theorem HW (q : Nat) (L : List (List UInt8)) (hb : L.length ≤ 9000 ∧ ∀ t ∈ L, t.length ≤ 9000) : OK 56 [.buf 0, .func (.func 57) [] []] [.buf 1 q (L.map V.str)] (jA 42 dk (aC bF L [])) none := by
 refine al (C := cx [(57, yG)]) (aq ⟨LJ, trivial⟩) (fn := Tryz.f56) rfl rfl rfl rfl fun hw _ => ?_
 have e1 : (L.map V.str).length = L.length := by simp
 all_goals try conv => whnf
 all_goals try (refine ae.mk ?_; try dsimp only)
 refine aT.mk (Nat × List Sp) (fun (i, acc) => i ≤ (L).length ∧ acc.length = i ∧ aC bF ((L).drop i) acc = aC bF (L) []) (fun (i, acc) => ⟨32, [(1, .func (.func 57) [] []), (6, .buf 1), (11, .buf 0), (12, .int .i64 L.length), (13, .int .i64 i)], [.buf 1 q (L.map V.str), .buf 42 0 (acc.map dk)], [1]⟩) (fun q => (L).length - q.1) [.tm 6 42] (0, []) ⟨Nat.zero_le _, rfl, by rw [List.drop_zero]⟩ ?_ (fun ⟨i, acc⟩ ⟨hi, hn, hr⟩ _ _ => ?_)
 . refine Go.VG.Sub.mk rfl ?_ ?_ ?_ ?_ <;> (repeat' first | trivial | apply ax | apply aH)
   all_goals first
    | rfl
    | (simp; done)
 have hst := fun h => nc (f := bF) (L := L) (acc := acc) (i := i) h
 rw [hr] at hst
 have hz : i = (L).length → aC bF (L) [] = (0, acc) := fun q => by rw [← hr, q, List.drop_length]; rfl
 have hbi := fun h => (hb).2 _ (dX (l := L) (i := i) h)
 repeat' ((conv => whnf); first | apply aj | apply aO | (apply aw <;> intro h) | with_reducible apply c9)
 all_goals try conv => whnf
 all_goals try (refine ae.mk ?_; try dsimp only)
 all_goals (try simp only [List.length_map] at *)
 all_goals first | refine stay ?_ | omega | (simp only [cL]; omega) | skip
 . have h9 := hst (by omega)
   rw [if_neg (fun z => z (by assumption))] at h9
   refine ⟨[], (i + 1, acc ++ [_]), ⟨by show i + 1 ≤ L.length; omega, by rw [List.length_append, List.length_singleton, hn], h9.symm⟩, ?_, by show L.length - (i + 1) < L.length - i; omega⟩
   refine Go.VG.Sub.mk rfl ?_ ?_ ?_ ?_ <;> (repeat' first | trivial | apply ax | apply aH | apply bo)
   all_goals first
    | (rw [bc]; omega)
    | (rw [List.map_append]; rfl)
 . have h9 := hst (by omega)
   rw [if_pos (by assumption)] at h9
   rw [h9]
   unfold jA
   rw [if_neg (by assumption)]
   refine af.mk [] ?_ <;> (repeat' first | trivial)
 . rw [hz (by omega)]
   unfold jA
   rw [if_pos rfl]
   refine af.mk [.bk 1] ?_ <;> (repeat' first | trivial)
-- #name olSp otlp.each[api.Span]
def yx : Sm := fun args σ => match args, σ with
 | [.buf 0, .func (.func 57) [] []], [.buf 1 _ l] => some (l = (l.map cz).map V.str ∧ ((l.map cz).length ≤ 9000 ∧ ∀ t ∈ l.map cz, t.length ≤ 9000), .tuple [.list false 42 ((aC bF (l.map cz) []).2.map dk), .int .i64 (aC bF (l.map cz) []).1], none)
 | _, _ => none
theorem Lz : au 56 yx := by
 intro args sg pre x r he hp
 unfold yx at he
 split at he <;> cases he
 obtain ⟨h1, h2⟩ := hp
 rename_i q l
 have := (HW q (l.map cz) h2).res (vJ _ uu)
 rw [← h1] at this
 exact this
def uZ (b : List UInt8 → Bool) : Sm := fun args σ => match args, σ with
 | [.str s], [] => match b s with
   | true => some (s.length ≤ 1000000000, .tuple [.ptr 0 0, .int .i64 0], some [.cells [.buf 1], .buf 4 0 ((aF s).map av)])
   | false => some (s.length ≤ 1000000000, .tuple [.nilptr, .int .i64 (ao s)], none)
 | _, _ => none
theorem Cq {b : List UInt8 → Bool} (hb : ∀ s, b s = decide (ao s = 0)) : au 9 (uZ b) := by
 intro args sg pre x r he hp
 unfold uZ at he
 split at he
 . rename_i s
   by_cases h : ao s = 0
   . rw [show b s = true from (hb s).trans (decide_eq_true h)] at he
     cases he
     exact lM [.str s] [] _ _ _ rfl ⟨hp, h⟩
   . rw [show b s = false from (hb s).trans (decide_eq_false h)] at he
     cases he
     exact lL [.str s] [] _ _ _ rfl ⟨hp, h⟩
 . cases he
theorem xE {α : Type} {f g : List UInt8 → Int × α} (h : ∀ x, (g x).1 = (f x).1 ∧ ((f x).1 = 0 → (g x).2 = (f x).2)) : ∀ (L : List (List UInt8)) (acc : List α), aC g L acc = aC f L acc
 | [], acc => rfl
 | x :: xs, acc => by
   rw [aC, aC, (h x).1]
   by_cases q : (f x).1 = 0
   . rw [if_neg (fun z => z q), if_neg (fun z => z q), (h x).2 q]
     exact xE h xs _
   . rw [if_pos q, if_pos q]
def eR (s : List UInt8) : Int × Sc :=
 if ao s ≠ 0 then (ao s, default) else if ao (jn 1 s) ≠ 0 then (ao (jn 1 s), default)
 else ((aC bF (ai 2 s) []).1, ⟨tx 1 (jn 1 s), tx 2 (jn 1 s), (aC bF (ai 2 s) []).2⟩)
theorem Nd (x : List UInt8) : (eR x).1 = (ct x).1 ∧ ((ct x).1 = 0 → (eR x).2 = (ct x).2) := by
 unfold eR ct
 split
 . exact ⟨rfl, fun _ => rfl⟩
 split
 . exact ⟨rfl, fun _ => rfl⟩
 by_cases q : (aC bF (ai 2 x) []).1 = 0
 . rw [if_neg (fun z => z q), q]
   exact ⟨rfl, fun _ => rfl⟩
 . rw [if_pos q]
   exact ⟨rfl, fun z => absurd z q⟩
theorem HR (s : List UInt8) (hs : s.length ≤ 9000) (h0 : ¬ ao s = 0) : OK 31 [.str s] [] (.tuple [.agg [.str [], .str [], .list true 0 []], .int .i64 (ao s)]) none := by
 refine al (C := cx [(9, kW)]) (aq ⟨lL, trivial⟩) (fn := Tryz.f31) rfl rfl rfl rfl fun hw _ => ?_
 repeat' ((conv => whnf); first | apply aj | apply aO | (apply aw <;> intro h))
 all_goals try conv => whnf
 all_goals try (refine ae.mk ?_; try dsimp only)
 all_goals first
  | exact ⟨by omega, h0⟩
  | exact absurd (by assumption) h0
  | skip
 all_goals
  refine af.mk [] ?_ <;> (repeat' first | trivial)
theorem HQ (s : List UInt8) (hs : s.length ≤ 9000) (h0 : ao s = 0) (h1 : ¬ ao (jn 1 s) = 0) : OK 31 [.str s] [] (.tuple [.agg [.str [], .str [], .list true 0 []], .int .i64 (ao (jn 1 s))]) none := by
 obtain ⟨b, hb⟩ : ∃ b : List UInt8 → Bool, ∀ s, b s = decide (ao s = 0) := ⟨_, fun _ => rfl⟩
 refine al (C := cx [(9, uZ b), (28, np)]) (aq ⟨Cq hb, pV, trivial⟩) (fn := Tryz.f31) rfl rfl rfl rfl fun hw _ => ?_
 have hos := cD hs
 have hj := @je 1 s
 all_goals try conv => whnf
 all_goals try (refine ae.mk ?_; try dsimp only)
 conv in (cV _ _ _ _) => whnf
 conv in (Ctx.Γ _ _ _ _) => whnf
 rw [((hb s).trans (decide_eq_true h0))]
 repeat' ((conv => whnf); apply aj)
 all_goals try conv => whnf
 all_goals try (refine ae.mk ?_; try dsimp only)
 all_goals (try simp only [bW, gV] at *)
 . omega
 . exact hos
 conv in (cV _ _ _ _) => whnf
 conv in (Ctx.Γ _ _ _ _) => whnf
 rw [((hb (jn 1 s)).trans (decide_eq_false h1))]
 repeat' ((conv => whnf); first | apply aj | apply aO | (apply aw <;> intro h))
 all_goals try conv => whnf
 all_goals try (refine ae.mk ?_; try dsimp only)
 . omega
 . exact absurd (by assumption) h1
 . exact absurd (by assumption) h1
 . refine af.mk [] ?_ <;> (repeat' first | trivial)
theorem HS (s : List UInt8) (hs : s.length ≤ 9000) (h0 : ao s = 0) (h1 : ao (jn 1 s) = 0) : OK 31 [.str s] [] (.tuple [cw (eR s).2, .int .i64 (eR s).1]) none := by
 refine al (C := cx [(9, kX), (28, np), (55, i9), (11, kY), (56, yx)]) (aq ⟨lM, pV, iQ, mR, Lz, trivial⟩) (fn := Tryz.f31) rfl rfl rfl rfl fun hw _ => ?_
 have hos := cD hs
 have hj := @je 1 s
 have hoj := cD (pQ (no := 1) hs)
 have he := fJ (no := 2) (s := s)
 rw [show eR s = ((aC bF (ai 2 s) []).1, ⟨tx 1 (jn 1 s), tx 2 (jn 1 s), (aC bF (ai 2 s) []).2⟩) from (if_neg fun q => q h0).trans (if_neg fun q => q h1)]
 repeat' ((conv => whnf); apply aj)
 all_goals try conv => whnf
 all_goals try (refine ae.mk ?_; try dsimp only)
 all_goals (try simp only [bW, ib, gV, gO, fT] at *)
 all_goals first
  | exact ⟨by omega, h0⟩
  | exact ⟨by omega, h1⟩
  | exact hos
  | exact hoj
  | exact ⟨trivial, by omega, fun t ht => Nat.le_trans (he.2 t ht) hs⟩
  | skip
 all_goals
  refine af.mk [] ?_ <;> (repeat' first | trivial)
-- #name olSc otlp.readScope
def yu : Sm := fun args σ => match args, σ with
 | [.str s], [] => some (s.length ≤ 9000, .tuple [cw (eR s).2, .int .i64 (eR s).1], none)
 | _, _ => none
theorem Lv : au 31 yu := by
 intro args sg pre x r he hp
 unfold yu at he
 split at he <;> cases he
 rename_i s
 by_cases h : ao s = 0
 . by_cases h1 : ao (jn 1 s) = 0
   . exact HS s hp h h1
   . rw [show eR s = (ao (jn 1 s), default) from (if_neg fun q => q h).trans (if_pos h1)]
     exact (HQ s hp h h1).res (Wk.tuple (aE.cons (Wk.agg (aE.cons (Wk.refl _) (aE.cons (Wk.refl _) (aE.cons (Wk.nil (.inl rfl)) aE.nil)))) (aE.refl _)))
 . rw [show eR s = (ao s, default) from if_pos h]
   exact (HR s hp h).res (Wk.tuple (aE.cons (Wk.agg (aE.cons (Wk.refl _) (aE.cons (Wk.refl _) (aE.cons (Wk.nil (.inl rfl)) aE.nil)))) (aE.refl _)))
theorem HV (q : Nat) (L : List (List UInt8)) (hb : L.length ≤ 9000 ∧ ∀ t ∈ L, t.length ≤ 9000) : OK 30 [.buf 0, .func (.func 31) [] []] [.buf 1 q (L.map V.str)] (jA 3 cw (aC eR L [])) none := by
 refine al (C := cx [(31, yu)]) (aq ⟨Lv, trivial⟩) (fn := Tryz.f30) rfl rfl rfl rfl fun hw _ => ?_
 have e1 : (L.map V.str).length = L.length := by simp
 all_goals try conv => whnf
 all_goals try (refine ae.mk ?_; try dsimp only)
 refine aT.mk (Nat × List Sc) (fun (i, acc) => i ≤ (L).length ∧ acc.length = i ∧ aC eR ((L).drop i) acc = aC eR (L) []) (fun (i, acc) => ⟨32, [(1, .func (.func 31) [] []), (6, .buf 1), (11, .buf 0), (12, .int .i64 L.length), (13, .int .i64 i)], [.buf 1 q (L.map V.str), .buf 3 0 (acc.map cw)], [1]⟩) (fun q => (L).length - q.1) [.tm 6 3] (0, []) ⟨Nat.zero_le _, rfl, by rw [List.drop_zero]⟩ ?_ (fun ⟨i, acc⟩ ⟨hi, hn, hr⟩ _ _ => ?_)
 . refine Go.VG.Sub.mk rfl ?_ ?_ ?_ ?_ <;> (repeat' first | trivial | apply ax | apply aH)
   all_goals first
    | rfl
    | (simp; done)
 have hst := fun h => nc (f := eR) (L := L) (acc := acc) (i := i) h
 rw [hr] at hst
 have hz : i = (L).length → aC eR (L) [] = (0, acc) := fun q => by rw [← hr, q, List.drop_length]; rfl
 have hbi := fun h => (hb).2 _ (dX (l := L) (i := i) h)
 repeat' ((conv => whnf); first | apply aj | apply aO | (apply aw <;> intro h) | with_reducible apply c9)
 all_goals try conv => whnf
 all_goals try (refine ae.mk ?_; try dsimp only)
 all_goals (try simp only [List.length_map] at *)
 all_goals first | refine stay ?_ | omega | (simp only [cL]; omega) | skip
 . have h9 := hst (by omega)
   rw [if_neg (fun z => z (by assumption))] at h9
   refine ⟨[], (i + 1, acc ++ [_]), ⟨by show i + 1 ≤ L.length; omega, by rw [List.length_append, List.length_singleton, hn], h9.symm⟩, ?_, by show L.length - (i + 1) < L.length - i; omega⟩
   refine Go.VG.Sub.mk rfl ?_ ?_ ?_ ?_ <;> (repeat' first | trivial | apply ax | apply aH | apply bo)
   all_goals first
    | (rw [bc]; omega)
    | (rw [List.map_append]; rfl)
 . have h9 := hst (by omega)
   rw [if_pos (by assumption)] at h9
   rw [h9]
   unfold jA
   rw [if_neg (by assumption)]
   refine af.mk [] ?_ <;> (repeat' first | trivial)
 . rw [hz (by omega)]
   unfold jA
   rw [if_pos rfl]
   refine af.mk [.bk 1] ?_ <;> (repeat' first | trivial)
-- #name olScs otlp.each[api.Scope]
def yw : Sm := fun args σ => match args, σ with
 | [.buf 0, .func (.func 31) [] []], [.buf 1 _ l] => some (l = (l.map cz).map V.str ∧ ((l.map cz).length ≤ 9000 ∧ ∀ t ∈ l.map cz, t.length ≤ 9000), .tuple [.list false 3 ((aC eR (l.map cz) []).2.map cw), .int .i64 (aC eR (l.map cz) []).1], none)
 | _, _ => none
theorem Lx : au 30 yw := by
 intro args sg pre x r he hp
 unfold yw at he
 split at he <;> cases he
 obtain ⟨h1, h2⟩ := hp
 rename_i q l
 have := (HV q (l.map cz) h2).res (vJ _ uu)
 rw [← h1] at this
 exact this
def gD (s : List UInt8) : Int × Rs :=
 if ao s ≠ 0 then (ao s, default) else if ao (jn 1 s) ≠ 0 then (ao (jn 1 s), default)
 else if (bI 1 (jn 1 s)).1 ≠ 0 then ((bI 1 (jn 1 s)).1, default)
 else ((aC eR (ai 2 s) []).1, ⟨(bI 1 (jn 1 s)).2, (aC eR (ai 2 s) []).2⟩)
theorem Nc (x : List UInt8) : (gD x).1 = (br x).1 ∧ ((br x).1 = 0 → (gD x).2 = (br x).2) := by
 unfold gD br
 rw [xE Nd]
 split
 . exact ⟨rfl, fun _ => rfl⟩
 split
 . exact ⟨rfl, fun _ => rfl⟩
 split
 . exact ⟨rfl, fun _ => rfl⟩
 by_cases q : (aC ct (ai 2 x) []).1 = 0
 . rw [if_neg (fun z => z q), q]
   exact ⟨rfl, fun _ => rfl⟩
 . rw [if_pos q]
   exact ⟨rfl, fun z => absurd z q⟩
theorem HN (s : List UInt8) (hs : s.length ≤ 9000) (h0 : ¬ ao s = 0) : OK 12 [.str s] [] (.tuple [.agg [.list true 0 [], .list true 0 []], .int .i64 (ao s)]) none := by
 refine al (C := cx [(9, kW)]) (aq ⟨lL, trivial⟩) (fn := Tryz.f12) rfl rfl rfl rfl fun hw _ => ?_
 repeat' ((conv => whnf); first | apply aj | apply aO | (apply aw <;> intro h))
 all_goals try conv => whnf
 all_goals try (refine ae.mk ?_; try dsimp only)
 all_goals first
  | exact ⟨by omega, h0⟩
  | exact absurd (by assumption) h0
  | skip
 all_goals
  refine af.mk [] ?_ <;> (repeat' first | trivial)
theorem HM (s : List UInt8) (hs : s.length ≤ 9000) (h0 : ao s = 0) (h1 : ¬ ao (jn 1 s) = 0) : OK 12 [.str s] [] (.tuple [.agg [.list true 0 [], .list true 0 []], .int .i64 (ao (jn 1 s))]) none := by
 obtain ⟨b, hb⟩ : ∃ b : List UInt8 → Bool, ∀ s, b s = decide (ao s = 0) := ⟨_, fun _ => rfl⟩
 refine al (C := cx [(9, uZ b), (28, np)]) (aq ⟨Cq hb, pV, trivial⟩) (fn := Tryz.f12) rfl rfl rfl rfl fun hw _ => ?_
 have hos := cD hs
 have hj := @je 1 s
 all_goals try conv => whnf
 all_goals try (refine ae.mk ?_; try dsimp only)
 conv in (cV _ _ _ _) => whnf
 conv in (Ctx.Γ _ _ _ _) => whnf
 rw [((hb s).trans (decide_eq_true h0))]
 repeat' ((conv => whnf); apply aj)
 all_goals try conv => whnf
 all_goals try (refine ae.mk ?_; try dsimp only)
 all_goals (try simp only [bW, gV] at *)
 . omega
 . exact hos
 conv in (cV _ _ _ _) => whnf
 conv in (Ctx.Γ _ _ _ _) => whnf
 rw [((hb (jn 1 s)).trans (decide_eq_false h1))]
 repeat' ((conv => whnf); first | apply aj | apply aO | (apply aw <;> intro h))
 all_goals try conv => whnf
 all_goals try (refine ae.mk ?_; try dsimp only)
 . omega
 . exact absurd (by assumption) h1
 . exact absurd (by assumption) h1
 . refine af.mk [] ?_ <;> (repeat' first | trivial)
theorem HO (s : List UInt8) (hs : s.length ≤ 9000) (h0 : ao s = 0) (h1 : ao (jn 1 s) = 0) : OK 12 [.str s] [] (if (bI 1 (jn 1 s)).1 ≠ 0 then .tuple [.agg [.list true 0 [], .list true 0 []], .int .i64 (bI 1 (jn 1 s)).1] else .tuple [dd ⟨(bI 1 (jn 1 s)).2, (aC eR (ai 2 s) []).2⟩, .int .i64 (aC eR (ai 2 s) []).1]) none := by
 refine al (C := cx [(9, kX), (28, np), (29, sH (eb 32) 32), (11, kY), (30, yw)]) (aq ⟨lM, pV, wO (eb 32) 32 (wP 32), mR, Lx, trivial⟩) (fn := Tryz.f12) rfl rfl rfl rfl fun hw _ => ?_
 have hos := cD hs
 have hj := @je 1 s
 have hoj := cD (pQ (no := 1) hs)
 have he := fJ (no := 2) (s := s)
 repeat' ((conv => whnf); first | apply aj | apply aO | (apply aw <;> intro h))
 all_goals try conv => whnf
 all_goals try (refine ae.mk ?_; try dsimp only)
 all_goals (try simp only [bW, ib, gV, gO, fT] at *)
 all_goals first
  | exact ⟨by omega, h0⟩
  | exact ⟨by omega, h1⟩
  | exact hos
  | exact hoj
  | exact ⟨trivial, pj (pQ hs)⟩
  | exact ⟨trivial, by omega, fun t ht => Nat.le_trans (he.2 t ht) hs⟩
  | (rw [if_neg (fun z => z (by assumption))]
     refine af.mk [] ?_ <;> (repeat' first | trivial)
     done)
  | (rw [if_pos (by assumption)]
     refine af.mk [] ?_ <;> (repeat' first | trivial)
     done)
-- #name olRs otlp.readResource
def yp : Sm := fun args σ => match args, σ with
 | [.str s], [] => some (s.length ≤ 9000, .tuple [dd (gD s).2, .int .i64 (gD s).1], none)
 | _, _ => none
theorem xI (c : Int) : Wk (.tuple [.agg [.list true 0 [], .list true 0 []], .int .i64 c]) (.tuple [dd default, .int .i64 c]) := Wk.tuple (aE.cons (Wk.agg (aE.cons (Wk.nil (.inl rfl)) (aE.cons (Wk.nil (.inl rfl)) aE.nil))) (aE.refl _))
theorem Lt : au 12 yp := by
 intro args sg pre x r he hp
 unfold yp at he
 split at he <;> cases he
 rename_i s
 by_cases h : ao s = 0
 . by_cases h1 : ao (jn 1 s) = 0
   . have := HO s hp h h1
     by_cases h2 : (bI 1 (jn 1 s)).1 = 0
     . rw [if_neg (fun z => z h2)] at this
       rw [show gD s = _ from (if_neg fun q => q h).trans ((if_neg fun q => q h1).trans (if_neg fun q => q h2))]
       exact this
     . rw [if_pos h2] at this
       rw [show gD s = _ from (if_neg fun q => q h).trans ((if_neg fun q => q h1).trans (if_pos h2))]
       exact this.res (xI _)
   . rw [show gD s = (ao (jn 1 s), default) from (if_neg fun q => q h).trans (if_pos h1)]
     exact (HM s hp h h1).res (xI _)
 . rw [show gD s = (ao s, default) from if_pos h]
   exact (HN s hp h).res (xI _)
theorem HP (q : Nat) (L : List (List UInt8)) (hb : L.length ≤ 9000 ∧ ∀ t ∈ L, t.length ≤ 9000) : OK 10 [.buf 0, .func (.func 12) [] []] [.buf 1 q (L.map V.str)] (jA 2 dd (aC gD L [])) none := by
 refine al (C := cx [(12, yp)]) (aq ⟨Lt, trivial⟩) (fn := Tryz.f10) rfl rfl rfl rfl fun hw _ => ?_
 have e1 : (L.map V.str).length = L.length := by simp
 all_goals try conv => whnf
 all_goals try (refine ae.mk ?_; try dsimp only)
 refine aT.mk (Nat × List Rs) (fun (i, acc) => i ≤ (L).length ∧ acc.length = i ∧ aC gD ((L).drop i) acc = aC gD (L) []) (fun (i, acc) => ⟨32, [(1, .func (.func 12) [] []), (6, .buf 1), (11, .buf 0), (12, .int .i64 L.length), (13, .int .i64 i)], [.buf 1 q (L.map V.str), .buf 2 0 (acc.map dd)], [1]⟩) (fun q => (L).length - q.1) [.tm 6 2] (0, []) ⟨Nat.zero_le _, rfl, by rw [List.drop_zero]⟩ ?_ (fun ⟨i, acc⟩ ⟨hi, hn, hr⟩ _ _ => ?_)
 . refine Go.VG.Sub.mk rfl ?_ ?_ ?_ ?_ <;> (repeat' first | trivial | apply ax | apply aH)
   all_goals first
    | rfl
    | (simp; done)
 have hst := fun h => nc (f := gD) (L := L) (acc := acc) (i := i) h
 rw [hr] at hst
 have hz : i = (L).length → aC gD (L) [] = (0, acc) := fun q => by rw [← hr, q, List.drop_length]; rfl
 have hbi := fun h => (hb).2 _ (dX (l := L) (i := i) h)
 repeat' ((conv => whnf); first | apply aj | apply aO | (apply aw <;> intro h) | with_reducible apply c9)
 all_goals try conv => whnf
 all_goals try (refine ae.mk ?_; try dsimp only)
 all_goals (try simp only [List.length_map] at *)
 all_goals first | refine stay ?_ | omega | (simp only [cL]; omega) | skip
 . have h9 := hst (by omega)
   rw [if_neg (fun z => z (by assumption))] at h9
   refine ⟨[], (i + 1, acc ++ [_]), ⟨by show i + 1 ≤ L.length; omega, by rw [List.length_append, List.length_singleton, hn], h9.symm⟩, ?_, by show L.length - (i + 1) < L.length - i; omega⟩
   refine Go.VG.Sub.mk rfl ?_ ?_ ?_ ?_ <;> (repeat' first | trivial | apply ax | apply aH | apply bo)
   all_goals first
    | (rw [bc]; omega)
    | (rw [List.map_append]; rfl)
 . have h9 := hst (by omega)
   rw [if_pos (by assumption)] at h9
   rw [h9]
   unfold jA
   rw [if_neg (by assumption)]
   refine af.mk [] ?_ <;> (repeat' first | trivial)
 . rw [hz (by omega)]
   unfold jA
   rw [if_pos rfl]
   refine af.mk [.bk 1] ?_ <;> (repeat' first | trivial)
-- #name olRss otlp.each[api.Resource]
def yq : Sm := fun args σ => match args, σ with
 | [.buf 0, .func (.func 12) [] []], [.buf 1 _ l] => some (l = (l.map cz).map V.str ∧ ((l.map cz).length ≤ 9000 ∧ ∀ t ∈ l.map cz, t.length ≤ 9000), .tuple [.list false 2 ((aC gD (l.map cz) []).2.map dd), .int .i64 (aC gD (l.map cz) []).1], none)
 | _, _ => none
theorem Lu : au 10 yq := by
 intro args sg pre x r he hp
 unfold yq at he
 split at he <;> cases he
 obtain ⟨h1, h2⟩ := hp
 rename_i q l
 have := (HP q (l.map cz) h2).res (vJ _ uu)
 rw [← h1] at this
 exact this
end Go.Proofs.YtdjolnjlhbfnmaaGreatDoor
