/-
  A part of the proof.
-/
import Derived.Test.YtdjolnjlhbfnmaaGreatDoorNT
set_option linter.unusedSimpArgs false
set_option linter.unusedVariables false
set_option maxHeartbeats 4000000
namespace Go.Proofs.YtdjolnjlhbfnmaaGreatDoor
-- #defs NS
open Go Go.VG
set_option maxRecDepth 100000
theorem pQ {no : Int} {s : List UInt8} (h : s.length ≤ 9000) : (jn no s).length ≤ 9000 := Nat.le_trans je h
theorem H7 (s : List UInt8) (hp : s.length ≤ 9000 ∧ ao s = 0 ∧ ao (jn 1 s) = 0) : OK 37 ([.str s]) ([]) (.tuple [.buf 0, .buf 1, .int .i64 0]) (some [.buf 4 0 ((aF s).map av), .buf 4 0 ((aF (jn 1 s)).map av)]) := by
 refine al (C := cx [(14, eK), (63, nq)]) (aq ⟨fg, pW, trivial⟩) (fn := Tryz.f37) rfl rfl rfl rfl fun hw hs => ?_
 have hos := cD hp.1
 have hj := @je 1 s
 repeat' ((conv => whnf); first | apply aj | apply aO | (apply aw <;> intro h))
 all_goals try conv => whnf
 all_goals try (refine ae.mk ?_; try dsimp only)
 all_goals (try simp only [bW, ib, jS, gV, gO, fT] at *)
 . omega
 . exact hos
 . omega
 . rw [hp.2.2]
   refine af.mk [] ?_ <;> (repeat' first | trivial)
 . exact absurd hp.2.1 (by assumption)
def uK : Sm := fun args σ => match args, σ with
 | [.str s], [] => some (s.length ≤ 9000 ∧ ao s = 0 ∧ ao (jn 1 s) = 0, .tuple [.buf 0, .buf 1, .int .i64 0], some [.buf 4 0 ((aF s).map av), .buf 4 0 ((aF (jn 1 s)).map av)])
 | _, _ => none
theorem C7 : au 37 uK := by
 intro args sg pre x r he hp
 unfold uK at he
 split at he <;> cases he
 . exact H7 (hp := hp) ..
theorem H6 (s : List UInt8) (hp : s.length ≤ 9000 ∧ ao s ≠ 0) : OK 37 ([.str s]) ([]) (.tuple [.list true 0 [], .list true 0 [], .int .i64 (ao s)]) (none) := by
 refine al (C := cx [(14, eK), (63, nq)]) (aq ⟨fg, pW, trivial⟩) (fn := Tryz.f37) rfl rfl rfl rfl fun hw hs => ?_
 have hos := cD hp.1
 repeat' ((conv => whnf); first | apply aj | apply aO | (apply aw <;> intro h))
 all_goals try conv => whnf
 all_goals try (refine ae.mk ?_; try dsimp only)
 all_goals (try simp only [bW, ib, jS, gV, gO, fT] at *)
 . omega
 . exact absurd (by assumption) hp.2
 . exact absurd (by assumption) hp.2
 . exact absurd (by assumption) hp.2
 . refine af.mk [] ?_ <;> (repeat' first | trivial)
def uJ : Sm := fun args σ => match args, σ with
 | [.str s], [] => some (s.length ≤ 9000 ∧ ao s ≠ 0, .tuple [.list true 0 [], .list true 0 [], .int .i64 (ao s)], none)
 | _, _ => none
theorem C6 : au 37 uJ := by
 intro args sg pre x r he hp
 unfold uJ at he
 split at he <;> cases he
 . exact H6 (hp := hp) ..
theorem H5 (s : List UInt8) (hp : s.length ≤ 9000 ∧ ao s = 0 ∧ ao (jn 1 s) ≠ 0) : OK 37 ([.str s]) ([]) (.tuple [.buf 0, .buf 1, .int .i64 (ao (jn 1 s))]) (some [.buf 4 0 ((aF s).map av), .buf 4 0 ((aF (jn 1 s)).map av)]) := by
 refine al (C := cx [(14, eK), (63, nq)]) (aq ⟨fg, pW, trivial⟩) (fn := Tryz.f37) rfl rfl rfl rfl fun hw hs => ?_
 have hos := cD hp.1
 have hj := @je 1 s
 repeat' ((conv => whnf); first | apply aj | apply aO | (apply aw <;> intro h))
 all_goals try conv => whnf
 all_goals try (refine ae.mk ?_; try dsimp only)
 all_goals (try simp only [bW, ib, jS, gV, gO, fT] at *)
 . omega
 . exact hos
 . omega
 . refine af.mk [] ?_ <;> (repeat' first | trivial)
 . exact absurd hp.2.1 (by assumption)
def uI : Sm := fun args σ => match args, σ with
 | [.str s], [] => some (s.length ≤ 9000 ∧ ao s = 0 ∧ ao (jn 1 s) ≠ 0, .tuple [.buf 0, .buf 1, .int .i64 (ao (jn 1 s))], some [.buf 4 0 ((aF s).map av), .buf 4 0 ((aF (jn 1 s)).map av)])
 | _, _ => none
theorem C5 : au 37 uI := by
 intro args sg pre x r he hp
 unfold uI at he
 split at he <;> cases he
 . exact H5 (hp := hp) ..
def jX (r : Int × Sc) : V := if r.1 = 0 then .tuple [cw r.2, .int .i64 r.1] else .tuple [.agg [.str [], .str [], .list true 0 []], .int .i64 r.1]
theorem OC (r : Int × Sc) (h : r.1 ≠ 0 → r.2 = default) : Wk (jX r) (.tuple [cw r.2, .int .i64 r.1]) := by
 unfold jX
 split
 . exact Wk.refl _
 . rename_i q
   rw [h q]
   exact Wk.tuple (aE.cons (Wk.agg (aE.cons (Wk.refl _) (aE.cons (Wk.refl _) (aE.cons (Wk.nil (.inl rfl)) aE.nil)))) (aE.refl _))
theorem Kl (s : List UInt8) (hs : s.length ≤ 9000) (h0 : ao s = 0) (h1 : ao (jn 1 s) = 0) : OK 39 [.str s] [] (jX (ct s)) none := by
 refine al (C := cx [(37, uK), (64, nr), (15, jv), (66, zt)]) (aq ⟨C7, pX, kL, k_rSp, trivial⟩) (fn := Tryz.f39) rfl rfl rfl rfl fun hw _ => ?_
 have hos := cD hs
 have hoj := cD (pQ (no := 1) hs)
 have he := fJ (no := 2) (s := s)
 have hR : ct s = if (aC bF (ai 2 s) []).1 ≠ 0 then ((aC bF (ai 2 s) []).1, default) else (0, ⟨tx 1 (jn 1 s), tx 2 (jn 1 s), (aC bF (ai 2 s) []).2⟩) := (if_neg fun q => q h0).trans (if_neg fun q => q h1)
 repeat' ((conv => whnf); apply aj)
 all_goals try conv => whnf
 all_goals try (refine ae.mk ?_; try dsimp only)
 all_goals (try simp only [bW, ib, jS, gV, gO, fT] at *)
 . exact ⟨hs, h0, h1⟩
 . exact ⟨⟨_, rfl⟩, by have := hoj.2; omega⟩
 . exact ⟨⟨_, rfl⟩, by have := hoj.2; omega⟩
 . exact ⟨⟨_, rfl⟩, by have := hos.2; omega⟩
 refine aT.mk (Nat × List Sp) (fun (i, acc) => i ≤ (ai 2 s).length ∧ acc.length = i ∧ aC bF ((ai 2 s).drop i) acc = aC bF (ai 2 s) []) (fun (i, acc) => ⟨61, [(2, .ptr 0 0), (7, .ptr 3 0), (8, .buf 4), (9, .int .i64 i)], [.cells [.str [], .str [], .list true 0 []], .buf 4 0 ((aF s).map av), .buf 4 0 ((aF (jn 1 s)).map av), .cells [.str (tx 1 (jn 1 s)), .str (tx 2 (jn 1 s)), .buf 6], .buf 1 0 ((ai 2 s).map .str), .dead, .buf 42 0 (acc.map dk)], [0, 1, 2, 3, 4, 6]⟩) (fun q => (ai 2 s).length - q.1) [.cell 3 2 42] (0, []) ⟨Nat.zero_le _, rfl, by rw [List.drop_zero]⟩ ?_ (fun ⟨i, acc⟩ ⟨hi, hn, hr⟩ _ _ => ?_)
 . refine Go.VG.Sub.mk rfl ?_ ?_ ?_ ?_ <;> (repeat' first | trivial)
   all_goals first
    | rfl
    | (simp; done)
 have hst := fun h => nc (f := bF) (L := ai 2 s) (acc := acc) (i := i) h
 rw [hr] at hst
 have hz : i = (ai 2 s).length → aC bF (ai 2 s) [] = (0, acc) := fun q => by rw [← hr, q, List.drop_length]; rfl
 have hbi := fun h => (he).2 _ (dX (l := ai 2 s) (i := i) h)
 repeat' ((conv => whnf); first | apply aj | apply aO | (apply aw <;> intro h) | with_reducible apply c9)
 all_goals try conv => whnf
 all_goals try (refine ae.mk ?_; try dsimp only)
 all_goals (try simp only [List.length_map] at *)
 all_goals first | refine stay ?_ | omega | (simp only [cL]; omega) | skip
 . have h9 := hst (by omega)
   rw [if_neg (fun z => z (by assumption))] at h9
   refine ⟨[], (i + 1, acc ++ [_]), ⟨by show i + 1 ≤ (ai 2 s).length; omega, by rw [List.length_append, List.length_singleton, hn], h9.symm⟩, ?_, by show (ai 2 s).length - (i + 1) < (ai 2 s).length - i; omega⟩
   refine Go.VG.Sub.mk rfl ?_ ?_ ?_ ?_ <;> (repeat' first | trivial | apply ax | apply aH | apply bo)
   all_goals first
    | (rw [bc]; omega)
    | (rw [List.map_append]; rfl)
 . have h9 := hst (by omega)
   rw [if_pos (by assumption)] at h9
   rw [hR, h9, show jX (if ((bF ((ai 2 s).getD i default)).1, ([] : List Sp)).1 ≠ 0 then (((bF ((ai 2 s).getD i default)).1, ([] : List Sp)).1, default) else _) = _ from congrArg jX (if_pos (by assumption))]
   unfold jX
   rw [if_neg (by assumption)]
   refine af.mk [] ?_ <;> (repeat' first | trivial)
 . have hE : aC bF (ai 2 s) [] = (0, acc) := hz (by omega)
   obtain rfl : acc = (aC bF (ai 2 s) []).2 := by rw [hE]
   have hE1 : (aC bF (ai 2 s) []).1 = 0 := by rw [hE]
   clear hst hz hr hbi
   rw [hR, if_neg (fun z => z hE1)]
   unfold jX
   rw [if_pos rfl]
   refine af.mk [.bk 6] ?_ <;> (repeat' first | trivial)
theorem Kk (s : List UInt8) (hs : s.length ≤ 9000) (h0 : ao s ≠ 0) : OK 39 [.str s] [] (jX (ct s)) none := by
 refine al (C := cx [(37, uJ)]) (aq ⟨C6, trivial⟩) (fn := Tryz.f39) rfl rfl rfl rfl fun hw _ => ?_
 rw [show ct s = (ao s, default) from if_pos h0]
 unfold jX
 rw [if_neg h0]
 repeat' ((conv => whnf); first | apply aj | apply aO | (apply aw <;> intro h))
 all_goals try conv => whnf
 all_goals try (refine ae.mk ?_; try dsimp only)
 . exact ⟨hs, h0⟩
 all_goals first
  | exact absurd (by assumption) h0
  | skip
 all_goals
  refine af.mk [] ?_ <;> (repeat' first | trivial)
theorem Kj (s : List UInt8) (hs : s.length ≤ 9000) (h0 : ao s = 0) (h1 : ao (jn 1 s) ≠ 0) : OK 39 [.str s] [] (jX (ct s)) none := by
 refine al (C := cx [(37, uI)]) (aq ⟨C5, trivial⟩) (fn := Tryz.f39) rfl rfl rfl rfl fun hw _ => ?_
 rw [show ct s = (ao (jn 1 s), default) from (if_neg fun q => q h0).trans (if_pos h1)]
 unfold jX
 rw [if_neg h1]
 repeat' ((conv => whnf); first | apply aj | apply aO | (apply aw <;> intro h))
 all_goals try conv => whnf
 all_goals try (refine ae.mk ?_; try dsimp only)
 . exact ⟨hs, h0, h1⟩
 all_goals first
  | exact absurd (by assumption) h1
  | skip
 all_goals
  refine af.mk [] ?_ <;> (repeat' first | trivial)
theorem NA {s : List UInt8} (h : (ct s).1 ≠ 0) : (ct s).2 = default := by
 unfold ct at h ⊢
 split
 . rfl
 split
 . rfl
 split
 . rfl
 . rename_i a b c
   rw [if_neg a, if_neg b, if_neg c] at h
   exact absurd rfl h
def zq : Sm := fun args σ => match args, σ with
 | [.str s], [] => some (s.length ≤ 9000, .tuple [cw (ct s).2, .int .i64 (ct s).1], none)
 | _, _ => none
-- #name rSc truchmanref37.readScope
theorem k_rSc : au 39 zq := by
 intro args sg pre x r he hp
 unfold zq at he
 split at he <;> cases he
 rename_i s
 refine ey.res ?_ (OC _ NA)
 by_cases h : ao s = 0
 . by_cases h1 : ao (jn 1 s) = 0
   . exact Kl s hp h h1
   . exact Kj s hp h h1
 . exact Kk s hp h
def jq (r : Int × Rs) : V := if r.1 = 0 then .tuple [dd r.2, .int .i64 r.1] else .tuple [.agg [.list true 0 [], .list true 0 []], .int .i64 r.1]
theorem NI (r : Int × Rs) (h : r.1 ≠ 0 → r.2 = default) : Wk (jq r) (.tuple [dd r.2, .int .i64 r.1]) := by
 unfold jq
 split
 . exact Wk.refl _
 . rename_i q
   rw [h q]
   exact Wk.tuple (aE.cons (Wk.agg (aE.cons (Wk.nil (.inl rfl)) (aE.cons (Wk.nil (.inl rfl)) aE.nil))) (aE.refl _))
theorem Ki (s : List UInt8) (hs : s.length ≤ 9000) (h0 : ao s = 0) (h1 : ao (jn 1 s) = 0) : OK 16 [.str s] [] (jq (br s)) none := by
 refine al (C := cx [(37, uK), (38, oJ (eb 32) 32), (15, jv), (39, zq)]) (aq ⟨C7, rA (eb 32) 32 (rB 32), kL, k_rSc, trivial⟩) (fn := Tryz.f16) rfl rfl rfl rfl fun hw _ => ?_
 have hos := cD hs
 have hoj := cD (pQ (no := 1) hs)
 have he := fJ (no := 2) (s := s)
 have hR : br s = if (bI 1 (jn 1 s)).1 ≠ 0 then ((bI 1 (jn 1 s)).1, default) else if (aC ct (ai 2 s) []).1 ≠ 0 then ((aC ct (ai 2 s) []).1, default) else (0, ⟨(bI 1 (jn 1 s)).2, (aC ct (ai 2 s) []).2⟩) := (if_neg fun q => q h0).trans (if_neg fun q => q h1)
 repeat' ((conv => whnf); first | apply aj | apply aO | (apply aw <;> intro h))
 all_goals try conv => whnf
 all_goals try (refine ae.mk ?_; try dsimp only)
 all_goals (try simp only [bW, ib, jS, gV, gO, fT] at *)
 . exact ⟨hs, h0, h1⟩
 . exact ⟨⟨_, rfl⟩, by have := hoj.2; omega⟩
 . exact ⟨trivial, pj (pQ hs)⟩
 . exact ⟨⟨_, rfl⟩, by have := hos.2; omega⟩
 . have hE : ¬ (bI 1 (jn 1 s)).1 ≠ 0 := fun z => z (by assumption)
   rw [if_neg hE] at hR
   refine aT.mk (Nat × List Sc) (fun (i, acc) => i ≤ (ai 2 s).length ∧ acc.length = i ∧ aC ct ((ai 2 s).drop i) acc = aC ct (ai 2 s) []) (fun (i, acc) => ⟨63, [(2, .ptr 0 0), (9, .ptr 5 0), (10, .buf 6), (11, .int .i64 i)], [.cells [.list true 0 [], .list true 0 []], .buf 4 0 ((aF s).map av), .buf 4 0 ((aF (jn 1 s)).map av), .buf 1 0 ((ai 1 (jn 1 s)).map .str), .dead, .cells [.list false 7 (aV (bI 1 (jn 1 s)).2), .buf 8], .buf 1 0 ((ai 2 s).map .str), .dead, .buf 3 0 (acc.map cw)], [0, 1, 2, 3, 5, 6, 8]⟩) (fun q => (ai 2 s).length - q.1) [.cell 5 1 3] (0, []) ⟨Nat.zero_le _, rfl, by rw [List.drop_zero]⟩ ?_ (fun ⟨i, acc⟩ ⟨hi, hn, hr⟩ _ _ => ?_)
   . refine Go.VG.Sub.mk rfl ?_ ?_ ?_ ?_ <;> (repeat' first | trivial)
     all_goals first
      | rfl
      | (simp; done)
   have hst := fun h => nc (f := ct) (L := ai 2 s) (acc := acc) (i := i) h
   rw [hr] at hst
   have hz : i = (ai 2 s).length → aC ct (ai 2 s) [] = (0, acc) := fun q => by rw [← hr, q, List.drop_length]; rfl
   have hbi := fun h => (he).2 _ (dX (l := ai 2 s) (i := i) h)
   repeat' ((conv => whnf); first | apply aj | apply aO | (apply aw <;> intro h) | with_reducible apply c9)
   all_goals try conv => whnf
   all_goals try (refine ae.mk ?_; try dsimp only)
   all_goals (try simp only [List.length_map] at *)
   all_goals first | refine stay ?_ | omega | (simp only [cL]; omega) | skip
   . have h9 := hst (by omega)
     rw [if_neg (fun z => z (by assumption))] at h9
     refine ⟨[], (i + 1, acc ++ [_]), ⟨by show i + 1 ≤ (ai 2 s).length; omega, by rw [List.length_append, List.length_singleton, hn], h9.symm⟩, ?_, by show (ai 2 s).length - (i + 1) < (ai 2 s).length - i; omega⟩
     refine Go.VG.Sub.mk rfl ?_ ?_ ?_ ?_ <;> (repeat' first | trivial | apply ax | apply aH | apply bo)
     all_goals first
      | (rw [bc]; omega)
      | (rw [List.map_append]; rfl)
   . have h9 := hst (by omega)
     rw [if_pos (by assumption)] at h9
     rw [hR, h9, show jq (if ((ct ((ai 2 s).getD i default)).1, ([] : List Sc)).1 ≠ 0 then (((ct ((ai 2 s).getD i default)).1, ([] : List Sc)).1, default) else _) = _ from congrArg jq (if_pos (by assumption))]
     unfold jq
     rw [if_neg (by assumption)]
     refine af.mk [] ?_ <;> (repeat' first | trivial)
   . have hF : aC ct (ai 2 s) [] = (0, acc) := hz (by omega)
     obtain rfl : acc = (aC ct (ai 2 s) []).2 := by rw [hF]
     have hF1 : (aC ct (ai 2 s) []).1 = 0 := by rw [hF]
     clear hst hz hr hbi
     rw [hR, if_neg (fun z => z hF1)]
     unfold jq
     rw [if_pos rfl]
     refine af.mk [.bk 8] ?_ <;> (repeat' first | trivial)
 . rw [hR, if_pos (by assumption)]
   unfold jq
   rw [if_neg (by assumption)]
   refine af.mk [] ?_ <;> (repeat' first | trivial)
theorem Kh (s : List UInt8) (hs : s.length ≤ 9000) (h0 : ao s ≠ 0) : OK 16 [.str s] [] (jq (br s)) none := by
 refine al (C := cx [(37, uJ)]) (aq ⟨C6, trivial⟩) (fn := Tryz.f16) rfl rfl rfl rfl fun hw _ => ?_
 rw [show br s = (ao s, default) from if_pos h0]
 unfold jq
 rw [if_neg h0]
 repeat' ((conv => whnf); first | apply aj | apply aO | (apply aw <;> intro h))
 all_goals try conv => whnf
 all_goals try (refine ae.mk ?_; try dsimp only)
 . exact ⟨hs, h0⟩
 all_goals first
  | exact absurd (by assumption) h0
  | skip
 all_goals
  refine af.mk [] ?_ <;> (repeat' first | trivial)
theorem Kg (s : List UInt8) (hs : s.length ≤ 9000) (h0 : ao s = 0) (h1 : ao (jn 1 s) ≠ 0) : OK 16 [.str s] [] (jq (br s)) none := by
 refine al (C := cx [(37, uI)]) (aq ⟨C5, trivial⟩) (fn := Tryz.f16) rfl rfl rfl rfl fun hw _ => ?_
 rw [show br s = (ao (jn 1 s), default) from (if_neg fun q => q h0).trans (if_pos h1)]
 unfold jq
 rw [if_neg h1]
 repeat' ((conv => whnf); first | apply aj | apply aO | (apply aw <;> intro h))
 all_goals try conv => whnf
 all_goals try (refine ae.mk ?_; try dsimp only)
 . exact ⟨hs, h0, h1⟩
 all_goals first
  | exact absurd (by assumption) h1
  | skip
 all_goals
  refine af.mk [] ?_ <;> (repeat' first | trivial)
theorem Nz {s : List UInt8} (h : (br s).1 ≠ 0) : (br s).2 = default := by
 unfold br at h ⊢
 split
 . rfl
 split
 . rfl
 split
 . rfl
 split
 . rfl
 . rename_i a b c d
   rw [if_neg a, if_neg b, if_neg c, if_neg d] at h
   exact absurd rfl h
def zp : Sm := fun args σ => match args, σ with
 | [.str s], [] => some (s.length ≤ 9000, .tuple [dd (br s).2, .int .i64 (br s).1], none)
 | _, _ => none
-- #name rRs truchmanref37.readResource
theorem k_rRs : au 16 zp := by
 intro args sg pre x r he hp
 unfold zp at he
 split at he <;> cases he
 rename_i s
 refine ey.res ?_ (NI _ Nz)
 by_cases h : ao s = 0
 . by_cases h1 : ao (jn 1 s) = 0
   . exact Ki s hp h h1
   . exact Kg s hp h h1
 . exact Kh s hp h
def m9 (r : Int × List Rs) : V := if r.1 = 0 then .tuple [dV r.2, .int .i64 r.1] else .tuple [.agg [.list true 0 []], .int .i64 r.1]
theorem FA (r : Int × List Rs) (h : r.1 ≠ 0 → r.2 = []) : Wk (m9 r) (.tuple [dV r.2, .int .i64 r.1]) := by
 unfold m9
 split
 . exact Wk.refl _
 . rename_i q
   rw [h q]
   exact Wk.tuple (aE.cons (Wk.agg (aE.cons (Wk.nil (.inl rfl)) aE.nil)) (aE.refl _))
theorem f_rBt (s : List UInt8) (hs : s.length ≤ 9000) : OK 6 [.str s] [] (m9 (da s)) none := by
 refine al (C := nR [(14, eK), (15, jv), (16, zp), (17, zh)] [(13, [.bk 5])]) (aq ⟨fg, kL, k_rRs, M8, trivial⟩) (fn := Tryz.f6) rfl rfl rfl rfl fun hw _ => ?_
 have hos := cD hs
 have he := fJ (no := 1) (s := s)
 have hbs := vQ hs
 repeat' ((conv => whnf); first | apply aj | apply aO | (apply aw <;> intro h))
 all_goals try conv => whnf
 all_goals try (refine ae.mk ?_; try dsimp only)
 all_goals (try simp only [bW, ib, jS, gV, gO, fT] at *)
 . omega
 . exact ⟨⟨_, rfl⟩, by have := hos.2; omega⟩
 . have hR : da s = if (aC br (ai 1 s) []).1 ≠ 0 then ((aC br (ai 1 s) []).1, []) else (0, (aC br (ai 1 s) []).2.map j6) := if_neg fun q => q (by assumption)
   refine aT.mk (Nat × List Rs) (fun (i, acc) => i ≤ (ai 1 s).length ∧ acc.length = i ∧ aC br ((ai 1 s).drop i) acc = aC br (ai 1 s) []) (fun (i, acc) => ⟨48, [(2, .ptr 0 0), (6, .ptr 2 0), (7, .buf 3), (8, .int .i64 i)], [.cells [.list true 0 []], .buf 4 0 ((aF s).map av), .cells [.buf 5], .buf 1 0 ((ai 1 s).map .str), .dead, .buf 2 0 (acc.map dd)], [0, 1, 2, 3, 5]⟩) (fun q => (ai 1 s).length - q.1) [.cell 2 0 2] (0, []) ⟨Nat.zero_le _, rfl, by rw [List.drop_zero]⟩ ?_ (fun ⟨i, acc⟩ ⟨hi, hn, hr⟩ _ _ => ?_)
   . refine Go.VG.Sub.mk rfl ?_ ?_ ?_ ?_ <;> (repeat' first | trivial)
     all_goals first
      | rfl
      | (simp; done)
   have hst := fun h => nc (f := br) (L := ai 1 s) (acc := acc) (i := i) h
   rw [hr] at hst
   have hz : i = (ai 1 s).length → aC br (ai 1 s) [] = (0, acc) := fun q => by rw [← hr, q, List.drop_length]; rfl
   have hbi := fun h => (he).2 _ (dX (l := ai 1 s) (i := i) h)
   repeat' ((conv => whnf); first | apply aj | apply aO | (apply aw <;> intro h) | with_reducible apply c9)
   all_goals try conv => whnf
   all_goals try (refine ae.mk ?_; try dsimp only)
   all_goals (try simp only [List.length_map] at *)
   all_goals first | refine stay ?_ | omega | (simp only [cL]; omega) | skip
   . have h9 := hst (by omega)
     rw [if_neg (fun z => z (by assumption))] at h9
     refine ⟨[], (i + 1, acc ++ [_]), ⟨by show i + 1 ≤ (ai 1 s).length; omega, by rw [List.length_append, List.length_singleton, hn], h9.symm⟩, ?_, by show (ai 1 s).length - (i + 1) < (ai 1 s).length - i; omega⟩
     refine Go.VG.Sub.mk rfl ?_ ?_ ?_ ?_ <;> (repeat' first | trivial | apply ax | apply aH | apply bo)
     all_goals first
      | (rw [bc]; omega)
      | (rw [List.map_append]; rfl)
   . have h9 := hst (by omega)
     rw [if_pos (by assumption)] at h9
     rw [hR, h9, show m9 (if ((br ((ai 1 s).getD i default)).1, ([] : List Rs)).1 ≠ 0 then (((br ((ai 1 s).getD i default)).1, ([] : List Rs)).1, []) else _) = _ from congrArg m9 (if_pos (by assumption))]
     unfold m9
     rw [if_neg (by assumption)]
     refine af.mk [] ?_ <;> (repeat' first | trivial)
   . have hF : aC br (ai 1 s) [] = (0, acc) := hz (by omega)
     obtain rfl : acc = (aC br (ai 1 s) []).2 := by rw [hF]
     have hF1 : (aC br (ai 1 s) []).1 = 0 := by rw [hF]
     clear hst hz hr hbi
     exact ⟨rz _, by rw [show fH (.agg [.list false 2 ((aC br (ai 1 s) []).2.map dd)]) = (aC br (ai 1 s) []).2 from nT _]; exact hbs⟩
   . have hF : aC br (ai 1 s) [] = (0, acc) := hz (by omega)
     obtain rfl : acc = (aC br (ai 1 s) []).2 := by rw [hF]
     have hF1 : (aC br (ai 1 s) []).1 = 0 := by rw [hF]
     clear hst hz hr hbi
     rw [hR, if_neg (fun z => z hF1), show fH (.agg [.list false 2 ((aC br (ai 1 s) []).2.map dd)]) = (aC br (ai 1 s) []).2 from nT _]
     unfold m9
     rw [if_pos rfl]
     refine af.mk [] ?_ <;> (repeat' first | trivial)
 . rw [show da s = (ao s, []) from if_pos (by assumption)]
   unfold m9
   rw [if_neg (by assumption)]
   refine af.mk [] ?_ <;> (repeat' first | trivial)
theorem Nx {s : List UInt8} (h : (da s).1 ≠ 0) : (da s).2 = [] := by
 unfold da at h ⊢
 split
 . rfl
 split
 . rfl
 . rename_i a b
   rw [if_neg a, if_neg b] at h
   exact absurd rfl h
def zg : Sm := fun args σ => match args, σ with
 | [.str s], [] => some (s.length ≤ 9000, .tuple [dV (da s).2, .int .i64 (da s).1], none)
 | _, _ => none
-- #name rBt truchmanref37.Decode
theorem k_rBt : au 6 zg := by
 intro args sg pre x r he hp
 unfold zg at he
 split at he <;> cases he
 exact (f_rBt _ hp).res (FA _ Nx)
end Go.Proofs.YtdjolnjlhbfnmaaGreatDoor
