/-
  A part of the proof.
-/
import Derived.Test.YtdjolnjlhbfnmaaGreatDoorNV
import Derived.Test.YtdjolnjlhbfnmaaGreatDoorNT
set_option linter.unusedSimpArgs false
set_option linter.unusedVariables false
set_option maxHeartbeats 4000000
namespace Go.Proofs.YtdjolnjlhbfnmaaGreatDoor
open Go Go.VG
set_option maxRecDepth 100000
theorem Ir (s : List UInt8) (hp : s.length ≤ 1000000000 ∧ ao s = 0) : OK 79 ([.str s]) ([]) (.ptr 0 0) (some [.cells [.ptr 1 0, .int .i64 0], .cells [.buf 2], .buf 4 0 ((aF s).map av)]) := by
 refine al (C := cx [(9, kX)]) (aq ⟨lM, trivial⟩) (fn := Tryz.f79) rfl rfl rfl rfl fun hw hs => ?_
 repeat' ((conv => whnf); apply aj)
 all_goals try conv => whnf
 all_goals try (refine ae.mk ?_; try dsimp only)
 . exact hp
 . refine af.mk [.swap 0 2, .swap 1 2] ?_ <;> (repeat' first | trivial)
def Eu : Sm := fun args σ => match args, σ with
 | [.str s], [] => some (s.length ≤ 1000000000 ∧ ao s = 0, .ptr 0 0, some [.cells [.ptr 1 0, .int .i64 0], .cells [.buf 2], .buf 4 0 ((aF s).map av)])
 | _, _ => none
theorem LI : au 79 Eu := by
 intro args sg pre x r he hp
 unfold Eu at he
 split at he <;> cases he
 . exact Ir (hp := hp) ..
theorem Iq (s : List UInt8) (hp : s.length ≤ 1000000000 ∧ ao s ≠ 0) : OK 79 ([.str s]) ([]) (.ptr 0 0) (some [.cells [.nilptr, .int .i64 (ao s)]]) := by
 refine al (C := cx [(9, kW)]) (aq ⟨lL, trivial⟩) (fn := Tryz.f79) rfl rfl rfl rfl fun hw hs => ?_
 repeat' ((conv => whnf); apply aj)
 all_goals try conv => whnf
 all_goals try (refine ae.mk ?_; try dsimp only)
 . exact hp
 . refine af.mk [] ?_ <;> (repeat' first | trivial)
def yF : Sm := fun args σ => match args, σ with
 | [.str s], [] => some (s.length ≤ 1000000000 ∧ ao s ≠ 0, .ptr 0 0, some [.cells [.nilptr, .int .i64 (ao s)]])
 | _, _ => none
theorem Cj : au 79 yF := by
 intro args sg pre x r he hp
 unfold yF at he
 split at he <;> cases he
 . exact Iq (hp := hp) ..
def sE (b : List UInt8 → Bool) : Sm := fun args σ => match args, σ with
 | [.str s], [] => match b s with
   | true => some (s.length ≤ 1000000000, .ptr 0 0, some [.cells [.ptr 1 0, .int .i64 0], .cells [.buf 2], .buf 4 0 ((aF s).map av)])
   | false => some (s.length ≤ 1000000000, .ptr 0 0, some [.cells [.nilptr, .int .i64 (ao s)]])
 | _, _ => none
theorem wL {b : List UInt8 → Bool} (hb : ∀ s, b s = decide (ao s = 0)) : au 79 (sE b) := by
 intro args sg pre x r he hp
 unfold sE at he
 split at he
 . rename_i s
   by_cases h : ao s = 0
   . rw [show b s = true from (hb s).trans (decide_eq_true h)] at he
     cases he
     exact LI [.str s] [] _ _ _ rfl ⟨hp, h⟩
   . rw [show b s = false from (hb s).trans (decide_eq_false h)] at he
     cases he
     exact Cj [.str s] [] _ _ _ rfl ⟨hp, h⟩
 . cases he
def mB (l : List V) : Int × Ev := ((ky 3 l).1, ⟨nmL 1 1 l, fD 2 l, (ky 3 l).2⟩)
theorem GM {s : List UInt8} (h : ao s = 0) : mB ((aF s).map av) = bL s := by
 unfold mB bL
 rw [if_neg (fun q => q h), xi, l5]
 rw [show ky 3 ((aF s).map av) = bI 3 s from w6 3 s]
theorem w5 (no : Int) (l : List V) : ln no l 0 = ky no l := if_neg fun q => q rfl
theorem Ig (l : List V) (hp : iB l) : OK 87 ([.ptr 0 0]) ([.cells [.ptr 1 0, .int .i64 0], .cells [.buf 2], .buf 4 0 l]) (er (mB l).2) (some [.cells [.ptr 1 0, .int .i64 (mB l).1], .cells [.buf 2], .buf 4 0 l, .dead]) := by
 refine al (C := cx [(84, sD), (82, lW), (85, oK)]) (aq ⟨wK, om, rC, trivial⟩) (fn := Tryz.f87) rfl rfl rfl rfl fun hw hs => ?_
 repeat' ((conv => whnf); apply aj)
 all_goals try conv => whnf
 all_goals try (refine ae.mk ?_; try dsimp only)
 all_goals (try simp only [w5] at *)
 . exact hp.sh
 . exact hp.sh
 . exact hp
 . refine af.mk [] ?_ <;> (repeat' first | trivial)
def yA : Sm := fun args σ => match args, σ with
 | [.ptr 0 0], [.cells [.ptr 1 0, .int .i64 0], .cells [.buf 2], .buf 4 0 l] => some (iB l, er (mB l).2, some [.cells [.ptr 1 0, .int .i64 (mB l).1], .cells [.buf 2], .buf 4 0 l, .dead])
 | _, _ => none
theorem LC : au 87 yA := by
 intro args sg pre x r he hp
 unfold yA at he
 split at he <;> cases he
 . exact Ig (hp := hp) ..
theorem Ie (k : Int) (h0 : k ≠ 0) : OK 87 [.ptr 0 0] [.cells [.nilptr, .int .i64 k]] (.agg [.int .u64 0, .str [], .list true 0 []]) none := by
 refine al (C := cx [(84, sD), (82, lW), (85, oK)]) (aq ⟨wK, om, rC, trivial⟩) (fn := Tryz.f87) rfl rfl rfl rfl fun hw _ => ?_
 repeat' ((conv => whnf); apply aj)
 all_goals try conv => whnf
 all_goals try (refine ae.mk ?_; try dsimp only)
 . exact h0
 . refine af.mk [] ?_ <;> (repeat' first | trivial)
def yB : Sm := fun args σ => match args, σ with
 | [.ptr 0 0], [.cells [.nilptr, .int .i64 k]] => some (k ≠ 0, er default, none)
 | a, s => yA a s
-- #name osEvB (*ospan.reader).readEvent
theorem LD : au 87 yB := by
 intro args sg pre x r he hp
 unfold yB at he
 split at he
 . cases he
   exact (Ie _ hp).res (Wk.agg (aE.cons (Wk.refl _) (aE.cons (Wk.refl _) (aE.cons (Wk.nil (.inl rfl)) aE.nil))))
 . exact LC _ _ _ _ _ he hp
def lkC (l : List V) : Int := gT (fD 2 l) 8 (gT (fD 1 l) 16 0)
def lO (l : List V) : Int × Lk := ((ln 4 l (lkC l)).1, ua (lg (fD 1 l) 16) (lg (fD 2 l) 8) (fD 3 l) (ln 4 l (lkC l)).2)
theorem Ik (l : List V) (hp : iB l) : OK 89 ([.ptr 0 0]) ([.cells [.ptr 1 0, .int .i64 0], .cells [.buf 2], .buf 4 0 l]) (eZ (lO l).2) (some [.cells [.ptr 1 0, .int .i64 (lO l).1], .cells [.buf 2], .buf 4 0 l, .dead]) := by
 refine al (C := cx [(80, sG), (81, sF), (82, lW), (85, oK)]) (aq ⟨wN, wM, om, rC, trivial⟩) (fn := Tryz.f89) rfl rfl rfl rfl fun hw hs => ?_
 repeat' ((conv => whnf); apply aj)
 all_goals try conv => whnf
 all_goals try (refine ae.mk ?_; try dsimp only)
 . exact hp.sh
 . exact hp.sh
 . exact hp.sh
 . exact hp
 . refine af.mk [] ?_ <;> (repeat' first | trivial)
def yC : Sm := fun args σ => match args, σ with
 | [.ptr 0 0], [.cells [.ptr 1 0, .int .i64 0], .cells [.buf 2], .buf 4 0 l] => some (iB l, eZ (lO l).2, some [.cells [.ptr 1 0, .int .i64 (lO l).1], .cells [.buf 2], .buf 4 0 l, .dead])
 | _, _ => none
theorem LF : au 89 yC := by
 intro args sg pre x r he hp
 unfold yC at he
 split at he <;> cases he
 . exact Ik (hp := hp) ..
theorem Ij (k : Int) (h0 : k ≠ 0) : OK 89 [.ptr 0 0] [.cells [.nilptr, .int .i64 k]] (.agg [.int .u8 0, .int .u8 0, .int .u8 0, .int .u8 0, .int .u8 0, .int .u8 0, .int .u8 0, .int .u8 0, .int .u8 0, .int .u8 0, .int .u8 0, .int .u8 0, .int .u8 0, .int .u8 0, .int .u8 0, .int .u8 0, .int .u8 0, .int .u8 0, .int .u8 0, .int .u8 0, .int .u8 0, .int .u8 0, .int .u8 0, .int .u8 0, .str [], .list true 0 []]) (some [.cells [.nilptr, .int .i64 k], .dead]) := by
 refine al (C := cx [(80, sG), (81, sF), (82, lW), (85, oK)]) (aq ⟨wN, wM, om, rC, trivial⟩) (fn := Tryz.f89) rfl rfl rfl rfl fun hw _ => ?_
 have hn : dM k 10 = k := ue h0
 repeat' ((conv => whnf); apply aj)
 all_goals try conv => whnf
 all_goals try (refine ae.mk ?_; try dsimp only)
 all_goals (try simp only [hn] at *)
 . exact h0
 . refine af.mk [] ?_ <;> (repeat' first | trivial)
def yD : Sm := fun args σ => match args, σ with
 | [.ptr 0 0], [.cells [.nilptr, .int .i64 k]] => some (k ≠ 0, eZ default, some [.cells [.nilptr, .int .i64 k], .dead])
 | a, s => yC a s
-- #name osLkB (*ospan.reader).readLink
theorem LG : au 89 yD := by
 intro args sg pre x r he hp
 unfold yD at he
 split at he
 . cases he
   refine (Ij _ hp).res ?_
   repeat' first
    | exact Wk.refl _
    | exact aE.nil
    | exact Wk.nil (.inl rfl)
    | refine Wk.agg ?_
    | refine aE.cons ?_ ?_
 . exact LF _ _ _ _ _ he hp
theorem IA (l : List V) (hp : iB l) : OK 90 ([.ptr 0 0]) ([.cells [.ptr 1 0, .int .i64 0], .cells [.buf 2], .buf 4 0 l]) (.agg [.int .i64 (eU (nmL 3 0 l)), .str (fD 2 l)]) (none) := by
 refine al (C := cx [(82, lW), (83, sC)]) (aq ⟨om, wJ, trivial⟩) (fn := Tryz.f90) rfl rfl rfl rfl fun hw hs => ?_
 repeat' ((conv => whnf); apply aj)
 all_goals try conv => whnf
 all_goals try (refine ae.mk ?_; try dsimp only)
 . exact hp.sh
 . exact hp.sh
 . refine af.mk [] ?_ <;> (repeat' first | trivial)
theorem IB (k : Int) (hp : True) : OK 90 ([.ptr 0 0]) ([.cells [.nilptr, .int .i64 k]]) (.agg [.int .i64 (eU 0), .str []]) (none) := by
 refine al (C := cx [(82, lW), (83, sC)]) (aq ⟨om, wJ, trivial⟩) (fn := Tryz.f90) rfl rfl rfl rfl fun hw hs => ?_
 repeat' ((conv => whnf); apply aj)
 all_goals try conv => whnf
 all_goals try (refine ae.mk ?_; try dsimp only)
 . refine af.mk [] ?_ <;> (repeat' first | trivial)
def yH : Sm := fun args σ => match args, σ with
 | [.ptr 0 0], [.cells [.ptr 1 0, .int .i64 0], .cells [.buf 2], .buf 4 0 l] => some (iB l, .agg [.int .i64 (eU (nmL 3 0 l)), .str (fD 2 l)], none)
 | [.ptr 0 0], [.cells [.nilptr, .int .i64 k]] => some (True, .agg [.int .i64 (eU 0), .str []], none)
 | _, _ => none
theorem LK : au 90 yH := by
 intro args sg pre x r he hp
 unfold yH at he
 split at he <;> cases he
 . exact IA (hp := hp) ..
 . exact IB (hp := hp) ..
def fY (s : List UInt8) : Int × Lk := if ao s ≠ 0 then (ao s, default) else lO ((aF s).map av)
def eI {α : Type} (f : List UInt8 → Int × α) : List (List UInt8) → List α → Int → Int × List α
 | [], acc, k => (k, acc)
 | x :: xs, acc, k => eI f xs (acc ++ [(f x).2]) (dM k (f x).1)
theorem Dy {α : Type} {f : List UInt8 → Int × α} {L : List (List UInt8)} {acc : List α} {i : Nat} {k : Int} (h : i < L.length) : eI f (L.drop i) acc k = eI f (L.drop (i + 1)) (acc ++ [(f (L.getD i default)).2]) (dM k (f (L.getD i default)).1) := by
 rw [List.drop_eq_getElem_cons h, eI, List.getD_eq_getElem?_getD, List.getElem?_eq_getElem h]; rfl
theorem I7 (no : Int) (s : List UInt8) (hs : s.length ≤ 9000) : OK 86 [.ptr 0 0, .int .i64 no, .func (.func 87) [] []] [.cells [.ptr 1 0, .int .i64 0], .cells [.buf 2], .buf 4 0 ((aF s).map av)]
    (.list false 3 ((eI bL (ai no s) [] 0).2.map er)) (some [.cells [.ptr 1 0, .int .i64 (eI bL (ai no s) [] 0).1], .cells [.buf 2], .buf 4 0 ((aF s).map av), .dead]) := by
  obtain ⟨b, hb⟩ : ∃ b : List UInt8 → Bool, ∀ s, b s = decide (ao s = 0) := ⟨_, fun _ => rfl⟩
  refine al (C := cx [(11, kY), (79, sE b), (87, yB), (91, i7)]) (aq ⟨mR, wL hb, LD, iP, trivial⟩) (fn := Tryz.f86) rfl rfl rfl rfl fun hw _ => ?_
  have hos := cD hs
  have he := fJ (no := no) (s := s)
  repeat' ((conv => whnf); apply aj)
  all_goals try conv => whnf
  all_goals try (refine ae.mk ?_; try dsimp only)
  all_goals (try simp only [bW, gO] at *)
  . exact hos
  refine aT.mk (Nat × List Ev × Int) (fun (i, acc, kk) => i ≤ (ai no s).length ∧ acc.length = i ∧ eI bL ((ai no s).drop i) acc kk = eI bL (ai no s) [] 0) (fun (i, acc, kk) => ⟨43, [(0, .ptr 0 0), (2, .func (.func 87) [] []), (7, .buf 5), (21, .buf 3), (22, .int .i64 (ai no s).length), (23, .int .i64 i)], [.cells [.ptr 1 0, .int .i64 kk], .cells [.buf 2], .buf 4 0 ((aF s).map av), .buf 1 0 ((ai no s).map .str), .dead, .buf 3 0 (acc.map er)], [3, 5]⟩) (fun q => (ai no s).length - q.1) [.tm 7 3] (0, [], 0) ⟨Nat.zero_le _, rfl, by rw [List.drop_zero]⟩ ?_ (fun ⟨i, acc, kk⟩ ⟨hi, hn, hr⟩ _ _ => ?_)
  . refine Go.VG.Sub.mk rfl ?_ ?_ ?_ ?_ <;> (repeat' first | trivial | apply ax | apply aH)
    all_goals first
     | rfl
     | (simp; done)
  have hst := fun h => Dy (f := bL) (L := ai no s) (acc := acc) (i := i) (k := kk) h
  rw [hr] at hst
  have hz : i = (ai no s).length → eI bL (ai no s) [] 0 = (kk, acc) := fun q => by rw [← hr, q, List.drop_length]; rfl
  have hbi := fun h => he.2 _ (dX (l := ai no s) (i := i) h)
  repeat' ((conv => whnf); first | apply aj | (apply aw <;> intro h) | with_reducible apply c9)
  all_goals try conv => whnf
  all_goals try (refine ae.mk ?_; try dsimp only)
  all_goals (try simp only [List.length_map] at *)
  all_goals first | refine stay ?_ | omega | skip
  . have hlx := hbi (by omega)
    by_cases h0 : ao ((ai no s).getD i default) = 0
    . conv in (cV _ _ _ _) => whnf
      conv in (Ctx.Γ _ _ _ _) => whnf
      rw [((hb ((ai no s).getD i default)).trans (decide_eq_true h0))]
      repeat' ((conv => whnf); apply aj)
      all_goals try conv => whnf
      all_goals try (refine ae.mk ?_; try dsimp only)
      . omega
      . exact ⟨_, rfl, by omega⟩
      . rw [List.length_map, List.length_singleton]; omega
      . refine ⟨[], (i + 1, acc ++ [(mB ((aF ((ai no s).getD i default)).map av)).2], dM kk ((mB ((aF ((ai no s).getD i default)).map av)).1)), ⟨by show i + 1 ≤ (ai no s).length; omega, by show (acc ++ [_]).length = i + 1; rw [List.length_append, List.length_singleton, hn], ?_⟩, ?_, by show (ai no s).length - (i + 1) < (ai no s).length - i; omega⟩
        . have h9 := hst (by omega)
          rw [← (GM h0)] at h9
          exact h9.symm
        . refine Go.VG.Sub.mk rfl ?_ ?_ ?_ ?_ <;> (repeat' first | trivial | apply ax | apply aH | apply bo)
          all_goals first
           | (rw [bc]; omega)
           | (rw [List.map_append]; rfl)
    . conv in (cV _ _ _ _) => whnf
      conv in (Ctx.Γ _ _ _ _) => whnf
      rw [((hb ((ai no s).getD i default)).trans (decide_eq_false h0))]
      repeat' ((conv => whnf); apply aj)
      all_goals try conv => whnf
      all_goals try (refine ae.mk ?_; try dsimp only)
      . omega
      . exact h0
      . rw [List.length_map, List.length_singleton]; omega
      . refine ⟨[], (i + 1, acc ++ [default], dM kk (ao ((ai no s).getD i default))), ⟨by show i + 1 ≤ (ai no s).length; omega, by show (acc ++ [_]).length = i + 1; rw [List.length_append, List.length_singleton, hn], ?_⟩, ?_, by show (ai no s).length - (i + 1) < (ai no s).length - i; omega⟩
        . have h9 := hst (by omega)
          rw [← (show (ao ((ai no s).getD i default), default) = bL ((ai no s).getD i default) from (if_pos h0).symm)] at h9
          exact h9.symm
        . refine Go.VG.Sub.mk rfl ?_ ?_ ?_ ?_ <;> (repeat' first | trivial | apply ax | apply aH | apply bo)
          all_goals first
           | (rw [bc]; omega)
           | (rw [List.map_append]; rfl)
  . rw [hz (by omega)]
    refine af.mk [.bk 5] ?_ <;> (repeat' first | trivial)
theorem Mz {s : List UInt8} (h : ao s = 0) : lO ((aF s).map av) = fY s := (if_neg fun q => q h).symm
theorem I9 (no : Int) (s : List UInt8) (hs : s.length ≤ 9000) : OK 88 [.ptr 0 0, .int .i64 no, .func (.func 89) [] []] [.cells [.ptr 1 0, .int .i64 0], .cells [.buf 2], .buf 4 0 ((aF s).map av)]
    (.list false 26 ((eI fY (ai no s) [] 0).2.map eZ)) (some [.cells [.ptr 1 0, .int .i64 (eI fY (ai no s) [] 0).1], .cells [.buf 2], .buf 4 0 ((aF s).map av), .dead]) := by
  obtain ⟨b, hb⟩ : ∃ b : List UInt8 → Bool, ∀ s, b s = decide (ao s = 0) := ⟨_, fun _ => rfl⟩
  refine al (C := cx [(11, kY), (79, sE b), (89, yD), (91, i7)]) (aq ⟨mR, wL hb, LG, iP, trivial⟩) (fn := Tryz.f88) rfl rfl rfl rfl fun hw _ => ?_
  have hos := cD hs
  have he := fJ (no := no) (s := s)
  repeat' ((conv => whnf); apply aj)
  all_goals try conv => whnf
  all_goals try (refine ae.mk ?_; try dsimp only)
  all_goals (try simp only [bW, gO] at *)
  . exact hos
  refine aT.mk (Nat × List Lk × Int) (fun (i, acc, kk) => i ≤ (ai no s).length ∧ acc.length = i ∧ eI fY ((ai no s).drop i) acc kk = eI fY (ai no s) [] 0) (fun (i, acc, kk) => ⟨43, [(0, .ptr 0 0), (2, .func (.func 89) [] []), (7, .buf 5), (21, .buf 3), (22, .int .i64 (ai no s).length), (23, .int .i64 i)], [.cells [.ptr 1 0, .int .i64 kk], .cells [.buf 2], .buf 4 0 ((aF s).map av), .buf 1 0 ((ai no s).map .str), .dead, .buf 26 0 (acc.map eZ)], [3, 5]⟩) (fun q => (ai no s).length - q.1) [.tm 7 26] (0, [], 0) ⟨Nat.zero_le _, rfl, by rw [List.drop_zero]⟩ ?_ (fun ⟨i, acc, kk⟩ ⟨hi, hn, hr⟩ _ _ => ?_)
  . refine Go.VG.Sub.mk rfl ?_ ?_ ?_ ?_ <;> (repeat' first | trivial | apply ax | apply aH)
    all_goals first
     | rfl
     | (simp; done)
  have hst := fun h => Dy (f := fY) (L := ai no s) (acc := acc) (i := i) (k := kk) h
  rw [hr] at hst
  have hz : i = (ai no s).length → eI fY (ai no s) [] 0 = (kk, acc) := fun q => by rw [← hr, q, List.drop_length]; rfl
  have hbi := fun h => he.2 _ (dX (l := ai no s) (i := i) h)
  repeat' ((conv => whnf); first | apply aj | (apply aw <;> intro h) | with_reducible apply c9)
  all_goals try conv => whnf
  all_goals try (refine ae.mk ?_; try dsimp only)
  all_goals (try simp only [List.length_map] at *)
  all_goals first | refine stay ?_ | omega | skip
  . have hlx := hbi (by omega)
    by_cases h0 : ao ((ai no s).getD i default) = 0
    . conv in (cV _ _ _ _) => whnf
      conv in (Ctx.Γ _ _ _ _) => whnf
      rw [((hb ((ai no s).getD i default)).trans (decide_eq_true h0))]
      repeat' ((conv => whnf); apply aj)
      all_goals try conv => whnf
      all_goals try (refine ae.mk ?_; try dsimp only)
      . omega
      . exact ⟨_, rfl, by omega⟩
      . rw [List.length_map, List.length_singleton]; omega
      . refine ⟨[], (i + 1, acc ++ [(lO ((aF ((ai no s).getD i default)).map av)).2], dM kk ((lO ((aF ((ai no s).getD i default)).map av)).1)), ⟨by show i + 1 ≤ (ai no s).length; omega, by show (acc ++ [_]).length = i + 1; rw [List.length_append, List.length_singleton, hn], ?_⟩, ?_, by show (ai no s).length - (i + 1) < (ai no s).length - i; omega⟩
        . have h9 := hst (by omega)
          rw [← (Mz h0)] at h9
          exact h9.symm
        . refine Go.VG.Sub.mk rfl ?_ ?_ ?_ ?_ <;> (repeat' first | trivial | apply ax | apply aH | apply bo)
          all_goals first
           | (rw [bc]; omega)
           | (rw [List.map_append]; rfl)
    . conv in (cV _ _ _ _) => whnf
      conv in (Ctx.Γ _ _ _ _) => whnf
      rw [((hb ((ai no s).getD i default)).trans (decide_eq_false h0))]
      repeat' ((conv => whnf); apply aj)
      all_goals try conv => whnf
      all_goals try (refine ae.mk ?_; try dsimp only)
      . omega
      . exact h0
      . rw [List.length_map, List.length_singleton]; omega
      . refine ⟨[], (i + 1, acc ++ [default], dM kk (ao ((ai no s).getD i default))), ⟨by show i + 1 ≤ (ai no s).length; omega, by show (acc ++ [_]).length = i + 1; rw [List.length_append, List.length_singleton, hn], ?_⟩, ?_, by show (ai no s).length - (i + 1) < (ai no s).length - i; omega⟩
        . have h9 := hst (by omega)
          rw [← (show (ao ((ai no s).getD i default), default) = fY ((ai no s).getD i default) from (if_pos h0).symm)] at h9
          exact h9.symm
        . refine Go.VG.Sub.mk rfl ?_ ?_ ?_ ?_ <;> (repeat' first | trivial | apply ax | apply aH | apply bo)
          all_goals first
           | (rw [bc]; omega)
           | (rw [List.map_append]; rfl)
  . rw [hz (by omega)]
    refine af.mk [.bk 5] ?_ <;> (repeat' first | trivial)
end Go.Proofs.YtdjolnjlhbfnmaaGreatDoor
