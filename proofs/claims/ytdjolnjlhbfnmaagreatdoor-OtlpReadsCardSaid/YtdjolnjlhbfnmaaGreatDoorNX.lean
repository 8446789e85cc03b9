/-
  A part of the proof.
-/
import Derived.Test.YtdjolnjlhbfnmaaGreatDoorNW
set_option linter.unusedSimpArgs false
set_option linter.unusedVariables false
set_option maxHeartbeats 4000000
namespace Go.Proofs.YtdjolnjlhbfnmaaGreatDoor
-- #defs NW
open Go Go.VG
set_option maxRecDepth 100000
theorem N0 (c : Int) : dM 0 c = c := qd rfl
theorem Dx {α : Type} {f : List UInt8 → Int × α} {k : Int} (h : k ≠ 0) : ∀ (L : List (List UInt8)) (acc : List α), (eI f L acc k).1 = k
 | [], _ => rfl
 | x :: xs, acc => by rw [eI, ue h]; exact Dx h xs _
theorem xz {α : Type} {f g : List UInt8 → Int × α} (h : ∀ x, (g x).1 = (f x).1 ∧ ((f x).1 = 0 → (g x).2 = (f x).2)) : ∀ (L : List (List UInt8)) (acc : List α),
   (eI g L acc 0).1 = (aC f L acc).1 ∧ ((aC f L acc).1 = 0 → (eI g L acc 0).2 = (aC f L acc).2)
 | [], acc => ⟨rfl, fun _ => rfl⟩
 | x :: xs, acc => by
   rw [eI, aC, N0, (h x).1]
   by_cases q : (f x).1 = 0
   . rw [if_neg (fun z => z q), q, (h x).2 q]
     exact xz h xs _
   . rw [if_pos q]
     exact ⟨Dx q _ _, fun z => absurd z q⟩
def fX {α : Type} (f : List UInt8 → Int × α) (L : List (List UInt8)) (k : Int) : Int × List α := if k ≠ 0 then (k, []) else eI f L [] 0
theorem ru {t : List UInt8} {n : Nat} {k : Int} (h : k = 0 ∨ k = 10) : (t.length = n ∧ gT t n k = k) ∨ (t.length ≠ n ∧ gT t n k = 10) := by
 by_cases q : t.length = n
 . exact .inl ⟨q, if_pos q⟩
 . refine .inr ⟨q, (if_neg q).trans ?_⟩
   rcases h with rfl | rfl <;> rfl
theorem CN (s : List UInt8) : lkC ((aF s).map av) = if (tx 1 s).length ≠ 16 ∨ (tx 2 s).length ≠ 8 then 10 else 0 := by
 unfold lkC
 rw [l5, l5]
 rcases ru (t := tx 1 s) (n := 16) (k := 0) (.inl rfl) with ⟨a, e⟩ | ⟨a, e⟩ <;> rw [e]
 . rcases ru (t := tx 2 s) (n := 8) (k := 0) (.inl rfl) with ⟨b, e⟩ | ⟨b, e⟩ <;> rw [e]
   . rw [if_neg (by omega)]
   . rw [if_pos (by omega)]
 . rcases ru (t := tx 2 s) (n := 8) (k := 10) (.inr rfl) with ⟨b, e⟩ | ⟨b, e⟩ <;> rw [e]
   . rw [if_pos (by omega)]
   . rw [if_pos (by omega)]
theorem Nh (x : List UInt8) : (fY x).1 = (cM x).1 ∧ ((cM x).1 = 0 → (fY x).2 = (cM x).2) := by
 unfold fY cM
 by_cases h : ao x ≠ 0
 . rw [if_pos h, if_pos h]
   exact ⟨rfl, fun _ => rfl⟩
 . rw [if_neg h, if_neg h]
   unfold lO
   rw [CN]
   by_cases hb : (tx 1 x).length ≠ 16 ∨ (tx 2 x).length ≠ 8
   . rw [if_pos hb, if_pos hb]
     exact ⟨rfl, fun q => absurd q (by decide)⟩
   . rw [if_neg hb, if_neg hb, w5, l5, l5, l5, mc (by omega), mc (by omega)]
     rw [show ky 4 ((aF x).map av) = bI 4 x from w6 4 x]
     exact ⟨rfl, fun _ => rfl⟩
def c3 (s : List UInt8) : Int := oO (tx 4 s) (gT (tx 2 s) 8 (gT (tx 1 s) 16 0))
theorem AE (s : List UInt8) : c3 s = if eX s then 10 else 0 := by
 have h1 := CN s
 unfold lkC at h1
 rw [l5, l5] at h1
 unfold c3
 rw [h1]
 unfold oO
 by_cases hb : (tx 1 s).length ≠ 16 ∨ (tx 2 s).length ≠ 8
 . rw [if_pos hb, if_pos (show eX s by rcases hb with q | q; exact .inl q; exact .inr (.inl q))]
   split
   . rfl
   . rcases ru (t := tx 4 s) (n := 8) (k := 10) (.inr rfl) with ⟨b, e⟩ | ⟨b, e⟩ <;> rw [e]
 . rw [if_neg hb]
   split
   . rename_i q
     rw [if_neg (c := eX s)]
     rintro (z | z | z)
     . exact hb (.inl z)
     . exact hb (.inr z)
     . exact z.1 q
   . rename_i q
     rcases ru (t := tx 4 s) (n := 8) (k := 0) (.inl rfl) with ⟨b, e⟩ | ⟨b, e⟩ <;> rw [e]
     . rw [if_neg (c := eX s)]
       rintro (z | z | z)
       . exact hb (.inl z)
       . exact hb (.inr z)
       . exact z.2 b
     . rw [if_pos (show eX s from .inr (.inr ⟨q, b⟩))]
def e9 (s : List UInt8) : Int × List aG := ln 9 ((aF s).map av) (c3 s)
def iK (s : List UInt8) : Int × List Ev := fX bL (ai 11 s) (e9 s).1
def fW (s : List UInt8) : Int × List Lk := fX fY (ai 13 s) (iK s).1
structure SpY (s : List UInt8) : Prop where
 b : ¬ eX s
 e : (bI 9 s).1 = 0
 v : (aC bL (ai 11 s) []).1 = 0
 l : (aC cM (ai 13 s) []).1 = 0
 e2 : (e9 s).2 = (bI 9 s).2
 v2 : (iK s).2 = (aC bL (ai 11 s) []).2
 l2 : (fW s).2 = (aC cM (ai 13 s) []).2
theorem rQ (s : List UInt8) (h0 : ao s = 0) : ((fW s).1 = 0 ∧ SpY s) ∨ ((fW s).1 ≠ 0 ∧ bF s = ((fW s).1, default)) := by
 have hev := xz (f := bL) (g := bL) (fun x => ⟨rfl, fun _ => rfl⟩) (ai 11 s) []
 have hlk := xz Nh (ai 13 s) []
 by_cases hb : eX s
 . have h3 : c3 s = 10 := (AE s).trans (if_pos hb)
   have h9 : (e9 s).1 = 10 := by unfold e9 ln; rw [h3]; rfl
   have hv : (iK s).1 = 10 := by unfold iK fX; rw [h9]; rfl
   have hl : (fW s).1 = 10 := by unfold fW fX; rw [hv]; rfl
   refine .inr ⟨by rw [hl]; decide, ?_⟩
   rw [DO h0 hb, hl]
 . have h3 : c3 s = 0 := (AE s).trans (if_neg hb)
   have h9 : e9 s = bI 9 s := by unfold e9; rw [h3, w5]; exact w6 9 s
   by_cases he : (bI 9 s).1 = 0
   . have hv : iK s = eI bL (ai 11 s) [] 0 := by unfold iK fX; rw [h9, he]; rfl
     by_cases hvz : (aC bL (ai 11 s) []).1 = 0
     . have hv0 : (iK s).1 = 0 := by rw [hv, hev.1, hvz]
       have hl : fW s = eI fY (ai 13 s) [] 0 := by unfold fW fX; rw [hv0]; rfl
       by_cases hlz : (aC cM (ai 13 s) []).1 = 0
       . exact .inl ⟨by rw [hl, hlk.1, hlz], hb, he, hvz, hlz, by rw [h9], by rw [hv, hev.2 hvz], by rw [hl, hlk.2 hlz]⟩
       . have hl1 : (fW s).1 = (aC cM (ai 13 s) []).1 := by rw [hl, hlk.1]
         refine .inr ⟨by rw [hl1]; exact hlz, ?_⟩
         rw [sf h0 hb (fun z => z he), hl1]
         unfold eS
         rw [if_neg (fun z => z hvz), if_pos hlz]
     . have hv1 : (iK s).1 = (aC bL (ai 11 s) []).1 := by rw [hv, hev.1]
       have hl1 : (fW s).1 = (aC bL (ai 11 s) []).1 := by unfold fW fX; rw [hv1, if_pos hvz]
       refine .inr ⟨by rw [hl1]; exact hvz, ?_⟩
       rw [sf h0 hb (fun z => z he), hl1]
       unfold eS
       rw [if_pos hvz]
   . have hv1 : (iK s).1 = (bI 9 s).1 := by unfold iK fX; rw [h9, if_pos he]
     have hl1 : (fW s).1 = (bI 9 s).1 := by unfold fW fX; rw [hv1, if_pos he]
     refine .inr ⟨by rw [hl1]; exact he, ?_⟩
     rw [DN h0 hb he, hl1]
theorem c3_d (s : List UInt8) : oO (tx 4 s) (gT (tx 2 s) 8 (gT (tx 1 s) 16 0)) = c3 s := rfl
theorem e9_d (s : List UInt8) : ln 9 ((aF s).map av) (c3 s) = e9 s := rfl
theorem evK_d (s : List UInt8) : fX bL (ai 11 s) (e9 s).1 = iK s := rfl
theorem lkK_d (s : List UInt8) : fX fY (ai 13 s) (iK s).1 = fW s := rfl
theorem DQ {s : List UInt8} (h0 : ao s = 0) (y : SpY s) (hj : ao (jn 15 s) = 0) : bF s = (0, ub (lg (tx 1 s) 16) (lg (tx 2 s) 8) (lg (tx 4 s) 8) (tx 3 s) (tx 5 s) (eU (nm 6 0 s)) (nm 7 1 s) (nm 8 1 s) (e9 s).2 (iK s).2 (fW s).2 (eU (nm 3 0 (jn 15 s))) (tx 2 (jn 15 s))) := by
 have hb := y.b
 have h1 : (tx 1 s).length = 16 := Classical.not_not.1 fun q => hb (.inl q)
 have h2 : (tx 2 s).length = 8 := Classical.not_not.1 fun q => hb (.inr (.inl q))
 have h4 : lg (tx 4 s) 8 = tx 4 s := by
  by_cases q : tx 4 s = []
  . rw [q]; rfl
  . exact mc (Classical.not_not.1 fun z => hb (.inr (.inr ⟨q, z⟩)))
 rw [sf h0 hb (fun z => z y.e), mc h1, mc h2, h4, y.e2, y.v2, y.l2]
 unfold eS
 rw [if_neg (fun z => z y.v), if_neg (fun z => z y.l), if_neg (fun z => z hj)]
 rfl
theorem NB {s : List UInt8} (h0 : ao s = 0) (y : SpY s) (hj : ¬ ao (jn 15 s) = 0) : bF s = (ao (jn 15 s), default) := by
 rw [sf h0 y.b (fun z => z y.e)]
 unfold eS
 rw [if_neg (fun z => z y.v), if_neg (fun z => z y.l), if_pos hj]
theorem L4 {no : Int} {s : List UInt8} (h : (ar (aD no 2) (aF s)).isEmpty = true) : jn no s = [] := by
 unfold jn
 rw [List.isEmpty_iff.1 h]; rfl
def yy (s : List UInt8) : Sm := fun args σ => match args, σ with
 | [.ptr 0 0, .int .i64 no, .func (.func 87) [] []], [.cells [.ptr 1 0, .int .i64 k], .cells [.buf 2], .buf 4 0 l] => some (l = (aF s).map av ∧ s.length ≤ 9000, .list false 3 ((fX bL (ai no s) k).2.map er), some [.cells [.ptr 1 0, .int .i64 (fX bL (ai no s) k).1], .cells [.buf 2], .buf 4 0 l, .dead])
 | _, _ => none
def yz (s : List UInt8) : Sm := fun args σ => match args, σ with
 | [.ptr 0 0, .int .i64 no, .func (.func 89) [] []], [.cells [.ptr 1 0, .int .i64 k], .cells [.buf 2], .buf 4 0 l] => some (l = (aF s).map av ∧ s.length ≤ 9000, .list false 26 ((fX fY (ai no s) k).2.map eZ), some [.cells [.ptr 1 0, .int .i64 (fX fY (ai no s) k).1], .cells [.buf 2], .buf 4 0 l, .dead])
 | _, _ => none
theorem I8 (no k : Int) (l : List V) (h0 : k ≠ 0) : OK 86 [.ptr 0 0, .int .i64 no, .func (.func 87) [] []] [.cells [.ptr 1 0, .int .i64 k], .cells [.buf 2], .buf 4 0 l] (.list true 0 []) (some [.cells [.ptr 1 0, .int .i64 k], .cells [.buf 2], .buf 4 0 l, .dead]) := by
 refine al (C := cx []) (aq trivial) (fn := Tryz.f86) rfl rfl rfl rfl fun hw _ => ?_
 repeat' ((conv => whnf); first | apply aj | apply aO | (apply aw <;> intro h))
 all_goals try conv => whnf
 all_goals try (refine ae.mk ?_; try dsimp only)
 all_goals first
  | exact absurd (by assumption) h0
  | skip
 all_goals
  refine af.mk [.nw] ?_ <;> (repeat' first | trivial)
theorem Ia (no k : Int) (l : List V) (h0 : k ≠ 0) : OK 88 [.ptr 0 0, .int .i64 no, .func (.func 89) [] []] [.cells [.ptr 1 0, .int .i64 k], .cells [.buf 2], .buf 4 0 l] (.list true 0 []) (some [.cells [.ptr 1 0, .int .i64 k], .cells [.buf 2], .buf 4 0 l, .dead]) := by
 refine al (C := cx []) (aq trivial) (fn := Tryz.f88) rfl rfl rfl rfl fun hw _ => ?_
 repeat' ((conv => whnf); first | apply aj | apply aO | (apply aw <;> intro h))
 all_goals try conv => whnf
 all_goals try (refine ae.mk ?_; try dsimp only)
 all_goals first
  | exact absurd (by assumption) h0
  | skip
 all_goals
  refine af.mk [.nw] ?_ <;> (repeat' first | trivial)
theorem LA (s : List UInt8) : au 86 (yy s) := by
 intro args sg pre x r he hp
 unfold yy at he
 split at he <;> cases he
 obtain ⟨rfl, hs⟩ := hp
 rename_i no k
 by_cases h : k ≠ 0
 . rw [show fX bL (ai no s) k = (k, []) from if_pos h]
   exact (I8 no k _ h).res (Wk.nil (.inl rfl))
 . obtain rfl : k = 0 := Classical.not_not.1 h
   exact I7 no s hs
theorem LB (s : List UInt8) : au 88 (yz s) := by
 intro args sg pre x r he hp
 unfold yz at he
 split at he <;> cases he
 obtain ⟨rfl, hs⟩ := hp
 rename_i no k
 by_cases h : k ≠ 0
 . rw [show fX fY (ai no s) k = (k, []) from if_pos h]
   exact (Ia no k _ h).res (Wk.nil (.inl rfl))
 . obtain rfl : k = 0 := Classical.not_not.1 h
   exact I9 no s hs
theorem It (s : List UInt8) (hs : s.length ≤ 9000) (h0 : ao s = 0) : OK 57 [.str s] [] (ia (bF s)) none := by
 obtain ⟨b, hb⟩ : ∃ b : List UInt8 → Bool, ∀ s, b s = decide (ao s = 0) := ⟨_, fun _ => rfl⟩
 refine al (C := cx [(79, sE b), (80, sG), (81, sF), (82, lW), (83, sC), (84, sD), (85, oK), (86, yy s), (88, yz s), (28, np), (90, yH), (91, i7)])
  (aq ⟨wL hb, wN, wM, om, wJ, wK, rC, LA s, LB s, pV, LK, iP, trivial⟩) (fn := Tryz.f57) rfl rfl rfl rfl fun hw _ => ?_
 have hos := cD hs
 have hfd : iB ((aF s).map av) := ⟨s, rfl, hs⟩
 have hj := @je 15 s
 all_goals try conv => whnf
 all_goals try (refine ae.mk ?_; try dsimp only)
 conv in (cV _ _ _ _) => whnf
 conv in (Ctx.Γ _ _ _ _) => whnf
 rw [((hb s).trans (decide_eq_true h0))]
 repeat' ((conv => whnf); first | apply aj | apply aO | ((first | apply aw | apply eG) <;> intro h))
 all_goals try conv => whnf
 all_goals try (refine ae.mk ?_; try dsimp only)
 all_goals (try simp only [bW, l5, xi, ib, jS, gV, c3_d, e9_d, evK_d, lkK_d] at *)
 all_goals first
  | omega
  | exact hos
  | exact hfd
  | exact ⟨by trivial, hs⟩
  | skip
 . rcases rQ s h0 with ⟨hz, y⟩ | ⟨hz, e⟩
   . have hje : jn 15 s = [] := L4 (by assumption)
     rw [DQ h0 y (by rw [hje]; decide), hje]
     unfold ia
     rw [if_pos rfl]
     refine af.mk [] ?_ <;> (repeat' first | trivial)
   . exact absurd (by assumption) hz
 . rcases rQ s h0 with ⟨hz, y⟩ | ⟨hz, e⟩
   . exact absurd hz (by assumption)
   . rw [e]
     unfold ia
     rw [if_neg hz]
     refine af.mk [] ?_ <;> (repeat' first | trivial)
 . by_cases h5 : ao (jn 15 s) = 0
   . conv in (cV _ _ _ _) => whnf
     conv in (Ctx.Γ _ _ _ _) => whnf
     rw [((hb (jn 15 s)).trans (decide_eq_true h5))]
     repeat' ((conv => whnf); first | apply aj | apply aO | (apply aw <;> intro h))
     all_goals try conv => whnf
     all_goals try (refine ae.mk ?_; try dsimp only)
     . omega
     . exact ⟨_, rfl, by omega⟩
     all_goals (try simp only [xi, l5] at *)
     . rcases rQ s h0 with ⟨hz, y⟩ | ⟨hz, e⟩
       . rw [DQ h0 y h5]
         unfold ia
         rw [if_pos rfl]
         refine af.mk [] ?_ <;> (repeat' first | trivial)
       . exact absurd (by assumption) hz
     . exact absurd (qd (k := (fW s).1) (c := 0) (by assumption)) (by assumption)
   . conv in (cV _ _ _ _) => whnf
     conv in (Ctx.Γ _ _ _ _) => whnf
     rw [((hb (jn 15 s)).trans (decide_eq_false h5))]
     repeat' ((conv => whnf); first | apply aj | apply aO | (apply aw <;> intro h))
     all_goals try conv => whnf
     all_goals try (refine ae.mk ?_; try dsimp only)
     . omega
     . exact absurd ((qd (k := (fW s).1) (c := ao (jn 15 s)) (by assumption)).symm.trans (by assumption)) h5
     . rcases rQ s h0 with ⟨hz, y⟩ | ⟨hz, e⟩
       . rw [NB h0 y h5, qd hz]
         unfold ia
         rw [if_neg h5]
         refine af.mk [] ?_ <;> (repeat' first | trivial)
       . exact absurd (by assumption) hz
 . rcases rQ s h0 with ⟨hz, y⟩ | ⟨hz, e⟩
   . exact absurd hz (by assumption)
   . rw [e]
     unfold ia
     rw [if_neg hz]
     refine af.mk [] ?_ <;> (repeat' first | trivial)
theorem Is (s : List UInt8) (hs : s.length ≤ 9000) (h0 : ¬ ao s = 0) : OK 57 [.str s] [] (ia (bF s)) none := by
 refine al (C := cx [(79, yF)]) (aq ⟨Cj, trivial⟩) (fn := Tryz.f57) rfl rfl rfl rfl fun hw _ => ?_
 rw [DP h0]
 unfold ia
 rw [if_neg h0]
 repeat' ((conv => whnf); first | apply aj | apply aO | (apply aw <;> intro h))
 all_goals try conv => whnf
 all_goals try (refine ae.mk ?_; try dsimp only)
 all_goals first
  | exact ⟨by omega, h0⟩
  | exact absurd (by assumption) h0
  | skip
 all_goals
  refine af.mk [] ?_ <;> (repeat' first | trivial)
theorem NC {s : List UInt8} (h : (bF s).1 ≠ 0) : (bF s).2 = default := by
 unfold bF at h ⊢
 split
 . rfl
 split
 . rfl
 split
 . rfl
 split
 . rfl
 split
 . rfl
 split
 . rfl
 . rename_i a b c d e f
   rw [if_neg a, if_neg b, if_neg c, if_neg d, if_neg e, if_neg f] at h
   exact absurd rfl h
-- #name osRd ospan.Read
def yG : Sm := fun args σ => match args, σ with
 | [.str s], [] => some (s.length ≤ 9000, .tuple [dk (bF s).2, .int .i64 (bF s).1], none)
 | _, _ => none
theorem LJ : au 57 yG := by
 intro args sg pre x r he hp
 unfold yG at he
 split at he <;> cases he
 rename_i s
 refine ey.res ?_ (EB _ NC)
 by_cases h : ao s = 0
 . exact It s hp h
 . exact Is s hp h
end Go.Proofs.YtdjolnjlhbfnmaaGreatDoor
