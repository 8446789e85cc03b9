/-
  A part of the proof.
-/
import Derived.Test.YtdjolnjlhbfnmaaGreatDoorNS
set_option linter.unusedSimpArgs false
set_option linter.unusedVariables false
set_option maxHeartbeats 4000000
namespace Go.Proofs.YtdjolnjlhbfnmaaGreatDoor
open Go Go.VG
set_option maxRecDepth 100000
abbrev sp0 (s : List UInt8) : Sp := ub (tx 1 s) (tx 2 s) (tx 4 s) (tx 3 s) (tx 5 s) (eU (nm 6 0 s)) (nm 7 1 s) (nm 8 1 s) (bI 9 s).2 [] [] 0 []
theorem zE (c : Int) : Wk (.tuple [.agg kh, .int .i64 c]) (.tuple [dk default, .int .i64 c]) := by
 repeat' first
  | exact Wk.refl _
  | exact aE.nil
  | exact Wk.nil (.inl rfl)
  | refine Wk.tuple (aE.cons (Wk.agg ?_) (aE.refl _))
  | refine aE.cons ?_ ?_
theorem Ko (s : List UInt8) (hs : s.length ≤ 9000) (h0 : ao s ≠ 0) : OK 66 [.str s] [] (.tuple [.agg kh, .int .i64 (ao s)]) none := by
 refine al (C := cx [(14, eK)]) (aq ⟨fg, trivial⟩) (fn := Tryz.f66) rfl rfl rfl rfl fun hw _ => ?_
 repeat' ((conv => whnf); first | apply aj | apply aO | (apply aw <;> intro h))
 all_goals try conv => whnf
 all_goals try (refine ae.mk ?_; try dsimp only)
 . omega
 . exact absurd (by assumption) h0
 . exact absurd (by assumption) h0
 . refine af.mk [] ?_ <;> (repeat' first | trivial)
theorem Kn (s : List UInt8) (hs : s.length ≤ 9000) (h0 : ao s = 0) (hb : eX s) : OK 66 [.str s] [] (.tuple [.agg kh, .int .i64 10]) none := by
 refine al (C := cx [(14, eK), (101, qz), (102, qy), (103, oL)]) (aq ⟨fg, tT, tS, rD, trivial⟩) (fn := Tryz.f66) rfl rfl rfl rfl fun hw _ => ?_
 have hos := cD hs
 have h1 := @l6 1 s
 have h2 := @l6 2 s
 have h4 := @l6 4 s
 unfold eX at hb
 repeat' ((conv => whnf); first | apply aj | apply aO | ((first | apply aw | apply fw) <;> intro h))
 all_goals try conv => whnf
 all_goals try (refine ae.mk ?_; try dsimp only)
 all_goals (try simp only [bW, ib] at *)
 all_goals first
  | omega
  | exact absurd (by assumption) h0
  | exact absurd h0 (by assumption)
  | exact ⟨⟨⟨_, rfl⟩, by have := hos.2; omega⟩, by omega⟩
  | exact ⟨⟨_, rfl⟩, by have := hos.2; omega⟩
  | (exfalso
     rcases hb with q | q | ⟨q, q2⟩ <;> first | exact q (by assumption) | omega)
  | skip
 all_goals
  refine af.mk [] ?_ <;> (repeat' first | trivial)
theorem Kp (s : List UInt8) (hs : s.length ≤ 9000) (h0 : ao s = 0) (hb : ¬ eX s) : OK 66 [.str s] [] (if (bI 9 s).1 ≠ 0 then .tuple [.agg kh, .int .i64 (bI 9 s).1] else .tuple [dk (eS (sp0 s) s).2, .int .i64 (eS (sp0 s) s).1]) none := by
 refine al (C := cx [(14, eK), (101, qz), (102, qy), (15, jv), (38, oJ (eb 32) 32), (103, oL), (105, ve), (106, vf), (104, zl (sp0 s) s)]) (aq ⟨fg, tT, tS, kL, rA (eb 32) 32 (rB 32), rD, Cy, Cz, k_rIn (sp0 s) s, trivial⟩) (fn := Tryz.f66) rfl rfl rfl rfl fun hw _ => ?_
 have hos := cD hs
 have h1 := @l6 1 s
 have h2 := @l6 2 s
 have h4 := @l6 4 s
 unfold eX at hb
 repeat' ((conv => whnf); first | apply aj | apply aO | ((first | apply aw | apply fw) <;> intro h))
 all_goals try conv => whnf
 all_goals try (refine ae.mk ?_; try dsimp only)
 all_goals (try simp only [bW, ib, jS, gV, gO, fT] at *)
 all_goals first
  | omega
  | exact absurd (by assumption) h0
  | exact absurd h0 (by assumption)
  | exact ⟨⟨⟨_, rfl⟩, by have := hos.2; omega⟩, by omega⟩
  | exact ⟨⟨_, rfl⟩, by have := hos.2; omega⟩
  | exact ⟨trivial, pj hs⟩
  | (exfalso
     refine hb ?_
     first
      | exact .inl (by assumption)
      | exact .inr (.inl (by assumption))
      | exact .inr (.inr ⟨by assumption, by assumption⟩))
  | skip
 all_goals first
  | (refine ⟨?_, by trivial, hs⟩
     simp (discharger := decide) only [AZ]
     rfl)
  | (rw [if_neg (fun z => z (by assumption))]
     refine af.mk [] ?_ <;> (repeat' first | trivial)
     done)
  | (rw [if_pos (by assumption)]
     refine af.mk [] ?_ <;> (repeat' first | trivial)
     done)
theorem DP {s : List UInt8} (h : ao s ≠ 0) : bF s = (ao s, default) := if_pos h
theorem DO {s : List UInt8} (h : ao s = 0) (hb : eX s) : bF s = (10, default) := (if_neg fun q => q h).trans (if_pos hb)
theorem DN {s : List UInt8} (h : ao s = 0) (hb : ¬ eX s) (he : (bI 9 s).1 ≠ 0) : bF s = ((bI 9 s).1, default) := (if_neg fun q => q h).trans ((if_neg hb).trans (if_pos he))
theorem sf {s : List UInt8} (h : ao s = 0) (hb : ¬ eX s) (he : ¬ (bI 9 s).1 ≠ 0) : bF s = eS (sp0 s) s := (if_neg fun q => q h).trans ((if_neg hb).trans (if_neg he))
def zt : Sm := fun args σ => match args, σ with
 | [.str s], [] => some (s.length ≤ 9000, .tuple [dk (bF s).2, .int .i64 (bF s).1], none)
 | _, _ => none
-- #name rSp truchmanref36.Read
theorem k_rSp : au 66 zt := by
 intro args sg pre x r he hp
 unfold zt at he
 split at he <;> cases he
 rename_i s
 by_cases h : ao s = 0
 . by_cases hb : eX s
   . rw [DO h hb]
     exact (Kn s hp h hb).res (zE _)
   . have := Kp s hp h hb
     by_cases he : (bI 9 s).1 ≠ 0
     . rw [if_pos he] at this
       rw [DN h hb he]
       exact this.res (zE _)
     . rw [if_neg he] at this
       rw [sf h hb he]
       exact this
 . rw [DP h]
   exact (Ko s hp h).res (zE _)
end Go.Proofs.YtdjolnjlhbfnmaaGreatDoor
