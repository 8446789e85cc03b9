/-
  A part of the proof.
-/
import Derived.Test.YtipejldppicijaaGreatDoorPText
set_option linter.unusedSimpArgs false
set_option linter.unusedVariables false
set_option maxHeartbeats 4000000
namespace Go.Proofs.YtipejldppicijaaGreatDoor
open Go Go.VG
set_option maxRecDepth 100000
theorem Fu (v : ae) (h1 : v.ok) (h2 : v.size ≤ 300000) : OK 147 [ev v] [] (.str (json v)) none := by
 refine af (C := cx [(158, x9)]) (ah ⟨k_lay, trivial⟩) (fn := Tryz.f147) rfl rfl rfl rfl fun _ _ => ?_
 repeat' ((conv => whnf); first | apply a9 | apply je)
 all_goals try conv => whnf
 all_goals try (refine a8.mk ?_; try dsimp only)
 all_goals first | refine stay ?_ | ((refine And.intro (ba _) ?_; simp only [az]; repeat' (refine And.intro ?_ ?_)); all_goals (first | assumption | omega); done) | skip
 refine a7.mk [] ?_ <;> (repeat' first | trivial | apply ab | apply aV)
 rw [az]
def wy : Sm := fun args σ => match args, σ with
 | [x], [] => some (dV x ∧ (aY x).ok ∧ (aY x).size ≤ 300000, .str (json (aY x)), none)
 | _, _ => none
theorem IQ : aa 147 wy := by
 intro args sg pre x r he hp
 unfold wy at he
 split at he <;> cases he
 exact (Fu _ hp.2.1 hp.2.2).args (aq.cons hp.1 aq.nil)
theorem FD (v : ae) (hw1 : v.ok) (h2 : v.size ≤ 300000) : OK 115 [ev v] [] (.str (text v)) none := by
 refine af (C := cx [(146, tI), (147, wy)]) (ah ⟨AU, IQ, trivial⟩) (fn := Tryz.f115) rfl rfl rfl rfl fun hw _ => ?_
 have hz := size_eq v
 have ht : ke v = ke v := rfl
 rw (occs := .pos [2]) [ke] at ht
 have hx : text v = text v := rfl
 rw (occs := .pos [2]) [text] at hx
 have hs : simple v = simple v := rfl
 rw (occs := .pos [2]) [simple] at hs
 by_cases h0 : v.kind = 0
 . rw [if_pos h0] at ht
   rw [if_neg (by omega)] at hx
   repeat (first | rw [if_pos (by omega)] at hs | rw [if_neg (by omega)] at hs)
   rw [hx, hs]
   repeat' ((conv => whnf); apply a9)
   all_goals try conv => whnf
   all_goals try (refine a8.mk ?_; try dsimp only)
   all_goals try ((refine And.intro (ba _) ?_; simp only [az]; repeat' (refine And.intro ?_ ?_)); all_goals (first | assumption | omega); done)
   simp only [az, ht]
   repeat' ((conv => whnf); (apply al <;> intro h))
   all_goals try conv => whnf
   all_goals try (refine a8.mk ?_; try dsimp only)
   all_goals try refine stay ?_
   all_goals first
    | (exfalso; omega)
    | skip
   refine a7.mk [] ?_ <;> (repeat' first | trivial)
 rw [if_neg h0] at ht
 by_cases h1 : v.kind = 1
 . rw [if_pos h1] at ht
   rw [if_neg (by omega)] at hx
   repeat (first | rw [if_pos (by omega)] at hs | rw [if_neg (by omega)] at hs)
   rw [hx, hs]
   repeat' ((conv => whnf); apply a9)
   all_goals try conv => whnf
   all_goals try (refine a8.mk ?_; try dsimp only)
   all_goals try ((refine And.intro (ba _) ?_; simp only [az]; repeat' (refine And.intro ?_ ?_)); all_goals (first | assumption | omega); done)
   simp only [az, ht]
   all_goals try conv => whnf
   all_goals try (refine a8.mk ?_; try dsimp only)
   all_goals try refine stay ?_
   all_goals first
    | (exfalso; omega)
    | skip
   refine a7.mk [] ?_ <;> (repeat' first | trivial)
 rw [if_neg h1] at ht
 by_cases h2 : v.kind = 2
 . rw [if_pos h2] at ht
   rw [if_neg (by omega)] at hx
   repeat (first | rw [if_pos (by omega)] at hs | rw [if_neg (by omega)] at hs)
   rw [hx, hs]
   repeat' ((conv => whnf); apply a9)
   all_goals try conv => whnf
   all_goals try (refine a8.mk ?_; try dsimp only)
   all_goals try ((refine And.intro (ba _) ?_; simp only [az]; repeat' (refine And.intro ?_ ?_)); all_goals (first | assumption | omega); done)
   simp only [az, ht]
   repeat' ((conv => whnf); (apply al <;> intro h))
   all_goals try conv => whnf
   all_goals try (refine a8.mk ?_; try dsimp only)
   all_goals try refine stay ?_
   all_goals first
    | (exfalso; omega)
    | skip
   refine a7.mk [] ?_ <;> (repeat' first | trivial)
 rw [if_neg h2] at ht
 by_cases h3 : v.kind = 3
 . rw [if_pos h3] at ht
   rw [if_neg (by omega)] at hx
   repeat (first | rw [if_pos (by omega)] at hs | rw [if_neg (by omega)] at hs)
   rw [hx, hs]
   repeat' ((conv => whnf); apply a9)
   all_goals try conv => whnf
   all_goals try (refine a8.mk ?_; try dsimp only)
   all_goals try ((refine And.intro (ba _) ?_; simp only [az]; repeat' (refine And.intro ?_ ?_)); all_goals (first | assumption | omega); done)
   simp only [az, ht]
   repeat' ((conv => whnf); (apply al <;> intro h))
   all_goals try conv => whnf
   all_goals try (refine a8.mk ?_; try dsimp only)
   all_goals try refine stay ?_
   all_goals first
    | (exfalso; omega)
    | skip
   refine a7.mk [] ?_ <;> (repeat' first | trivial)
 rw [if_neg h3] at ht
 by_cases h4 : v.kind = 4
 . rw [if_pos h4] at ht
   rw [if_neg (by omega)] at hx
   repeat (first | rw [if_pos (by omega)] at hs | rw [if_neg (by omega)] at hs)
   rw [hx, hs]
   repeat' ((conv => whnf); apply a9)
   all_goals try conv => whnf
   all_goals try (refine a8.mk ?_; try dsimp only)
   all_goals try ((refine And.intro (ba _) ?_; simp only [az]; repeat' (refine And.intro ?_ ?_)); all_goals (first | assumption | omega); done)
   simp only [az, ht]
   all_goals try conv => whnf
   all_goals try (refine a8.mk ?_; try dsimp only)
   all_goals try refine stay ?_
   all_goals first
    | (exfalso; omega)
    | skip
   refine a7.mk [] ?_ <;> (repeat' first | trivial)
 rw [if_neg h4] at ht
 by_cases h5 : v.kind = 5
 . rw [if_pos h5] at ht
   rw [if_neg (by omega)] at hx
   repeat (first | rw [if_pos (by omega)] at hs | rw [if_neg (by omega)] at hs)
   rw [hx, hs]
   repeat' ((conv => whnf); apply a9)
   all_goals try conv => whnf
   all_goals try (refine a8.mk ?_; try dsimp only)
   all_goals try ((refine And.intro (ba _) ?_; simp only [az]; repeat' (refine And.intro ?_ ?_)); all_goals (first | assumption | omega); done)
   simp only [az, ht]
   all_goals try conv => whnf
   all_goals try (refine a8.mk ?_; try dsimp only)
   all_goals try refine stay ?_
   all_goals first
    | (exfalso; omega)
    | skip
   refine a7.mk [] ?_ <;> (repeat' first | trivial)
 rw [if_neg h5] at ht
 by_cases h6 : v.kind = 6
 . rw [if_pos h6] at ht
   rw [if_pos (by omega)] at hx
   rw [hx]
   repeat' ((conv => whnf); apply a9)
   all_goals try conv => whnf
   all_goals try (refine a8.mk ?_; try dsimp only)
   all_goals try ((refine And.intro (ba _) ?_; simp only [az]; repeat' (refine And.intro ?_ ?_)); all_goals (first | assumption | omega); done)
   simp only [az, ht]
   repeat' ((conv => whnf); apply a9)
   all_goals try conv => whnf
   all_goals try (refine a8.mk ?_; try dsimp only)
   all_goals first | refine stay ?_ | ((refine And.intro (ba _) ?_; simp only [az]; repeat' (refine And.intro ?_ ?_)); all_goals (first | assumption | omega); done) | skip
   all_goals first
    | (exfalso; omega)
    | skip
   refine a7.mk [] ?_ <;> (repeat' first | trivial | apply ab | apply aV)
   rw [az]
 rw [if_neg h6] at ht
 by_cases h7 : v.kind = 7
 . rw [if_pos h7] at ht
   rw [if_pos (by omega)] at hx
   rw [hx]
   repeat' ((conv => whnf); apply a9)
   all_goals try conv => whnf
   all_goals try (refine a8.mk ?_; try dsimp only)
   all_goals try ((refine And.intro (ba _) ?_; simp only [az]; repeat' (refine And.intro ?_ ?_)); all_goals (first | assumption | omega); done)
   simp only [az, ht]
   repeat' ((conv => whnf); apply a9)
   all_goals try conv => whnf
   all_goals try (refine a8.mk ?_; try dsimp only)
   all_goals first | refine stay ?_ | ((refine And.intro (ba _) ?_; simp only [az]; repeat' (refine And.intro ?_ ?_)); all_goals (first | assumption | omega); done) | skip
   all_goals first
    | (exfalso; omega)
    | skip
   refine a7.mk [] ?_ <;> (repeat' first | trivial | apply ab | apply aV)
   rw [az]
 rw [if_neg h7] at ht
 rw [if_neg (by omega)] at hx
 repeat (first | rw [if_pos (by omega)] at hs | rw [if_neg (by omega)] at hs)
 rw [hx, hs]
 repeat' ((conv => whnf); apply a9)
 all_goals try conv => whnf
 all_goals try (refine a8.mk ?_; try dsimp only)
 all_goals try ((refine And.intro (ba _) ?_; simp only [az]; repeat' (refine And.intro ?_ ?_)); all_goals (first | assumption | omega); done)
 simp only [az, ht]
 repeat' ((conv => whnf); (apply al <;> intro h))
 all_goals try conv => whnf
 all_goals try (refine a8.mk ?_; try dsimp only)
 all_goals try refine stay ?_
 all_goals first
  | (exfalso; omega)
  | skip
 refine a7.mk [] ?_ <;> (repeat' first | trivial)
def wE : Sm := fun args σ => match args, σ with
 | [x], [] => some (dV x ∧ (aY x).ok ∧ (aY x).size ≤ 300000, .str (text (aY x)), none)
 | _, _ => none
theorem IU : aa 115 wE := by
 intro args sg pre x r he hp
 unfold wE at he
 split at he <;> cases he
 exact (FD _ hp.2.1 hp.2.2).args (aq.cons hp.1 aq.nil)
end Go.Proofs.YtipejldppicijaaGreatDoor
