/-
  A part of the proof.
-/
import Derived.Test.YtllncocibkgjkaaDoorPText
set_option linter.unusedSimpArgs false
set_option linter.unusedVariables false
set_option maxHeartbeats 4000000
namespace Go.Proofs.YtllncocibkgjkaaDoor
open Go Go.VG
set_option maxRecDepth 100000
theorem Em (v : ah) (h1 : v.ok) (h2 : v.size ≤ 300000) : OK 8 [ev v] [] (.str (json v)) none := by
 refine aI (C := cx [(22, wI)]) (aG ⟨k_lay, trivial⟩) (fn := Tryd.f8) rfl rfl rfl rfl fun _ _ => ?_
 repeat' ((conv => whnf); first | with_reducible (first | refine bg (fun j q h => ?_) fun h => ?_ | refine go2 ⟨rfl, rfl⟩ (fun h => ?_) fun j h => ?_ | refine go2 ?_ (fun h => ?_) fun j h => ?_ | refine aL ?_ (fun h => ?_) fun h => ?_) | apply ai | apply aT | apply aw | ((first | apply aj | apply bB | apply bC | apply bm | apply bc) <;> intro h) | with_reducible (first | refine aQ.mk _ rfl ?_ | refine bL ?_ ?_ | refine bM ?_ ?_ | refine bn ?_ fun hc => ?_ | refine bo ?_ fun hc => ?_ | refine aY ?_ fun hc => ?_ | refine b9 ?_ fun hc => ?_ | apply bd | apply bf | refine b6 ?_ fun b hb => ?_) | apply b7 | apply bh | apply bp | apply bq | apply br | apply goN | apply bz | with_reducible refine bA ?_)
 all_goals try conv => whnf
 all_goals try (refine a8.mk ?_; try dsimp only)
 all_goals first | refine stay ?_ | ((refine And.intro (az _) ?_; simp only [aN]; repeat' (refine And.intro ?_ ?_)); all_goals (first | assumption | omega); done) | ((refine And.intro (aH _) ?_; simp only [bU]; repeat' (refine And.intro ?_ ?_)); all_goals (first | assumption | omega); done) | (exact az _) | (exact aH _) | (exact cq _) | trivial | omega | (simp (discharger := omega) only [wR]; omega) | (simp only [ax]; omega) | (simp (discharger := omega) [-List.getD_eq_getElem?_getD, wR] <;> omega) | skip
 refine ab.mk [] ?_ <;> (repeat' first | trivial | rfl | exact aV _ _ | apply aa | apply aU | apply ar | apply aK | apply ak | apply aS | apply aW | apply aX | apply aO | apply aJ)
 rw [aN]
def qI : Sm := fun args σ => match args, σ with
 | [x], [] => some (fM x ∧ (bW x).ok ∧ (bW x).size ≤ 300000, .str (json (bW x)), none)
 | _, _ => none
theorem uF : aE 8 qI := by
 intro args sg pre x r he hp
 unfold qI at he
 split at he <;> cases he
 exact (Em _ hp.2.1 hp.2.2).args (aM.cons hp.1 aM.nil)
theorem Ep (v : ah) (hw1 : v.ok) (h2 : v.size ≤ 300000) : OK 15 [ev v] [] (.str (text v)) none := by
 refine aI (C := cx [(26, sY), (8, qI)]) (aG ⟨zN, uF, trivial⟩) (fn := Tryd.f15) rfl rfl rfl rfl fun hw _ => ?_
 have hz := size_eq v
 have ht : l0 v = l0 v := rfl
 rw (occs := .pos [2]) [l0] at ht
 have hx : text v = text v := rfl
 rw (occs := .pos [2]) [text] at hx
 have hs : simple v = simple v := rfl
 rw (occs := .pos [2]) [simple] at hs
 by_cases h0 : v.kind = 0
 . rw [if_pos h0] at ht
   rw [if_neg (by omega)] at hx
   repeat (first | rw [if_pos (by omega)] at hs | rw [if_neg (by omega)] at hs)
   rw [hx, hs]
   repeat' ((conv => whnf); first | with_reducible (first | refine bg (fun j q h => ?_) fun h => ?_ | refine go2 ⟨rfl, rfl⟩ (fun h => ?_) fun j h => ?_ | refine go2 ?_ (fun h => ?_) fun j h => ?_ | refine aL ?_ (fun h => ?_) fun h => ?_) | apply ai | apply aT | apply aw | ((first | apply aj | apply bB | apply bC | apply bm | apply bc) <;> intro h) | with_reducible (first | refine aQ.mk _ rfl ?_ | refine bL ?_ ?_ | refine bM ?_ ?_ | refine bn ?_ fun hc => ?_ | refine bo ?_ fun hc => ?_ | refine aY ?_ fun hc => ?_ | refine b9 ?_ fun hc => ?_ | apply bd | apply bf | refine b6 ?_ fun b hb => ?_) | apply b7 | apply bh | apply bp | apply bq | apply br | apply goN | apply bz | with_reducible refine bA ?_)
   all_goals try conv => whnf
   all_goals try (refine a8.mk ?_; try dsimp only)
   all_goals first | refine stay ?_ | ((refine And.intro (az _) ?_; simp only [aN]; repeat' (refine And.intro ?_ ?_)); all_goals (first | assumption | omega); done) | ((refine And.intro (aH _) ?_; simp only [bU]; repeat' (refine And.intro ?_ ?_)); all_goals (first | assumption | omega); done) | (exact az _) | (exact aH _) | (exact cq _) | trivial | omega | (simp (discharger := omega) only [wR]; omega) | (simp only [ax]; omega) | (simp (discharger := omega) [-List.getD_eq_getElem?_getD, wR] <;> omega) | skip
   simp only [aN, ht]
   repeat' ((conv => whnf); first | with_reducible (first | refine bg (fun j q h => ?_) fun h => ?_ | refine go2 ⟨rfl, rfl⟩ (fun h => ?_) fun j h => ?_ | refine go2 ?_ (fun h => ?_) fun j h => ?_ | refine aL ?_ (fun h => ?_) fun h => ?_) | apply ai | apply aT | apply aw | ((first | apply aj | apply bB | apply bC | apply bm | apply bc) <;> intro h) | with_reducible (first | refine aQ.mk _ rfl ?_ | refine bL ?_ ?_ | refine bM ?_ ?_ | refine bn ?_ fun hc => ?_ | refine bo ?_ fun hc => ?_ | refine aY ?_ fun hc => ?_ | refine b9 ?_ fun hc => ?_ | apply bd | apply bf | refine b6 ?_ fun b hb => ?_) | apply b7 | apply bh | apply bp | apply bq | apply br | apply goN | apply bz | with_reducible refine bA ?_)
   all_goals try conv => whnf
   all_goals try (refine a8.mk ?_; try dsimp only)
   all_goals first | refine stay ?_ | ((refine And.intro (az _) ?_; simp only [aN]; repeat' (refine And.intro ?_ ?_)); all_goals (first | assumption | omega); done) | ((refine And.intro (aH _) ?_; simp only [bU]; repeat' (refine And.intro ?_ ?_)); all_goals (first | assumption | omega); done) | (exact az _) | (exact aH _) | (exact cq _) | trivial | omega | (simp (discharger := omega) only [wR]; omega) | (simp only [ax]; omega) | (simp (discharger := omega) [-List.getD_eq_getElem?_getD, wR] <;> omega) | skip
   all_goals first
    | (exfalso; omega)
    | skip
   refine ab.mk [] ?_ <;> (repeat' first | trivial | rfl | exact aV _ _ | apply aa | apply aU | apply ar | apply aK | apply ak | apply aS | apply aW | apply aX | apply aO | apply aJ)
 rw [if_neg h0] at ht
 by_cases h1 : v.kind = 1
 . rw [if_pos h1] at ht
   rw [if_neg (by omega)] at hx
   repeat (first | rw [if_pos (by omega)] at hs | rw [if_neg (by omega)] at hs)
   rw [hx, hs]
   repeat' ((conv => whnf); first | with_reducible (first | refine bg (fun j q h => ?_) fun h => ?_ | refine go2 ⟨rfl, rfl⟩ (fun h => ?_) fun j h => ?_ | refine go2 ?_ (fun h => ?_) fun j h => ?_ | refine aL ?_ (fun h => ?_) fun h => ?_) | apply ai | apply aT | apply aw | ((first | apply aj | apply bB | apply bC | apply bm | apply bc) <;> intro h) | with_reducible (first | refine aQ.mk _ rfl ?_ | refine bL ?_ ?_ | refine bM ?_ ?_ | refine bn ?_ fun hc => ?_ | refine bo ?_ fun hc => ?_ | refine aY ?_ fun hc => ?_ | refine b9 ?_ fun hc => ?_ | apply bd | apply bf | refine b6 ?_ fun b hb => ?_) | apply b7 | apply bh | apply bp | apply bq | apply br | apply goN | apply bz | with_reducible refine bA ?_)
   all_goals try conv => whnf
   all_goals try (refine a8.mk ?_; try dsimp only)
   all_goals first | refine stay ?_ | ((refine And.intro (az _) ?_; simp only [aN]; repeat' (refine And.intro ?_ ?_)); all_goals (first | assumption | omega); done) | ((refine And.intro (aH _) ?_; simp only [bU]; repeat' (refine And.intro ?_ ?_)); all_goals (first | assumption | omega); done) | (exact az _) | (exact aH _) | (exact cq _) | trivial | omega | (simp (discharger := omega) only [wR]; omega) | (simp only [ax]; omega) | (simp (discharger := omega) [-List.getD_eq_getElem?_getD, wR] <;> omega) | skip
   simp only [aN, ht]
   repeat' ((conv => whnf); first | with_reducible (first | refine bg (fun j q h => ?_) fun h => ?_ | refine go2 ⟨rfl, rfl⟩ (fun h => ?_) fun j h => ?_ | refine go2 ?_ (fun h => ?_) fun j h => ?_ | refine aL ?_ (fun h => ?_) fun h => ?_) | apply ai | apply aT | apply aw | ((first | apply aj | apply bB | apply bC | apply bm | apply bc) <;> intro h) | with_reducible (first | refine aQ.mk _ rfl ?_ | refine bL ?_ ?_ | refine bM ?_ ?_ | refine bn ?_ fun hc => ?_ | refine bo ?_ fun hc => ?_ | refine aY ?_ fun hc => ?_ | refine b9 ?_ fun hc => ?_ | apply bd | apply bf | refine b6 ?_ fun b hb => ?_) | apply b7 | apply bh | apply bp | apply bq | apply br | apply goN | apply bz | with_reducible refine bA ?_)
   all_goals try conv => whnf
   all_goals try (refine a8.mk ?_; try dsimp only)
   all_goals first | refine stay ?_ | ((refine And.intro (az _) ?_; simp only [aN]; repeat' (refine And.intro ?_ ?_)); all_goals (first | assumption | omega); done) | ((refine And.intro (aH _) ?_; simp only [bU]; repeat' (refine And.intro ?_ ?_)); all_goals (first | assumption | omega); done) | (exact az _) | (exact aH _) | (exact cq _) | trivial | omega | (simp (discharger := omega) only [wR]; omega) | (simp only [ax]; omega) | (simp (discharger := omega) [-List.getD_eq_getElem?_getD, wR] <;> omega) | skip
   all_goals first
    | (exfalso; omega)
    | skip
   refine ab.mk [] ?_ <;> (repeat' first | trivial | rfl | exact aV _ _ | apply aa | apply aU | apply ar | apply aK | apply ak | apply aS | apply aW | apply aX | apply aO | apply aJ)
 rw [if_neg h1] at ht
 by_cases h2 : v.kind = 2
 . rw [if_pos h2] at ht
   rw [if_neg (by omega)] at hx
   repeat (first | rw [if_pos (by omega)] at hs | rw [if_neg (by omega)] at hs)
   rw [hx, hs]
   repeat' ((conv => whnf); first | with_reducible (first | refine bg (fun j q h => ?_) fun h => ?_ | refine go2 ⟨rfl, rfl⟩ (fun h => ?_) fun j h => ?_ | refine go2 ?_ (fun h => ?_) fun j h => ?_ | refine aL ?_ (fun h => ?_) fun h => ?_) | apply ai | apply aT | apply aw | ((first | apply aj | apply bB | apply bC | apply bm | apply bc) <;> intro h) | with_reducible (first | refine aQ.mk _ rfl ?_ | refine bL ?_ ?_ | refine bM ?_ ?_ | refine bn ?_ fun hc => ?_ | refine bo ?_ fun hc => ?_ | refine aY ?_ fun hc => ?_ | refine b9 ?_ fun hc => ?_ | apply bd | apply bf | refine b6 ?_ fun b hb => ?_) | apply b7 | apply bh | apply bp | apply bq | apply br | apply goN | apply bz | with_reducible refine bA ?_)
   all_goals try conv => whnf
   all_goals try (refine a8.mk ?_; try dsimp only)
   all_goals first | refine stay ?_ | ((refine And.intro (az _) ?_; simp only [aN]; repeat' (refine And.intro ?_ ?_)); all_goals (first | assumption | omega); done) | ((refine And.intro (aH _) ?_; simp only [bU]; repeat' (refine And.intro ?_ ?_)); all_goals (first | assumption | omega); done) | (exact az _) | (exact aH _) | (exact cq _) | trivial | omega | (simp (discharger := omega) only [wR]; omega) | (simp only [ax]; omega) | (simp (discharger := omega) [-List.getD_eq_getElem?_getD, wR] <;> omega) | skip
   simp only [aN, ht]
   repeat' ((conv => whnf); first | with_reducible (first | refine bg (fun j q h => ?_) fun h => ?_ | refine go2 ⟨rfl, rfl⟩ (fun h => ?_) fun j h => ?_ | refine go2 ?_ (fun h => ?_) fun j h => ?_ | refine aL ?_ (fun h => ?_) fun h => ?_) | apply ai | apply aT | apply aw | ((first | apply aj | apply bB | apply bC | apply bm | apply bc) <;> intro h) | with_reducible (first | refine aQ.mk _ rfl ?_ | refine bL ?_ ?_ | refine bM ?_ ?_ | refine bn ?_ fun hc => ?_ | refine bo ?_ fun hc => ?_ | refine aY ?_ fun hc => ?_ | refine b9 ?_ fun hc => ?_ | apply bd | apply bf | refine b6 ?_ fun b hb => ?_) | apply b7 | apply bh | apply bp | apply bq | apply br | apply goN | apply bz | with_reducible refine bA ?_)
   all_goals try conv => whnf
   all_goals try (refine a8.mk ?_; try dsimp only)
   all_goals first | refine stay ?_ | ((refine And.intro (az _) ?_; simp only [aN]; repeat' (refine And.intro ?_ ?_)); all_goals (first | assumption | omega); done) | ((refine And.intro (aH _) ?_; simp only [bU]; repeat' (refine And.intro ?_ ?_)); all_goals (first | assumption | omega); done) | (exact az _) | (exact aH _) | (exact cq _) | trivial | omega | (simp (discharger := omega) only [wR]; omega) | (simp only [ax]; omega) | (simp (discharger := omega) [-List.getD_eq_getElem?_getD, wR] <;> omega) | skip
   all_goals first
    | (exfalso; omega)
    | skip
   refine ab.mk [] ?_ <;> (repeat' first | trivial | rfl | exact aV _ _ | apply aa | apply aU | apply ar | apply aK | apply ak | apply aS | apply aW | apply aX | apply aO | apply aJ)
 rw [if_neg h2] at ht
 by_cases h3 : v.kind = 3
 . rw [if_pos h3] at ht
   rw [if_neg (by omega)] at hx
   repeat (first | rw [if_pos (by omega)] at hs | rw [if_neg (by omega)] at hs)
   rw [hx, hs]
   repeat' ((conv => whnf); first | with_reducible (first | refine bg (fun j q h => ?_) fun h => ?_ | refine go2 ⟨rfl, rfl⟩ (fun h => ?_) fun j h => ?_ | refine go2 ?_ (fun h => ?_) fun j h => ?_ | refine aL ?_ (fun h => ?_) fun h => ?_) | apply ai | apply aT | apply aw | ((first | apply aj | apply bB | apply bC | apply bm | apply bc) <;> intro h) | with_reducible (first | refine aQ.mk _ rfl ?_ | refine bL ?_ ?_ | refine bM ?_ ?_ | refine bn ?_ fun hc => ?_ | refine bo ?_ fun hc => ?_ | refine aY ?_ fun hc => ?_ | refine b9 ?_ fun hc => ?_ | apply bd | apply bf | refine b6 ?_ fun b hb => ?_) | apply b7 | apply bh | apply bp | apply bq | apply br | apply goN | apply bz | with_reducible refine bA ?_)
   all_goals try conv => whnf
   all_goals try (refine a8.mk ?_; try dsimp only)
   all_goals first | refine stay ?_ | ((refine And.intro (az _) ?_; simp only [aN]; repeat' (refine And.intro ?_ ?_)); all_goals (first | assumption | omega); done) | ((refine And.intro (aH _) ?_; simp only [bU]; repeat' (refine And.intro ?_ ?_)); all_goals (first | assumption | omega); done) | (exact az _) | (exact aH _) | (exact cq _) | trivial | omega | (simp (discharger := omega) only [wR]; omega) | (simp only [ax]; omega) | (simp (discharger := omega) [-List.getD_eq_getElem?_getD, wR] <;> omega) | skip
   simp only [aN, ht]
   repeat' ((conv => whnf); first | with_reducible (first | refine bg (fun j q h => ?_) fun h => ?_ | refine go2 ⟨rfl, rfl⟩ (fun h => ?_) fun j h => ?_ | refine go2 ?_ (fun h => ?_) fun j h => ?_ | refine aL ?_ (fun h => ?_) fun h => ?_) | apply ai | apply aT | apply aw | ((first | apply aj | apply bB | apply bC | apply bm | apply bc) <;> intro h) | with_reducible (first | refine aQ.mk _ rfl ?_ | refine bL ?_ ?_ | refine bM ?_ ?_ | refine bn ?_ fun hc => ?_ | refine bo ?_ fun hc => ?_ | refine aY ?_ fun hc => ?_ | refine b9 ?_ fun hc => ?_ | apply bd | apply bf | refine b6 ?_ fun b hb => ?_) | apply b7 | apply bh | apply bp | apply bq | apply br | apply goN | apply bz | with_reducible refine bA ?_)
   all_goals try conv => whnf
   all_goals try (refine a8.mk ?_; try dsimp only)
   all_goals first | refine stay ?_ | ((refine And.intro (az _) ?_; simp only [aN]; repeat' (refine And.intro ?_ ?_)); all_goals (first | assumption | omega); done) | ((refine And.intro (aH _) ?_; simp only [bU]; repeat' (refine And.intro ?_ ?_)); all_goals (first | assumption | omega); done) | (exact az _) | (exact aH _) | (exact cq _) | trivial | omega | (simp (discharger := omega) only [wR]; omega) | (simp only [ax]; omega) | (simp (discharger := omega) [-List.getD_eq_getElem?_getD, wR] <;> omega) | skip
   all_goals first
    | (exfalso; omega)
    | skip
   refine ab.mk [] ?_ <;> (repeat' first | trivial | rfl | exact aV _ _ | apply aa | apply aU | apply ar | apply aK | apply ak | apply aS | apply aW | apply aX | apply aO | apply aJ)
 rw [if_neg h3] at ht
 by_cases h4 : v.kind = 4
 . rw [if_pos h4] at ht
   rw [if_neg (by omega)] at hx
   repeat (first | rw [if_pos (by omega)] at hs | rw [if_neg (by omega)] at hs)
   rw [hx, hs]
   repeat' ((conv => whnf); first | with_reducible (first | refine bg (fun j q h => ?_) fun h => ?_ | refine go2 ⟨rfl, rfl⟩ (fun h => ?_) fun j h => ?_ | refine go2 ?_ (fun h => ?_) fun j h => ?_ | refine aL ?_ (fun h => ?_) fun h => ?_) | apply ai | apply aT | apply aw | ((first | apply aj | apply bB | apply bC | apply bm | apply bc) <;> intro h) | with_reducible (first | refine aQ.mk _ rfl ?_ | refine bL ?_ ?_ | refine bM ?_ ?_ | refine bn ?_ fun hc => ?_ | refine bo ?_ fun hc => ?_ | refine aY ?_ fun hc => ?_ | refine b9 ?_ fun hc => ?_ | apply bd | apply bf | refine b6 ?_ fun b hb => ?_) | apply b7 | apply bh | apply bp | apply bq | apply br | apply goN | apply bz | with_reducible refine bA ?_)
   all_goals try conv => whnf
   all_goals try (refine a8.mk ?_; try dsimp only)
   all_goals first | refine stay ?_ | ((refine And.intro (az _) ?_; simp only [aN]; repeat' (refine And.intro ?_ ?_)); all_goals (first | assumption | omega); done) | ((refine And.intro (aH _) ?_; simp only [bU]; repeat' (refine And.intro ?_ ?_)); all_goals (first | assumption | omega); done) | (exact az _) | (exact aH _) | (exact cq _) | trivial | omega | (simp (discharger := omega) only [wR]; omega) | (simp only [ax]; omega) | (simp (discharger := omega) [-List.getD_eq_getElem?_getD, wR] <;> omega) | skip
   simp only [aN, ht]
   repeat' ((conv => whnf); first | with_reducible (first | refine bg (fun j q h => ?_) fun h => ?_ | refine go2 ⟨rfl, rfl⟩ (fun h => ?_) fun j h => ?_ | refine go2 ?_ (fun h => ?_) fun j h => ?_ | refine aL ?_ (fun h => ?_) fun h => ?_) | apply ai | apply aT | apply aw | ((first | apply aj | apply bB | apply bC | apply bm | apply bc) <;> intro h) | with_reducible (first | refine aQ.mk _ rfl ?_ | refine bL ?_ ?_ | refine bM ?_ ?_ | refine bn ?_ fun hc => ?_ | refine bo ?_ fun hc => ?_ | refine aY ?_ fun hc => ?_ | refine b9 ?_ fun hc => ?_ | apply bd | apply bf | refine b6 ?_ fun b hb => ?_) | apply b7 | apply bh | apply bp | apply bq | apply br | apply goN | apply bz | with_reducible refine bA ?_)
   all_goals try conv => whnf
   all_goals try (refine a8.mk ?_; try dsimp only)
   all_goals first | refine stay ?_ | ((refine And.intro (az _) ?_; simp only [aN]; repeat' (refine And.intro ?_ ?_)); all_goals (first | assumption | omega); done) | ((refine And.intro (aH _) ?_; simp only [bU]; repeat' (refine And.intro ?_ ?_)); all_goals (first | assumption | omega); done) | (exact az _) | (exact aH _) | (exact cq _) | trivial | omega | (simp (discharger := omega) only [wR]; omega) | (simp only [ax]; omega) | (simp (discharger := omega) [-List.getD_eq_getElem?_getD, wR] <;> omega) | skip
   all_goals first
    | (exfalso; omega)
    | skip
   refine ab.mk [] ?_ <;> (repeat' first | trivial | rfl | exact aV _ _ | apply aa | apply aU | apply ar | apply aK | apply ak | apply aS | apply aW | apply aX | apply aO | apply aJ)
 rw [if_neg h4] at ht
 by_cases h5 : v.kind = 5
 . rw [if_pos h5] at ht
   rw [if_neg (by omega)] at hx
   repeat (first | rw [if_pos (by omega)] at hs | rw [if_neg (by omega)] at hs)
   rw [hx, hs]
   repeat' ((conv => whnf); first | with_reducible (first | refine bg (fun j q h => ?_) fun h => ?_ | refine go2 ⟨rfl, rfl⟩ (fun h => ?_) fun j h => ?_ | refine go2 ?_ (fun h => ?_) fun j h => ?_ | refine aL ?_ (fun h => ?_) fun h => ?_) | apply ai | apply aT | apply aw | ((first | apply aj | apply bB | apply bC | apply bm | apply bc) <;> intro h) | with_reducible (first | refine aQ.mk _ rfl ?_ | refine bL ?_ ?_ | refine bM ?_ ?_ | refine bn ?_ fun hc => ?_ | refine bo ?_ fun hc => ?_ | refine aY ?_ fun hc => ?_ | refine b9 ?_ fun hc => ?_ | apply bd | apply bf | refine b6 ?_ fun b hb => ?_) | apply b7 | apply bh | apply bp | apply bq | apply br | apply goN | apply bz | with_reducible refine bA ?_)
   all_goals try conv => whnf
   all_goals try (refine a8.mk ?_; try dsimp only)
   all_goals first | refine stay ?_ | ((refine And.intro (az _) ?_; simp only [aN]; repeat' (refine And.intro ?_ ?_)); all_goals (first | assumption | omega); done) | ((refine And.intro (aH _) ?_; simp only [bU]; repeat' (refine And.intro ?_ ?_)); all_goals (first | assumption | omega); done) | (exact az _) | (exact aH _) | (exact cq _) | trivial | omega | (simp (discharger := omega) only [wR]; omega) | (simp only [ax]; omega) | (simp (discharger := omega) [-List.getD_eq_getElem?_getD, wR] <;> omega) | skip
   simp only [aN, ht]
   repeat' ((conv => whnf); first | with_reducible (first | refine bg (fun j q h => ?_) fun h => ?_ | refine go2 ⟨rfl, rfl⟩ (fun h => ?_) fun j h => ?_ | refine go2 ?_ (fun h => ?_) fun j h => ?_ | refine aL ?_ (fun h => ?_) fun h => ?_) | apply ai | apply aT | apply aw | ((first | apply aj | apply bB | apply bC | apply bm | apply bc) <;> intro h) | with_reducible (first | refine aQ.mk _ rfl ?_ | refine bL ?_ ?_ | refine bM ?_ ?_ | refine bn ?_ fun hc => ?_ | refine bo ?_ fun hc => ?_ | refine aY ?_ fun hc => ?_ | refine b9 ?_ fun hc => ?_ | apply bd | apply bf | refine b6 ?_ fun b hb => ?_) | apply b7 | apply bh | apply bp | apply bq | apply br | apply goN | apply bz | with_reducible refine bA ?_)
   all_goals try conv => whnf
   all_goals try (refine a8.mk ?_; try dsimp only)
   all_goals first | refine stay ?_ | ((refine And.intro (az _) ?_; simp only [aN]; repeat' (refine And.intro ?_ ?_)); all_goals (first | assumption | omega); done) | ((refine And.intro (aH _) ?_; simp only [bU]; repeat' (refine And.intro ?_ ?_)); all_goals (first | assumption | omega); done) | (exact az _) | (exact aH _) | (exact cq _) | trivial | omega | (simp (discharger := omega) only [wR]; omega) | (simp only [ax]; omega) | (simp (discharger := omega) [-List.getD_eq_getElem?_getD, wR] <;> omega) | skip
   all_goals first
    | (exfalso; omega)
    | skip
   refine ab.mk [] ?_ <;> (repeat' first | trivial | rfl | exact aV _ _ | apply aa | apply aU | apply ar | apply aK | apply ak | apply aS | apply aW | apply aX | apply aO | apply aJ)
 rw [if_neg h5] at ht
 by_cases h6 : v.kind = 6
 . rw [if_pos h6] at ht
   rw [if_pos (by omega)] at hx
   rw [hx]
   repeat' ((conv => whnf); first | with_reducible (first | refine bg (fun j q h => ?_) fun h => ?_ | refine go2 ⟨rfl, rfl⟩ (fun h => ?_) fun j h => ?_ | refine go2 ?_ (fun h => ?_) fun j h => ?_ | refine aL ?_ (fun h => ?_) fun h => ?_) | apply ai | apply aT | apply aw | ((first | apply aj | apply bB | apply bC | apply bm | apply bc) <;> intro h) | with_reducible (first | refine aQ.mk _ rfl ?_ | refine bL ?_ ?_ | refine bM ?_ ?_ | refine bn ?_ fun hc => ?_ | refine bo ?_ fun hc => ?_ | refine aY ?_ fun hc => ?_ | refine b9 ?_ fun hc => ?_ | apply bd | apply bf | refine b6 ?_ fun b hb => ?_) | apply b7 | apply bh | apply bp | apply bq | apply br | apply goN | apply bz | with_reducible refine bA ?_)
   all_goals try conv => whnf
   all_goals try (refine a8.mk ?_; try dsimp only)
   all_goals first | refine stay ?_ | ((refine And.intro (az _) ?_; simp only [aN]; repeat' (refine And.intro ?_ ?_)); all_goals (first | assumption | omega); done) | ((refine And.intro (aH _) ?_; simp only [bU]; repeat' (refine And.intro ?_ ?_)); all_goals (first | assumption | omega); done) | (exact az _) | (exact aH _) | (exact cq _) | trivial | omega | (simp (discharger := omega) only [wR]; omega) | (simp only [ax]; omega) | (simp (discharger := omega) [-List.getD_eq_getElem?_getD, wR] <;> omega) | skip
   simp only [aN, ht]
   repeat' ((conv => whnf); first | with_reducible (first | refine bg (fun j q h => ?_) fun h => ?_ | refine go2 ⟨rfl, rfl⟩ (fun h => ?_) fun j h => ?_ | refine go2 ?_ (fun h => ?_) fun j h => ?_ | refine aL ?_ (fun h => ?_) fun h => ?_) | apply ai | apply aT | apply aw | ((first | apply aj | apply bB | apply bC | apply bm | apply bc) <;> intro h) | with_reducible (first | refine aQ.mk _ rfl ?_ | refine bL ?_ ?_ | refine bM ?_ ?_ | refine bn ?_ fun hc => ?_ | refine bo ?_ fun hc => ?_ | refine aY ?_ fun hc => ?_ | refine b9 ?_ fun hc => ?_ | apply bd | apply bf | refine b6 ?_ fun b hb => ?_) | apply b7 | apply bh | apply bp | apply bq | apply br | apply goN | apply bz | with_reducible refine bA ?_)
   all_goals try conv => whnf
   all_goals try (refine a8.mk ?_; try dsimp only)
   all_goals first | refine stay ?_ | ((refine And.intro (az _) ?_; simp only [aN]; repeat' (refine And.intro ?_ ?_)); all_goals (first | assumption | omega); done) | ((refine And.intro (aH _) ?_; simp only [bU]; repeat' (refine And.intro ?_ ?_)); all_goals (first | assumption | omega); done) | (exact az _) | (exact aH _) | (exact cq _) | trivial | omega | (simp (discharger := omega) only [wR]; omega) | (simp only [ax]; omega) | (simp (discharger := omega) [-List.getD_eq_getElem?_getD, wR] <;> omega) | skip
   all_goals first
    | (exfalso; omega)
    | skip
   refine ab.mk [] ?_ <;> (repeat' first | trivial | rfl | exact aV _ _ | apply aa | apply aU | apply ar | apply aK | apply ak | apply aS | apply aW | apply aX | apply aO | apply aJ)
   rw [aN]
 rw [if_neg h6] at ht
 by_cases h7 : v.kind = 7
 . rw [if_pos h7] at ht
   rw [if_pos (by omega)] at hx
   rw [hx]
   repeat' ((conv => whnf); first | with_reducible (first | refine bg (fun j q h => ?_) fun h => ?_ | refine go2 ⟨rfl, rfl⟩ (fun h => ?_) fun j h => ?_ | refine go2 ?_ (fun h => ?_) fun j h => ?_ | refine aL ?_ (fun h => ?_) fun h => ?_) | apply ai | apply aT | apply aw | ((first | apply aj | apply bB | apply bC | apply bm | apply bc) <;> intro h) | with_reducible (first | refine aQ.mk _ rfl ?_ | refine bL ?_ ?_ | refine bM ?_ ?_ | refine bn ?_ fun hc => ?_ | refine bo ?_ fun hc => ?_ | refine aY ?_ fun hc => ?_ | refine b9 ?_ fun hc => ?_ | apply bd | apply bf | refine b6 ?_ fun b hb => ?_) | apply b7 | apply bh | apply bp | apply bq | apply br | apply goN | apply bz | with_reducible refine bA ?_)
   all_goals try conv => whnf
   all_goals try (refine a8.mk ?_; try dsimp only)
   all_goals first | refine stay ?_ | ((refine And.intro (az _) ?_; simp only [aN]; repeat' (refine And.intro ?_ ?_)); all_goals (first | assumption | omega); done) | ((refine And.intro (aH _) ?_; simp only [bU]; repeat' (refine And.intro ?_ ?_)); all_goals (first | assumption | omega); done) | (exact az _) | (exact aH _) | (exact cq _) | trivial | omega | (simp (discharger := omega) only [wR]; omega) | (simp only [ax]; omega) | (simp (discharger := omega) [-List.getD_eq_getElem?_getD, wR] <;> omega) | skip
   simp only [aN, ht]
   repeat' ((conv => whnf); first | with_reducible (first | refine bg (fun j q h => ?_) fun h => ?_ | refine go2 ⟨rfl, rfl⟩ (fun h => ?_) fun j h => ?_ | refine go2 ?_ (fun h => ?_) fun j h => ?_ | refine aL ?_ (fun h => ?_) fun h => ?_) | apply ai | apply aT | apply aw | ((first | apply aj | apply bB | apply bC | apply bm | apply bc) <;> intro h) | with_reducible (first | refine aQ.mk _ rfl ?_ | refine bL ?_ ?_ | refine bM ?_ ?_ | refine bn ?_ fun hc => ?_ | refine bo ?_ fun hc => ?_ | refine aY ?_ fun hc => ?_ | refine b9 ?_ fun hc => ?_ | apply bd | apply bf | refine b6 ?_ fun b hb => ?_) | apply b7 | apply bh | apply bp | apply bq | apply br | apply goN | apply bz | with_reducible refine bA ?_)
   all_goals try conv => whnf
   all_goals try (refine a8.mk ?_; try dsimp only)
   all_goals first | refine stay ?_ | ((refine And.intro (az _) ?_; simp only [aN]; repeat' (refine And.intro ?_ ?_)); all_goals (first | assumption | omega); done) | ((refine And.intro (aH _) ?_; simp only [bU]; repeat' (refine And.intro ?_ ?_)); all_goals (first | assumption | omega); done) | (exact az _) | (exact aH _) | (exact cq _) | trivial | omega | (simp (discharger := omega) only [wR]; omega) | (simp only [ax]; omega) | (simp (discharger := omega) [-List.getD_eq_getElem?_getD, wR] <;> omega) | skip
   all_goals first
    | (exfalso; omega)
    | skip
   refine ab.mk [] ?_ <;> (repeat' first | trivial | rfl | exact aV _ _ | apply aa | apply aU | apply ar | apply aK | apply ak | apply aS | apply aW | apply aX | apply aO | apply aJ)
   rw [aN]
 rw [if_neg h7] at ht
 rw [if_neg (by omega)] at hx
 repeat (first | rw [if_pos (by omega)] at hs | rw [if_neg (by omega)] at hs)
 rw [hx, hs]
 repeat' ((conv => whnf); first | with_reducible (first | refine bg (fun j q h => ?_) fun h => ?_ | refine go2 ⟨rfl, rfl⟩ (fun h => ?_) fun j h => ?_ | refine go2 ?_ (fun h => ?_) fun j h => ?_ | refine aL ?_ (fun h => ?_) fun h => ?_) | apply ai | apply aT | apply aw | ((first | apply aj | apply bB | apply bC | apply bm | apply bc) <;> intro h) | with_reducible (first | refine aQ.mk _ rfl ?_ | refine bL ?_ ?_ | refine bM ?_ ?_ | refine bn ?_ fun hc => ?_ | refine bo ?_ fun hc => ?_ | refine aY ?_ fun hc => ?_ | refine b9 ?_ fun hc => ?_ | apply bd | apply bf | refine b6 ?_ fun b hb => ?_) | apply b7 | apply bh | apply bp | apply bq | apply br | apply goN | apply bz | with_reducible refine bA ?_)
 all_goals try conv => whnf
 all_goals try (refine a8.mk ?_; try dsimp only)
 all_goals first | refine stay ?_ | ((refine And.intro (az _) ?_; simp only [aN]; repeat' (refine And.intro ?_ ?_)); all_goals (first | assumption | omega); done) | ((refine And.intro (aH _) ?_; simp only [bU]; repeat' (refine And.intro ?_ ?_)); all_goals (first | assumption | omega); done) | (exact az _) | (exact aH _) | (exact cq _) | trivial | omega | (simp (discharger := omega) only [wR]; omega) | (simp only [ax]; omega) | (simp (discharger := omega) [-List.getD_eq_getElem?_getD, wR] <;> omega) | skip
 simp only [aN, ht]
 repeat' ((conv => whnf); first | with_reducible (first | refine bg (fun j q h => ?_) fun h => ?_ | refine go2 ⟨rfl, rfl⟩ (fun h => ?_) fun j h => ?_ | refine go2 ?_ (fun h => ?_) fun j h => ?_ | refine aL ?_ (fun h => ?_) fun h => ?_) | apply ai | apply aT | apply aw | ((first | apply aj | apply bB | apply bC | apply bm | apply bc) <;> intro h) | with_reducible (first | refine aQ.mk _ rfl ?_ | refine bL ?_ ?_ | refine bM ?_ ?_ | refine bn ?_ fun hc => ?_ | refine bo ?_ fun hc => ?_ | refine aY ?_ fun hc => ?_ | refine b9 ?_ fun hc => ?_ | apply bd | apply bf | refine b6 ?_ fun b hb => ?_) | apply b7 | apply bh | apply bp | apply bq | apply br | apply goN | apply bz | with_reducible refine bA ?_)
 all_goals try conv => whnf
 all_goals try (refine a8.mk ?_; try dsimp only)
 all_goals first | refine stay ?_ | ((refine And.intro (az _) ?_; simp only [aN]; repeat' (refine And.intro ?_ ?_)); all_goals (first | assumption | omega); done) | ((refine And.intro (aH _) ?_; simp only [bU]; repeat' (refine And.intro ?_ ?_)); all_goals (first | assumption | omega); done) | (exact az _) | (exact aH _) | (exact cq _) | trivial | omega | (simp (discharger := omega) only [wR]; omega) | (simp only [ax]; omega) | (simp (discharger := omega) [-List.getD_eq_getElem?_getD, wR] <;> omega) | skip
 all_goals first
  | (exfalso; omega)
  | skip
 refine ab.mk [] ?_ <;> (repeat' first | trivial | rfl | exact aV _ _ | apply aa | apply aU | apply ar | apply aK | apply ak | apply aS | apply aW | apply aX | apply aO | apply aJ)
def sS : Sm := fun args σ => match args, σ with
 | [x], [] => some (fM x ∧ (bW x).ok ∧ (bW x).size ≤ 300000, .str (text (bW x)), none)
 | _, _ => none
theorem zI : aE 15 sS := by
 intro args sg pre x r he hp
 unfold sS at he
 split at he <;> cases he
 exact (Ep _ hp.2.1 hp.2.2).args (aM.cons hp.1 aM.nil)
theorem En (v : ah) (h1 : v.ok) (h2 : v.size ≤ 300000) : OK 16 [ev v] [] (ev (.mk 1 (text v) 0 0 [] [])) none := by
 refine dv.res (x := .agg [.int .u8 1, .str (text v), .int .i64 0, .int .u64 0, .list true 0 [], .list true 0 []]) ?_ (Wk.agg (aM.cons (Wk.refl _) (aM.cons (Wk.refl _) (aM.cons (Wk.refl _) (aM.cons (Wk.refl _) (aM.cons (Wk.nil (.inl rfl)) (aM.cons (Wk.nil (.inl rfl)) aM.nil)))))))
 refine aI (C := cx [(15, sS)]) (aG ⟨zI, trivial⟩) (fn := Tryd.f16) rfl rfl rfl rfl fun _ _ => ?_
 repeat' ((conv => whnf); first | with_reducible (first | refine bg (fun j q h => ?_) fun h => ?_ | refine go2 ⟨rfl, rfl⟩ (fun h => ?_) fun j h => ?_ | refine go2 ?_ (fun h => ?_) fun j h => ?_ | refine aL ?_ (fun h => ?_) fun h => ?_) | apply ai | apply aT | apply aw | ((first | apply aj | apply bB | apply bC | apply bm | apply bc) <;> intro h) | with_reducible (first | refine aQ.mk _ rfl ?_ | refine bL ?_ ?_ | refine bM ?_ ?_ | refine bn ?_ fun hc => ?_ | refine bo ?_ fun hc => ?_ | refine aY ?_ fun hc => ?_ | refine b9 ?_ fun hc => ?_ | apply bd | apply bf | refine b6 ?_ fun b hb => ?_) | apply b7 | apply bh | apply bp | apply bq | apply br | apply goN | apply bz | with_reducible refine bA ?_)
 all_goals try conv => whnf
 all_goals try (refine a8.mk ?_; try dsimp only)
 all_goals first | refine stay ?_ | ((refine And.intro (az _) ?_; simp only [aN]; repeat' (refine And.intro ?_ ?_)); all_goals (first | assumption | omega); done) | ((refine And.intro (aH _) ?_; simp only [bU]; repeat' (refine And.intro ?_ ?_)); all_goals (first | assumption | omega); done) | (exact az _) | (exact aH _) | (exact cq _) | trivial | omega | (simp (discharger := omega) only [wR]; omega) | (simp only [ax]; omega) | (simp (discharger := omega) [-List.getD_eq_getElem?_getD, wR] <;> omega) | skip
 refine ab.mk [] ?_ <;> (repeat' first | trivial | rfl | exact aV _ _ | apply aa | apply aU | apply ar | apply aK | apply ak | apply aS | apply aW | apply aX | apply aO | apply aJ)
 rw [aN]
def vV : Sm := fun args σ => match args, σ with
 | [x], [] => some (fM x ∧ (bW x).ok ∧ (bW x).size ≤ 300000, ev (.mk 1 (text (bW x)) 0 0 [] []), none)
 | _, _ => none
theorem Gi : aE 16 vV := by
 intro args sg pre x r he hp
 unfold vV at he
 split at he <;> cases he
 exact (En _ hp.2.1 hp.2.2).args (aM.cons hp.1 aM.nil)
end Go.Proofs.YtllncocibkgjkaaDoor
