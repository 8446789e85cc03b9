/-
  A part of the proof.
-/
import Derived.Test.YtipejldppicijaaGreatDoorGL
set_option linter.unusedSimpArgs false
set_option linter.unusedVariables false
set_option maxHeartbeats 4000000
namespace Go.Proofs.YtipejldppicijaaGreatDoor
open Go Go.VG
set_option maxRecDepth 100000
theorem Cx (s : List UInt8) (id deep : Int) : OK 3 [.str s, .int .i64 id, .int .i64 deep] [] (.bool true) none := by
 refine ah (C := cx [(6, tS), (7, qw), (8, qI), (9, tw), (10, qk), (11, qq), (12, tO), (13, ub), (14, ot), (15, oA), (16, tB)])
  (ai ⟨EG, xg, xw, El, wZ, xc, EC, F1, sl, sq, Em, trivial⟩) (fn := Tryz.f3) rfl rfl rfl rfl fun hw _ => ?_
 have hraw : s.length ≤ 400 → ∀ f ∈ (aW deep s).2.2, f.raw.length ≤ 1000000000 := fun h f hf => by have := yJ deep s f hf; omega
 have hsame := (tk (fv (lL (cC deep s).1)) _).2 rfl
 have hsamem := (qf (gY (iL (dV (aW deep s).2.2 id deep).1)) _).2 rfl
 have hb := fun h => (ug (l := (aW deep s).2.2) (id := id) (d := deep) h).1
 have hv := Ej (cC deep s).1
 have hm := Ei (dV (aW deep s).2.2 id deep).1 false
 repeat' ((conv => whnf); first | apply ab | apply ax | ((first | apply ae | apply kM | apply aV) <;> intro h))
 all_goals try conv => whnf
 all_goals try (refine a7.mk ?_; try dsimp only)
 all_goals (try simp only [bn, decSl, List.length_map] at *)
 all_goals first
  | exact ⟨by omega, by omega⟩
  | exact ⟨hv, hv⟩
  | exact ⟨hm, hm⟩
  | exact ⟨trivial, ⟨by omega, hraw (by omega)⟩, by omega⟩
  | exact ⟨trivial, by omega, hraw (by omega)⟩
  | contradiction
  | (exfalso; exact absurd hsame (by assumption))
  | (exfalso; exact absurd hsamem (by assumption))
  | (exfalso; exact absurd rfl (by assumption))
  | (exfalso; exact absurd trivial (by assumption))
  | (exfalso; omega)
  | (show a6 _ _ _ _ _ _
     refine a6.mk [] ?_ <;> (repeat' first | trivial | apply ak | apply cQ)
     done)
  | skip
 . generalize (strs (aW deep s).2.2 id deep).1 = L at *
   refine c5.mk Nat (fun i => i ≤ L.length) (fun i => ⟨147, [(6, .bool false), (21, .list false 1 (L.map V.str)), (23, .list false 1 (L.map V.str)), (25, .int .i64 i)], [], []⟩) (fun i => L.length - i) [] 0 (Nat.zero_le _) ?_ (fun i hi _ _ => ?_)
   . refine Go.VG.Sub.mk rfl ?_ ?_ ?_ ?_ <;> (repeat' first | trivial)
   have hLb := hb (hraw (by omega))
   repeat' ((conv => whnf); first | apply ab | apply ax | ((first | apply ae | apply kM) <;> intro h) | with_reducible apply m5)
   all_goals try conv => whnf
   all_goals try (refine a7.mk ?_; try dsimp only)
   all_goals (try simp only [List.length_map] at *)
   all_goals first | refine stay ?_ | omega | skip
   all_goals first
    | contradiction
    | (show a6 _ _ _ _ _ _
       refine a6.mk [] ?_ <;> (repeat' first | trivial)
       done)
    | skip
   refine ⟨[], i + 1, by omega, ?_, by omega⟩
   refine Go.VG.Sub.mk rfl ?_ ?_ ?_ ?_ <;> (repeat' first | trivial | apply ak | apply az)
   (simp (discharger := omega) only [wR]; omega)
 all_goals first
  | exact absurd (hsamem.symm.trans (by assumption)) (by decide)
  | exact absurd (hsame.symm.trans (by assumption)) (by decide)
end Go.Proofs.YtipejldppicijaaGreatDoor
