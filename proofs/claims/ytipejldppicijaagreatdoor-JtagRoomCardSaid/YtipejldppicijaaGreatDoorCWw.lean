/-
  A part of the proof.
-/
import Derived.Test.YtipejldppicijaaGreatDoorCWr
set_option linter.unusedSimpArgs false
set_option linter.unusedVariables false
set_option maxHeartbeats 4000000
namespace Go.Proofs.YtipejldppicijaaGreatDoor
open Go Go.VG
set_option maxRecDepth 100000
theorem Ed {w : CS} {c : Int} (h : ¬ c = 0) : ¬ (w.fail c).code = 0 := by unfold CS.fail; split <;> simp_all
theorem Ek (n : Int) : IntKind.u8.wrap (ib n 8) = ((byte (ib n 8)).toNat : Int) := by
 have h : 0 ≤ ib n 8 ∧ ib n 8 ≤ 255 := by
  unfold ib
  split
  . rw [show dN 8 = 256 from rfl]; omega
  . omega
 rw [dc h, iE]; omega
theorem CG (w : CS) (id k n : Int) (hp : w.out.length ≤ 1800000000 ∧ w.l.length ≤ 800) : OK 59 ([.ptr 0 0, .int .i64 id, .int .u8 k, .int .i64 n]) (aM w) (.tuple []) (some (aM (w.whole id k n))) := by
  refine ai (C := cx [(117, rD), (98, ku), (99, kr), (100, jc), (118, rG), (116, np)]) (aj ⟨y3, mP, mN, ll, y6, qF, trivial⟩) (fn := Tryz.f59) rfl rfl rfl rfl fun hw hs => ?_
  have e1 : (w.l.map eP).length = w.l.length := by simp
  have m1 := fZ w id k
  have hz := nA (n := n) hw.2.2.2.1
  have hv := fh hz
  have hk : 0 ≤ k ∧ k ≤ 255 := hw.2.2.1
  have f1 : (if (1 : Int) > 8 then (1 : Int) else 8) = 8 := rfl
  have f2 : (if (1 : Int) > 16 then (1 : Int) else 16) = 16 := rfl
  have f3 : (if (1 : Int) > 32 then (1 : Int) else 32) = 32 := rfl
  have f4 : (if (1 : Int) > 64 then (1 : Int) else 64) = 64 := rfl
  have hfl := Eg w
  repeat' ((conv => whnf); first | apply a9 | apply aQ | ((first | apply ao | apply bE) <;> intro h))
  all_goals try conv => whnf
  all_goals try (refine a8.mk ?_; try dsimp only)
  all_goals (try simp only [f1, f2, f3, f4, iu (show ¬ (7 : Int) = 0 by decide)] at *)
  all_goals first | refine stay ?_ | trivial | skip
  all_goals (try simp only [bu, bC, cond_true, Int.toNat_natCast, List.length_append, List.length_map, List.length_singleton] at *)
  all_goals first
   | (show a7 _ _ _ _ _ _
      skip)
   | exact ⟨aP (by omega) (by omega), trivial⟩
   | exact ⟨trivial, aP (by omega) (by omega), by omega, by omega⟩
   | exact ⟨aP (by omega) (by omega), by omega, by omega⟩
   | exact ⟨aP (by omega) (by omega), by omega⟩
   | omega
   | exact ⟨by omega, by omega⟩
   | exact (eU (by assumption)).2.1 (by assumption)
   | (have := (eU (by assumption)).2.1; omega)
   | skip
  all_goals (try (exfalso; first
   | omega
   | exact absurd (eU (by assumption)).2.2 (by assumption)
   | exact absurd (by assumption) (Ed (w := w) (c := 7) (by decide))
   | exact absurd (show ((w.fail (bJ n 8)).may id k).2 = true by assumption) (by rw [iu (c := bJ n 8) (by assumption)]; exact Bool.false_ne_true)
   | exact absurd (show ((w.fail (bJ n 16)).may id k).2 = true by assumption) (by rw [iu (c := bJ n 16) (by assumption)]; exact Bool.false_ne_true)
   | exact absurd (show ((w.fail (bJ n 32)).may id k).2 = true by assumption) (by rw [iu (c := bJ n 32) (by assumption)]; exact Bool.false_ne_true)
   | exact absurd (show ((w.fail (bJ n 64)).may id k).2 = true by assumption) (by rw [iu (c := bJ n 64) (by assumption)]; exact Bool.false_ne_true)))
  all_goals clear f1 f2 f3 f4
  all_goals (try (rw [(hfl _).1, (hfl _).2]; exact ⟨aP (by omega) (by omega), by omega, by omega⟩))
  all_goals (try (exact ⟨⟨by omega, by omega⟩, by omega⟩))
  all_goals (try (rw [(hfl _).1, (hfl _).2]; exact ⟨aP (by omega) (by omega), trivial⟩))
  all_goals
   show a7 _ _ _ _ _ _
   have he : w.whole id k n = w.whole id k n := rfl
   conv at he => rhs; unfold CS.whole
   first
   | (rw [if_pos (show w.code ≠ 0 by assumption)] at he
      rw [he]
      rw [Gt (w := w) (by assumption)])
   | (rw [if_neg (show ¬ w.code ≠ 0 by omega), AN (by assumption) (by assumption) (by assumption) (by assumption), if_pos rfl] at he
      rw [he, iu (c := 7) (by decide), iS (by assumption)])
   | (rw [if_neg (show ¬ w.code ≠ 0 by omega), show gL k = 8 by (rw [show k = 3 by assumption]; rfl), if_neg (by decide)] at he
      first
       | (rw [if_neg (show ¬ bJ n 8 ≠ 0 by omega)] at he
          rw [he]
          unfold CS.put
          first | rw [if_pos (by assumption)] | rw [if_neg (gw (by assumption))]
          first | rw [if_pos (show k = 3 by assumption)] | rw [if_neg (show ¬ k = 3 by assumption)] | skip)
       | (rw [if_pos (show bJ n 8 ≠ 0 by assumption)] at he
          rw [he, iu (c := bJ n 8) (by assumption), iS (by assumption)]))
   | (rw [if_neg (show ¬ w.code ≠ 0 by omega), show gL k = 16 by (rw [show k = 4 by assumption]; rfl), if_neg (by decide)] at he
      first
       | (rw [if_neg (show ¬ bJ n 16 ≠ 0 by omega)] at he
          rw [he]
          unfold CS.put
          first | rw [if_pos (by assumption)] | rw [if_neg (gw (by assumption))]
          first | rw [if_pos (show k = 3 by assumption)] | rw [if_neg (show ¬ k = 3 by assumption)] | skip)
       | (rw [if_pos (show bJ n 16 ≠ 0 by assumption)] at he
          rw [he, iu (c := bJ n 16) (by assumption), iS (by assumption)]))
   | (rw [if_neg (show ¬ w.code ≠ 0 by omega), show gL k = 32 by (rw [show k = 5 by assumption]; rfl), if_neg (by decide)] at he
      first
       | (rw [if_neg (show ¬ bJ n 32 ≠ 0 by omega)] at he
          rw [he]
          unfold CS.put
          first | rw [if_pos (by assumption)] | rw [if_neg (gw (by assumption))]
          first | rw [if_pos (show k = 3 by assumption)] | rw [if_neg (show ¬ k = 3 by assumption)] | skip)
       | (rw [if_pos (show bJ n 32 ≠ 0 by assumption)] at he
          rw [he, iu (c := bJ n 32) (by assumption), iS (by assumption)]))
   | (rw [if_neg (show ¬ w.code ≠ 0 by omega), show gL k = 64 by (rw [show k = 6 by assumption]; rfl), if_neg (by decide)] at he
      first
       | (rw [if_neg (show ¬ bJ n 64 ≠ 0 by omega)] at he
          rw [he]
          unfold CS.put
          first | rw [if_pos (by assumption)] | rw [if_neg (gw (by assumption))]
          first | rw [if_pos (show k = 3 by assumption)] | rw [if_neg (show ¬ k = 3 by assumption)] | skip)
       | (rw [if_pos (show bJ n 64 ≠ 0 by assumption)] at he
          rw [he, iu (c := bJ n 64) (by assumption), iS (by assumption)]))
   first
   | (refine a7.mk [] ?_ <;> (repeat' first | trivial | rfl | exact cZ _ _ | apply ah | apply b9 | apply ax | apply ct | apply aG | apply cf | apply cY | apply de | apply cg | apply aX)
      all_goals (first | rfl | (simp [cq, bl, bv, Ek]; done)))
   | (refine a7.mk [.swap 1 3] ?_ <;> (repeat' first | trivial | rfl | exact cZ _ _ | apply ah | apply b9 | apply ax | apply ct | apply aG | apply cf | apply cY | apply de | apply cg | apply aX)
      all_goals (first | rfl | (simp [cq]; done)))
def ky : Sm := fun args σ => match args, σ with
 | [.ptr 0 0, .int .i64 id, .int .u8 k, .int .i64 n], [.cells [.buf 1, .buf 2, .int .i64 c_w], .buf 1 0 o_w, .buf 4 0 l_w] => some (d7 o_w l_w ∧ ((aU o_w l_w c_w).out.length ≤ 1800000000 ∧ (aU o_w l_w c_w).l.length ≤ 800), .tuple [], some (aM ((aU o_w l_w c_w).whole id k n)))
 | _, _ => none
theorem mR : aa 59 ky := by
 intro args sg pre x r he hp
 unfold ky at he
 split at he <;> cases he
 . rw [ee (hp).1]; exact CG (hp := hp.2) ..
end Go.Proofs.YtipejldppicijaaGreatDoor
