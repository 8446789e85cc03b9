/-
  A part of the proof.
-/
import Derived.Test.YtipejldppicijaaGreatDoorCWr
set_option linter.unusedSimpArgs false
set_option linter.unusedVariables false
set_option maxHeartbeats 4000000
namespace Go.Proofs.YtipejldppicijaaGreatDoor
open Go Go.VG
set_option maxRecDepth 100000
theorem DQ {w : CS} {c : Int} (h : ¬ c = 0) : ¬ (w.fail c).code = 0 := by unfold CS.fail; split <;> simp_all
theorem DU (n : Int) : IntKind.u8.wrap (dU n 8) = ((byte (dU n 8)).toNat : Int) := by
 have h : 0 ≤ dU n 8 ∧ dU n 8 ≤ 255 := by
  unfold dU
  split
  . rw [show bN 8 = 256 from rfl]; omega
  . omega
 rw [cq h, je]; omega
theorem C9 (w : CS) (id k n : Int) (hp : w.out.length ≤ 1800000000 ∧ w.l.length ≤ 800) : OK 59 ([.ptr 0 0, .int .i64 id, .int .u8 k, .int .i64 n]) (b6 w) (.tuple []) (some (b6 (w.whole id k n))) := by
  refine ah (C := cx [(117, qL), (98, ka), (99, k9), (100, lh), (118, qN), (116, mK)]) (ai ⟨xB, ma, m8, nC, xD, pM, trivial⟩) (fn := Tryz.f59) rfl rfl rfl rfl fun hw hs => ?_
  have e1 : (w.l.map eP).length = w.l.length := by simp
  have m1 := gm w id k
  have hz := re (n := n) hw.2.2.2.1
  have hv := iy hz
  have hk : 0 ≤ k ∧ k ≤ 255 := hw.2.2.1
  have f1 : (if (1 : Int) > 8 then (1 : Int) else 8) = 8 := rfl
  have f2 : (if (1 : Int) > 16 then (1 : Int) else 16) = 16 := rfl
  have f3 : (if (1 : Int) > 32 then (1 : Int) else 32) = 32 := rfl
  have f4 : (if (1 : Int) > 64 then (1 : Int) else 64) = 64 := rfl
  have hfl := DS w
  repeat' ((conv => whnf); first | apply ab | apply ax | ((first | apply ae | apply aV) <;> intro h))
  all_goals try conv => whnf
  all_goals try (refine a7.mk ?_; try dsimp only)
  all_goals (try simp only [f1, f2, f3, f4, ia (show ¬ (7 : Int) = 0 by decide)] at *)
  all_goals first | refine stay ?_ | trivial | skip
  all_goals (try simp only [ep, dL, cond_true, Int.toNat_natCast, List.length_append, List.length_map, List.length_singleton] at *)
  all_goals first
   | (show a6 _ _ _ _ _ _
      skip)
   | exact ⟨bU (by omega) (by omega), trivial⟩
   | exact ⟨trivial, bU (by omega) (by omega), by omega, by omega⟩
   | exact ⟨bU (by omega) (by omega), by omega, by omega⟩
   | exact ⟨bU (by omega) (by omega), by omega⟩
   | omega
   | exact ⟨by omega, by omega⟩
   | exact (fY (by assumption)).2.1 (by assumption)
   | (have := (fY (by assumption)).2.1; omega)
   | skip
  all_goals (try (exfalso; first
   | omega
   | exact absurd (fY (by assumption)).2.2 (by assumption)
   | exact absurd (by assumption) (DQ (w := w) (c := 7) (by decide))
   | exact absurd (show ((w.fail (b7 n 8)).may id k).2 = true by assumption) (by rw [ia (c := b7 n 8) (by assumption)]; exact Bool.false_ne_true)
   | exact absurd (show ((w.fail (b7 n 16)).may id k).2 = true by assumption) (by rw [ia (c := b7 n 16) (by assumption)]; exact Bool.false_ne_true)
   | exact absurd (show ((w.fail (b7 n 32)).may id k).2 = true by assumption) (by rw [ia (c := b7 n 32) (by assumption)]; exact Bool.false_ne_true)
   | exact absurd (show ((w.fail (b7 n 64)).may id k).2 = true by assumption) (by rw [ia (c := b7 n 64) (by assumption)]; exact Bool.false_ne_true)))
  all_goals clear f1 f2 f3 f4
  all_goals (try (rw [(hfl _).1, (hfl _).2]; exact ⟨bU (by omega) (by omega), by omega, by omega⟩))
  all_goals (try (exact ⟨⟨by omega, by omega⟩, by omega⟩))
  all_goals (try (rw [(hfl _).1, (hfl _).2]; exact ⟨bU (by omega) (by omega), trivial⟩))
  all_goals
   show a6 _ _ _ _ _ _
   have he : w.whole id k n = w.whole id k n := rfl
   conv at he => rhs; unfold CS.whole
   first
   | (rw [if_pos (show w.code ≠ 0 by assumption)] at he
      rw [he]
      rw [FP (w := w) (by assumption)])
   | (rw [if_neg (show ¬ w.code ≠ 0 by omega), Aj (by assumption) (by assumption) (by assumption) (by assumption), if_pos rfl] at he
      rw [he, ia (c := 7) (by decide), iR (by assumption)])
   | (rw [if_neg (show ¬ w.code ≠ 0 by omega), show iI k = 8 by (rw [show k = 3 by assumption]; rfl), if_neg (by decide)] at he
      first
       | (rw [if_neg (show ¬ b7 n 8 ≠ 0 by omega)] at he
          rw [he]
          unfold CS.put
          first | rw [if_pos (by assumption)] | rw [if_neg (gM (by assumption))]
          first | rw [if_pos (show k = 3 by assumption)] | rw [if_neg (show ¬ k = 3 by assumption)] | skip)
       | (rw [if_pos (show b7 n 8 ≠ 0 by assumption)] at he
          rw [he, ia (c := b7 n 8) (by assumption), iR (by assumption)]))
   | (rw [if_neg (show ¬ w.code ≠ 0 by omega), show iI k = 16 by (rw [show k = 4 by assumption]; rfl), if_neg (by decide)] at he
      first
       | (rw [if_neg (show ¬ b7 n 16 ≠ 0 by omega)] at he
          rw [he]
          unfold CS.put
          first | rw [if_pos (by assumption)] | rw [if_neg (gM (by assumption))]
          first | rw [if_pos (show k = 3 by assumption)] | rw [if_neg (show ¬ k = 3 by assumption)] | skip)
       | (rw [if_pos (show b7 n 16 ≠ 0 by assumption)] at he
          rw [he, ia (c := b7 n 16) (by assumption), iR (by assumption)]))
   | (rw [if_neg (show ¬ w.code ≠ 0 by omega), show iI k = 32 by (rw [show k = 5 by assumption]; rfl), if_neg (by decide)] at he
      first
       | (rw [if_neg (show ¬ b7 n 32 ≠ 0 by omega)] at he
          rw [he]
          unfold CS.put
          first | rw [if_pos (by assumption)] | rw [if_neg (gM (by assumption))]
          first | rw [if_pos (show k = 3 by assumption)] | rw [if_neg (show ¬ k = 3 by assumption)] | skip)
       | (rw [if_pos (show b7 n 32 ≠ 0 by assumption)] at he
          rw [he, ia (c := b7 n 32) (by assumption), iR (by assumption)]))
   | (rw [if_neg (show ¬ w.code ≠ 0 by omega), show iI k = 64 by (rw [show k = 6 by assumption]; rfl), if_neg (by decide)] at he
      first
       | (rw [if_neg (show ¬ b7 n 64 ≠ 0 by omega)] at he
          rw [he]
          unfold CS.put
          first | rw [if_pos (by assumption)] | rw [if_neg (gM (by assumption))]
          first | rw [if_pos (show k = 3 by assumption)] | rw [if_neg (show ¬ k = 3 by assumption)] | skip)
       | (rw [if_pos (show b7 n 64 ≠ 0 by assumption)] at he
          rw [he, ia (c := b7 n 64) (by assumption), iR (by assumption)]))
   first
   | (refine a6.mk [] ?_ <;> (repeat' first | trivial | rfl | exact fw _ _ | apply ak | apply dp | apply az | apply cQ | apply bI | apply dz | apply er | apply dq | apply bT | apply bo)
      all_goals (first | rfl | (simp [fq, bl, bv, DU]; done)))
   | (refine a6.mk [.swap 1 3] ?_ <;> (repeat' first | trivial | rfl | exact fw _ _ | apply ak | apply dp | apply az | apply cQ | apply bI | apply dz | apply er | apply dq | apply bT | apply bo)
      all_goals (first | rfl | (simp [fq]; done)))
def tM : Sm := fun args σ => match args, σ with
 | [.ptr 0 0, .int .i64 id, .int .u8 k, .int .i64 n], [.cells [.buf 1, .buf 2, .int .i64 c_w], .buf 1 0 o_w, .buf 4 0 l_w] => some (du o_w l_w ∧ ((aX o_w l_w c_w).out.length ≤ 1800000000 ∧ (aX o_w l_w c_w).l.length ≤ 800), .tuple [], some (b6 ((aX o_w l_w c_w).whole id k n)))
 | _, _ => none
theorem EA : a9 59 tM := by
 intro args sg pre x r he hp
 unfold tM at he
 split at he <;> cases he
 . rw [fh (hp).1]; exact C9 (hp := hp.2) ..
end Go.Proofs.YtipejldppicijaaGreatDoor
