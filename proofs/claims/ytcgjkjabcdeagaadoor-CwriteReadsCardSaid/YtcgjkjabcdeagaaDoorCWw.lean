/-
  A writer of structs: whole numbers.
-/
import Derived.Test.YtcgjkjabcdeagaaDoorCWr
set_option linter.unusedSimpArgs false
set_option linter.unusedVariables false
set_option maxHeartbeats 4000000
namespace Go.Proofs.YtcgjkjabcdeagaaDoor
open Go Go.VG
set_option maxRecDepth 100000
theorem fail_code {w : CS} {c : Int} (h : ¬ c = 0) : ¬ (w.fail c).code = 0 := by unfold CS.fail; split <;> simp_all
theorem bitsK_3 : bitsK 3 = 8 := rfl
theorem bitsK_4 : bitsK 4 = 16 := rfl
theorem bitsK_5 : bitsK 5 = 32 := rfl
theorem bitsK_6 : bitsK 6 = 64 := rfl
theorem fit_b8 (n : Int) : IntKind.u8.wrap (fitU n 8) = ((byte (fitU n 8)).toNat : Int) := by
  have h : 0 ≤ fitU n 8 ∧ fitU n 8 ≤ 255 := by
    unfold fitU
    split
    · rw [show pow2 8 = 256 from rfl]; omega
    · omega
  rw [byte_toNat h, wu8]; omega
theorem f_cwWhole_1 (w : CS) (id k n : Int) (hp : w.out.length ≤ 1800000000 ∧ w.l.length ≤ 800) : OK 14 ([.ptr 0 0, .int .i64 id, .int .u8 k, .int .i64 n]) (eCw w) (.tuple []) (some (eCw (w.whole id k n))) := by
  refine funOK_of_vc (C := cx [(38, sm_wFit), (34, sm_cwReady), (35, sm_cwFail), (36, sm_cwMay), (40, sm_wZig), (39, sm_vPut)]) (good ⟨k_wFit, k_cwReady, k_cwFail, k_cwMay, k_wZig, k_vPut, trivial⟩) (fn := Tryd.f14) rfl rfl rfl rfl fun hw hs => ?_
  have e1 : (w.l.map eP).length = w.l.length := by simp
  have m1 := may_len w id k
  have hz := zigN_lt (n := n) hw.2.2.2.1
  have hv := vput_len hz
  have hk : 0 ≤ k ∧ k ≤ 255 := hw.2.2.1
  have f1 : (if (1 : Int) > 8 then (1 : Int) else 8) = 8 := rfl
  have f2 : (if (1 : Int) > 16 then (1 : Int) else 16) = 16 := rfl
  have f3 : (if (1 : Int) > 32 then (1 : Int) else 32) = 32 := rfl
  have f4 : (if (1 : Int) > 64 then (1 : Int) else 64) = 64 := rfl
  have hfl := fail_len w
  repeat' ((conv => whnf); first | with_reducible (first | refine go1 (fun j q h => ?_) fun h => ?_ | refine go2 ⟨rfl, rfl⟩ (fun h => ?_) fun j h => ?_ | refine go2 ?_ (fun h => ?_) fun j h => ?_ | refine goQ ?_ (fun h => ?_) fun h => ?_) | apply go3 | apply go4 | apply go5 | ((first | apply go6 | apply go7 | apply go8 | apply go9 | apply goA) <;> intro h) | with_reducible (first | refine IdxK.mk _ rfl ?_ | refine call_ite (fun h => ?_) fun h => ?_ | refine idx_topC ?_ ?_ | refine goB ?_ fun hc => ?_ | refine goC ?_ fun hc => ?_ | refine goD ?_ fun hc => ?_ | refine goE ?_ fun hc => ?_ | apply goF | apply goG | refine goH ?_ fun b hb => ?_) | apply goI | apply goJ | apply goK | apply goL | apply goM | apply goN | apply goO | with_reducible refine goP ?_)
  all_goals try conv => whnf
  all_goals try (refine Side.mk ?_; try dsimp only)
  all_goals (try simp only [f1, f2, f3, f4, may_fail (show ¬ (7 : Int) = 0 by decide)] at *)
  all_goals first | refine stay ?_ | trivial | omega | (simp (discharger := omega) only [wR]; omega) | (simp only [lnS]; omega) | (simp (discharger := omega) [-List.getD_eq_getElem?_getD, wR] <;> omega) | skip
  all_goals (try simp only [deC_e, bl_length, cond_true, Int.toNat_natCast, List.length_append, List.length_map, List.length_singleton] at *)
  all_goals first
    | (show EndP _ _ _ _ _ _
       skip)
    | exact ⟨okC_e (by omega) (by omega), trivial⟩
    | exact ⟨trivial, okC_e (by omega) (by omega), by omega, by omega⟩
    | exact ⟨okC_e (by omega) (by omega), by omega, by omega⟩
    | exact ⟨okC_e (by omega) (by omega), by omega⟩
    | omega
    | exact ⟨by omega, by omega⟩
    | exact (may_pos (by assumption)).2.1 (by assumption)
    | (have := (may_pos (by assumption)).2.1; omega)
    | skip
  all_goals (try (exfalso; first
    | omega
    | exact absurd (may_pos (by assumption)).2.2 (by assumption)
    | exact absurd (by assumption) (fail_code (w := w) (c := 7) (by decide))
    | exact absurd (show ((w.fail (fitC n 8)).may id k).2 = true by assumption) (by rw [may_fail (c := fitC n 8) (by assumption)]; exact Bool.false_ne_true)
    | exact absurd (show ((w.fail (fitC n 16)).may id k).2 = true by assumption) (by rw [may_fail (c := fitC n 16) (by assumption)]; exact Bool.false_ne_true)
    | exact absurd (show ((w.fail (fitC n 32)).may id k).2 = true by assumption) (by rw [may_fail (c := fitC n 32) (by assumption)]; exact Bool.false_ne_true)
    | exact absurd (show ((w.fail (fitC n 64)).may id k).2 = true by assumption) (by rw [may_fail (c := fitC n 64) (by assumption)]; exact Bool.false_ne_true)))
  all_goals clear f1 f2 f3 f4
  all_goals (try (rw [(hfl _).1, (hfl _).2]; exact ⟨okC_e (by omega) (by omega), by omega, by omega⟩))
  all_goals (try (exact ⟨⟨by omega, by omega⟩, by omega⟩))
  all_goals (try (rw [(hfl _).1, (hfl _).2]; exact ⟨okC_e (by omega) (by omega), trivial⟩))
  all_goals
    show EndP _ _ _ _ _ _
    have he : w.whole id k n = w.whole id k n := rfl
    conv at he => rhs; unfold CS.whole
    first
    | (rw [if_pos (show w.code ≠ 0 by assumption)] at he
       rw [he]
       rw [may_err (w := w) (by assumption)])
    | (rw [if_neg (show ¬ w.code ≠ 0 by omega), bitsK_0 (by assumption) (by assumption) (by assumption) (by assumption), if_pos rfl] at he
       rw [he, may_fail (c := 7) (by decide), fail_0 (by assumption)])
    | (rw [if_neg (show ¬ w.code ≠ 0 by omega), show bitsK k = 8 by (rw [show k = 3 by assumption]; rfl), if_neg (by decide)] at he
       first
         | (rw [if_neg (show ¬ fitC n 8 ≠ 0 by omega)] at he
            rw [he]
            unfold CS.put
            first | rw [if_pos (by assumption)] | rw [if_neg (li_f (by assumption))]
            first | rw [if_pos (show k = 3 by assumption)] | rw [if_neg (show ¬ k = 3 by assumption)] | skip)
         | (rw [if_pos (show fitC n 8 ≠ 0 by assumption)] at he
            rw [he, may_fail (c := fitC n 8) (by assumption), fail_0 (by assumption)]))
    | (rw [if_neg (show ¬ w.code ≠ 0 by omega), show bitsK k = 16 by (rw [show k = 4 by assumption]; rfl), if_neg (by decide)] at he
       first
         | (rw [if_neg (show ¬ fitC n 16 ≠ 0 by omega)] at he
            rw [he]
            unfold CS.put
            first | rw [if_pos (by assumption)] | rw [if_neg (li_f (by assumption))]
            first | rw [if_pos (show k = 3 by assumption)] | rw [if_neg (show ¬ k = 3 by assumption)] | skip)
         | (rw [if_pos (show fitC n 16 ≠ 0 by assumption)] at he
            rw [he, may_fail (c := fitC n 16) (by assumption), fail_0 (by assumption)]))
    | (rw [if_neg (show ¬ w.code ≠ 0 by omega), show bitsK k = 32 by (rw [show k = 5 by assumption]; rfl), if_neg (by decide)] at he
       first
         | (rw [if_neg (show ¬ fitC n 32 ≠ 0 by omega)] at he
            rw [he]
            unfold CS.put
            first | rw [if_pos (by assumption)] | rw [if_neg (li_f (by assumption))]
            first | rw [if_pos (show k = 3 by assumption)] | rw [if_neg (show ¬ k = 3 by assumption)] | skip)
         | (rw [if_pos (show fitC n 32 ≠ 0 by assumption)] at he
            rw [he, may_fail (c := fitC n 32) (by assumption), fail_0 (by assumption)]))
    | (rw [if_neg (show ¬ w.code ≠ 0 by omega), show bitsK k = 64 by (rw [show k = 6 by assumption]; rfl), if_neg (by decide)] at he
       first
         | (rw [if_neg (show ¬ fitC n 64 ≠ 0 by omega)] at he
            rw [he]
            unfold CS.put
            first | rw [if_pos (by assumption)] | rw [if_neg (li_f (by assumption))]
            first | rw [if_pos (show k = 3 by assumption)] | rw [if_neg (show ¬ k = 3 by assumption)] | skip)
         | (rw [if_pos (show fitC n 64 ≠ 0 by assumption)] at he
            rw [he, may_fail (c := fitC n 64) (by assumption), fail_0 (by assumption)]))
    first
    | (refine EndP.mk [] ?_ <;> (repeat' first | trivial | rfl | exact eqS _ _ | apply andI | apply eqA | apply eqB | apply eqC | apply eqD | apply eqE | apply eqF | apply eqG | apply eqH | apply eqI)
       all_goals (first | rfl | (simp [bl_append, bl, bv, fit_b8]; done)))
    | (refine EndP.mk [.swap 1 3] ?_ <;> (repeat' first | trivial | rfl | exact eqS _ _ | apply andI | apply eqA | apply eqB | apply eqC | apply eqD | apply eqE | apply eqF | apply eqG | apply eqH | apply eqI)
       all_goals (first | rfl | (simp [bl_append]; done)))
def sm_cwWhole : Sm := fun args σ => match args, σ with
  | [.ptr 0 0, .int .i64 id, .int .u8 k, .int .i64 n], [.cells [.buf 1, .buf 2, .int .i64 c_w], .buf 1 0 o_w, .buf 4 0 l_w] => some (okC o_w l_w ∧ ((deC o_w l_w c_w).out.length ≤ 1800000000 ∧ (deC o_w l_w c_w).l.length ≤ 800), .tuple [], some (eCw ((deC o_w l_w c_w).whole id k n)))
  | _, _ => none
theorem k_cwWhole : SOK 14 sm_cwWhole := by
  intro args sg pre x r he hp
  unfold sm_cwWhole at he
  split at he <;> cases he
  · rw [viewCw (hp).1]; exact f_cwWhole_1 (hp := hp.2) ..
end Go.Proofs.YtcgjkjabcdeagaaDoor
