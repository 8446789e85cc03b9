/-
  Reading of a struct.
-/
import Derived.Test.YtcgjkjabcdeagaaDoorCRb
set_option linter.unusedSimpArgs false
set_option linter.unusedVariables false
set_option maxHeartbeats 4000000
namespace Go.Proofs.YtcgjkjabcdeagaaDoor
open Go Go.VG
set_option maxRecDepth 100000
theorem fldE_ok {id k : Int} {d : Cu} (h : d.ok) : (fldE id k d).2.ok ∧ (fldE id k d).2.s = d.s ∧ (fldE id k d).2.e = d.e := by
  unfold fldE
  repeat' split
  · exact ⟨h, rfl, rfl⟩
  · have := fail_ok h 4; exact ⟨this.1, this.2.1, this.2.2.1⟩
  · exact ⟨h, rfl, rfl⟩
theorem fld_ok {c : Cu} (h : c.ok) (last : Int) : (c.fld last).2.ok ∧ (c.fld last).2.s = c.s ∧ (c.fld last).2.e = c.e := by
  have hb := pass_ok h 1
  have hv := vread_ok hb.1
  have hf := fail_ok hb.1 7
  unfold Cu.fld
  repeat' split
  · exact hb
  · exact hb
  · have := fldE_ok (id := IntKind.i64.wrap (last + ((c.byteV.toNat / 16 : Nat) : Int))) (k := ((c.byteV.toNat % 16 : Nat) : Int)) hb.1
    exact ⟨this.1, this.2.1.trans hb.2.1, this.2.2.trans hb.2.2⟩
  · have := fldE_ok (id := zag c.byte.vread.1) (k := ((c.byteV.toNat % 16 : Nat) : Int)) hv.1
    exact ⟨this.1, this.2.1.trans (hv.2.1.trans hb.2.1), this.2.2.trans (hv.2.2.trans hb.2.2)⟩
  · exact ⟨hf.1, hf.2.1.trans hb.2.1, hf.2.2.1.trans hb.2.2⟩
theorem failC_code {c : Cu} {k : Int} (h : ¬ k = 0) : ¬ (c.fail k).c = 0 := by unfold Cu.fail; split <;> assumption
theorem f_hField_1 (c : Cu) (last : Int) (hp : c.ok) : OK 30 ([.ptr 0 0, .int .i64 last]) ([.cells (eC c)]) (.tuple [.int .i64 (c.fld last).1.1, .int .u8 (c.fld last).1.2]) (some [.cells (eC (c.fld last).2)]) := by
  refine funOK_of_vc (C := cx [(54, sm_cByte), (32, sm_cErr), (55, sm_cIs), (56, sm_cFail), (58, sm_vRead), (57, sm_wZag)]) (good ⟨k_cByte, k_cErr, k_cIs, k_cFail, k_vRead, k_wZag, trivial⟩) (fn := Tryd.f30) rfl rfl rfl rfl fun hw hs => ?_
  have hb := pass_ok hp 1
  have hv := vread_ok hb.1
  have h1 := @vread_lt c.byte
  have h256 := c.byteV.toNat_lt
  have h15 : iAnd .u8 (c.byteV.toNat : Int) 15 = ((c.byteV.toNat % 16 : Nat) : Int) := iAnd_u8_15 _ (by omega)
  have h4 : IntKind.i64.wrap (iShr .u8 (c.byteV.toNat : Int) 4) = ((c.byteV.toNat / 16 : Nat) : Int) := by
    have e : iShr .u8 (c.byteV.toNat : Int) 4 = ((c.byteV.toNat / 16 : Nat) : Int) := by
      show (c.byteV.toNat : Int).fdiv 16 = _
      rw [Int.fdiv_eq_ediv_of_nonneg _ (by decide)]; omega
    rw [e, wi64]; omega
  repeat' ((conv => whnf); first | with_reducible (first | refine go1 (fun j q h => ?_) fun h => ?_ | refine go2 ⟨rfl, rfl⟩ (fun h => ?_) fun j h => ?_ | refine go2 ?_ (fun h => ?_) fun j h => ?_ | refine goQ ?_ (fun h => ?_) fun h => ?_) | apply go3 | apply go4 | apply go5 | ((first | apply go6 | apply go7 | apply go8 | apply go9 | apply goA) <;> intro h) | with_reducible (first | refine IdxK.mk _ rfl ?_ | refine goB ?_ fun hc => ?_ | refine goC ?_ fun hc => ?_ | refine goD ?_ fun hc => ?_ | refine goE ?_ fun hc => ?_ | apply goF | apply goG | refine goH ?_ fun b hb => ?_) | apply goI | apply goJ | apply goK | apply goL | apply goM | apply goN | apply goO | with_reducible refine goP ?_)
  all_goals try conv => whnf
  all_goals try (refine Side.mk ?_; try dsimp only)
  all_goals (try simp only [h15, h4, Int.toNat_natCast] at *)
  all_goals (try simp only [Cu_eta] at *)
  all_goals first | refine stay ?_ | trivial | omega | (simp (discharger := omega) only [wR]; omega) | (simp only [lnS]; omega) | (simp (discharger := omega) [-List.getD_eq_getElem?_getD, wR] <;> omega) | skip
  all_goals first
    | exact ⟨trivial, hb.1⟩
    | (exfalso; omega)
    | (exfalso; exact absurd (by assumption) (failC_code (c := c.byte) (k := 4) (by decide)))
    | (exfalso; exact absurd (by assumption) (failC_code (c := c.byte.vread.2) (k := 4) (by decide)))
    | (show EndP _ _ _ _ _ _
       have he : c.fld last = c.fld last := rfl
       conv at he => rhs; unfold Cu.fld fldE
       repeat (first | rw [if_pos (by first | assumption | omega | exact isK_t.2 (by assumption))] at he | rw [if_neg (by first | assumption | omega | exact fun q => absurd (isK_t.1 q) (by assumption))] at he)
       rw [he]
       (refine EndP.mk [] ?_ <;> (repeat' first | trivial | rfl | exact eqS _ _ | apply andI | apply eqA | apply eqB | apply eqC | apply eqD | apply eqE | apply eqF | apply eqG | apply eqH | apply eqI))
       done)
    | skip
def sm_hField : Sm := fun args σ => match args, σ with
  | [.ptr 0 0, .int .i64 last], [.cells ([.str s_c, .int .i64 (.ofNat a_c), .int .i64 (.ofNat e_c), .int .i64 c_c])] => some (True ∧ ((Cu.mk s_c a_c e_c c_c).ok), .tuple [.int .i64 ((Cu.mk s_c a_c e_c c_c).fld last).1.1, .int .u8 ((Cu.mk s_c a_c e_c c_c).fld last).1.2], some [.cells (eC ((Cu.mk s_c a_c e_c c_c).fld last).2)])
  | _, _ => none
theorem k_hField : SOK 30 sm_hField := by
  intro args sg pre x r he hp
  unfold sm_hField at he
  split at he <;> cases he
  · rw [viewC (hp).1]; exact f_hField_1 (hp := hp.2) ..
theorem f_rValue_1 (s : List UInt8) (f : Fd) (d : Int) (c : Cu) (hp : (c.ok ∧ c.s.length ≤ 9223372036854775807) ∧ kOk f.k) : OK 31 ([.ptr 0 0, .ptr 1 0, .int .i64 d]) ([.cells [.str s, .ptr 2 0], .cells (eFc f), .cells (eC c)]) (.tuple []) (some [.cells [.str s, .ptr 2 0], .cells (eFc (valF f c)), .cells (eC (valC f c))]) := by
  refine funOK_of_vc (C := cx [(60, sm_rNum), (61, sm_rLow), (62, sm_rText)]) (good ⟨k_rNum, k_rLow, k_rText, trivial⟩) (fn := Tryd.f31) rfl rfl rfl rfl fun hw hs => ?_
  obtain ⟨hp, hk⟩ := hp
  unfold kOk at hk
  repeat' ((conv => whnf); first | with_reducible (first | refine go1 (fun j q h => ?_) fun h => ?_ | refine go2 ⟨rfl, rfl⟩ (fun h => ?_) fun j h => ?_ | refine go2 ?_ (fun h => ?_) fun j h => ?_ | refine goQ ?_ (fun h => ?_) fun h => ?_) | apply go3 | apply go4 | apply go5 | ((first | apply go6 | apply go7 | apply go8 | apply go9 | apply goA) <;> intro h) | with_reducible (first | refine IdxK.mk _ rfl ?_ | refine goB ?_ fun hc => ?_ | refine goC ?_ fun hc => ?_ | refine goD ?_ fun hc => ?_ | refine goE ?_ fun hc => ?_ | apply goF | apply goG | refine goH ?_ fun b hb => ?_) | apply goI | apply goJ | apply goK | apply goL | apply goM | apply goN | apply goO | with_reducible refine goP ?_)
  all_goals try conv => whnf
  all_goals try (refine Side.mk ?_; try dsimp only)
  all_goals (try simp only [Cu_eta] at *)
  all_goals first | refine stay ?_ | trivial | omega | (simp (discharger := omega) only [wR]; omega) | (simp only [lnS]; omega) | (simp (discharger := omega) [-List.getD_eq_getElem?_getD, wR] <;> omega) | skip
  all_goals first
    | exact ⟨trivial, hp.1, hp.2⟩
    | exact ⟨trivial, hp.1⟩
    | (exfalso; omega)
    | (show EndP _ _ _ _ _ _
       unfold valF valC
       repeat (first | rw [if_pos (by first | assumption | omega)] | rw [if_neg (by first | assumption | omega)])
       (refine EndP.mk [] ?_ <;> (repeat' first | trivial | rfl | exact eqS _ _ | apply andI | apply eqA | apply eqB | apply eqC | apply eqD | apply eqE | apply eqF | apply eqG | apply eqH | apply eqI))
       done)
    | skip
def sm_rValue : Sm := fun args σ => match args, σ with
  | [.ptr 0 0, .ptr 1 0, .int .i64 d], [.cells [.str s, .ptr 2 0], .cells ([.int .i64 i_f, .int .u8 k_f, .int .i64 n_f, .int .u64 b_f, .str t_f, .str r_f]), .cells ([.str s_c, .int .i64 (.ofNat a_c), .int .i64 (.ofNat e_c), .int .i64 c_c])] => some (True ∧ (True ∧ (((Cu.mk s_c a_c e_c c_c).ok ∧ (Cu.mk s_c a_c e_c c_c).s.length ≤ 9223372036854775807) ∧ kOk (Fd.mk i_f k_f n_f b_f t_f r_f).k)), .tuple [], some [.cells [.str s, .ptr 2 0], .cells (eFc (valF (Fd.mk i_f k_f n_f b_f t_f r_f) (Cu.mk s_c a_c e_c c_c))), .cells (eC (valC (Fd.mk i_f k_f n_f b_f t_f r_f) (Cu.mk s_c a_c e_c c_c)))])
  | _, _ => none
theorem k_rValue : SOK 31 sm_rValue := by
  intro args sg pre x r he hp
  unfold sm_rValue at he
  split at he <;> cases he
  · rw [viewC (hp).1]; rw [viewFc (hp.2).1]; exact f_rValue_1 (hp := hp.2.2) ..
def sGo : Nat → Cu → Int → List Fd → Option (List Fd × Cu)
  | 0, _, _, _ => none
  | n + 1, c, last, acc =>
    if (c.fld last).1.2 = 0 then some (acc, (c.fld last).2)
    else if kOk (c.fld last).1.2 then
      sGo n (valC ⟨(c.fld last).1.1, (c.fld last).1.2, 0, 0, [], []⟩ (c.fld last).2) (c.fld last).1.1 (acc ++ [valF ⟨(c.fld last).1.1, (c.fld last).1.2, 0, 0, [], []⟩ (c.fld last).2])
    else none
end Go.Proofs.YtcgjkjabcdeagaaDoor
