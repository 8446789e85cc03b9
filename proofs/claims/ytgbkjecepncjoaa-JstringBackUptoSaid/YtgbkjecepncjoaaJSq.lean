/-
  How the program reads a text of JSON: escapes, characters, the whole text.
-/
import Derived.Test.YtgbkjecepncjoaaJSp
set_option linter.unusedSimpArgs false
set_option linter.unusedVariables false
set_option maxHeartbeats 4000000
namespace Go.Proofs.Ytgbkjecepncjoaa
open Go Go.VG
set_option maxRecDepth 100000
theorem bl_nil : bl [] = [] := rfl
theorem plainV_lt (b : UInt8) : plainV b < 128 := by
  unfold plainV; repeat' split
  all_goals omega
theorem f_jsEscaped_1 (c : Cu) (o : List V) (hp : c.ok ∧ o.length ≤ 2000000000) : OK 46 ([.ptr 0 0]) ([.cells [.ptr 1 0, .buf 2], .cells (eC c), .buf 1 0 o]) (.tuple []) (some [.cells [.ptr 1 0, .buf 2], .cells (eC c.escC), .buf 1 0 (o ++ bl c.escO)]) := by
  refine funOK_of_vc (C := cx [(45, sm_cByte), (60, sm_jsNumber), (20, sm_cErr), (61, sm_uPut), (62, sm_jsPlain), (44, sm_cFail)]) (good ⟨k_cByte, k_jsNumber, k_cErr, k_uPut, k_jsPlain, k_cFail, trivial⟩) (fn := Try.f46) rfl rfl rfl rfl fun hw hs => ?_
  obtain ⟨hp, ho⟩ := hp
  have h1 := byte_ok hp
  have h2 := number_ok h1
  have hb : c.byteV.toNat < 256 := c.byteV.toNat_lt
  have hbb : byte c.byteV.toNat = c.byteV := byte_of _
  repeat' (
      conv => whnf
      first
      | refine req_i ?_ ?_
      | refine when_i ?_ ?_
      | refine brn_not ?_
      | refine brn_dec (fun h => ?_) (fun h => ?_)
      | refine brn_int (fun h => ?_) (fun h => ?_)
      | refine brn_intne (fun h => ?_) (fun h => ?_)
      | refine brn_str (fun h => ?_) (fun h => ?_)
      | refine brn_i (fun h => ?_) (fun h => ?_)
      | with_reducible refine IdxK.mk _ rfl ?_
      | with_reducible refine idx_blI ?_ (fun hc => ?_)
      | with_reducible refine idx_bl ?_ (fun hc => ?_)
      | with_reducible refine idx_strI ?_ (fun hc => ?_)
      | with_reducible refine idx_str ?_ (fun hc => ?_)
      | with_reducible refine idx_mapDI ?_ ?_
      | with_reducible refine idx_mapD ?_ ?_
      | with_reducible refine idx_at ?_ (fun b hb => ?_)
      | refine ex_bl ?_
      | refine ex_b1 ?_ ?_
      | refine ex_b2 ?_ ?_ ?_
      | refine ex_b3 ?_ ?_ ?_ ?_
      | refine ex_b4 ?_ ?_ ?_ ?_ ?_
      | refine optK_setL ?_ ?_
      | refine optK_takeL ?_ ?_
      | with_reducible refine forceDs_i ?_
      )
  all_goals try (conv => whnf)
  all_goals try (refine Side.mk ?_; try dsimp only)
  all_goals (try simp only [Cu_eta] at *)
  all_goals first
    | (show LoopP _ _ _ _; skip)
    | (show EndP _ _ _ _ _ _; skip)
    | (show ∃ _, _; skip)
    | (first
          | trivial
          | omega
          | (simp (discharger := omega) only [wu8, wu16, wu32, wu64, wi32, wi64, Int.tdiv_eq_ediv_of_nonneg, Int.tmod_eq_emod_of_nonneg]; omega)
          | (simp only [List.length_append, List.length_cons, List.length_nil, bl_length, List.length_take, List.length_drop]; omega)
          | (simp (discharger := omega) [-List.getD_eq_getElem?_getD, wu8, wu16, wu32, wu64, wi32, wi64, Int.tdiv_eq_ediv_of_nonneg, Int.tmod_eq_emod_of_nonneg]; done)
          | (simp (discharger := omega) [-List.getD_eq_getElem?_getD, wu8, wu16, wu32, wu64, wi32, wi64, Int.tdiv_eq_ediv_of_nonneg, Int.tmod_eq_emod_of_nonneg]; omega))
    | skip
  all_goals (try simp only [hbb] at *)
  all_goals first
    | exact ⟨number_is (by assumption), by omega⟩
    | skip
  all_goals
    first
    | (have hpl : plainIs c.byteV = true := decide_eq_true (by assumption))
    | (have hpl : plainIs c.byteV = false := decide_eq_false (by assumption))
    | (have hpl : plainIs c.byteV = plainIs c.byteV := rfl)
    unfold Cu.escC Cu.escO
    try rw [hpl]
    repeat (first | rw [if_pos (by first | rfl | omega)] | rw [if_neg (by first | exact Bool.false_ne_true | omega)])
    refine EndP.mk [] ?_ <;> (repeat' (first | trivial | rfl | exact scopedL_bl _ _ | refine And.intro ?_ ?_ | refine congrArg V.str ?_ | refine congrArg (V.int _) ?_ | refine congrArg V.bool ?_ | refine congrArg (O.buf _ _) ?_ | refine congrArg O.cells ?_ | refine congrArg (V.list _ _) ?_ | refine congrArg V.agg ?_ | refine congrArg V.tuple ?_ | refine cons_eq ?_ ?_))
  all_goals (try rw [bl_nil, List.append_nil])
def sm_jsEscaped : Sm := fun args σ => match args, σ with
  | [.ptr 0 0], [.cells [.ptr 1 0, .buf 2], .cells ([.str s_c, .int .i64 (.ofNat a_c), .int .i64 (.ofNat e_c), .int .i64 c_c]), .buf 1 0 o] => some (True ∧ ((Cu.mk s_c a_c e_c c_c).ok ∧ o.length ≤ 2000000000), .tuple [], some [.cells [.ptr 1 0, .buf 2], .cells (eC (Cu.mk s_c a_c e_c c_c).escC), .buf 1 0 (o ++ bl (Cu.mk s_c a_c e_c c_c).escO)])
  | _, _ => none
theorem k_jsEscaped : SOK 46 sm_jsEscaped := by
  intro args sg pre x r he hp
  unfold sm_jsEscaped at he
  split at he <;> cases he
  · rw [viewC (hp).1]; exact f_jsEscaped_1 (hp := hp.2) ..
end Go.Proofs.Ytgbkjecepncjoaa
