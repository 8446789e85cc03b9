/-
  A field's bytes: pread.Put, pread.Size, and the document's Text.
-/
import Derived.Test.YtbeejnmeakcpjaaDoorPRh
set_option linter.unusedSimpArgs false
set_option linter.unusedVariables false
set_option maxHeartbeats 4000000
namespace Go.Proofs.YtbeejnmeakcpjaaDoor
open Go Go.VG
set_option maxRecDepth 100000
theorem f_pFSize_1 (f : Pf) (hp : f.text.length ≤ 1000000000) : OK 24 ([ePf f]) ([]) (.int .i64 ((fldB f).length : Nat)) (none) := by
  refine funOK_of_vc (C := cx [(51, sm_pMay), (58, sm_pTagSize), (59, sm_vSize)]) (good ⟨k_pMay, k_pTagSize, k_vSize, trivial⟩) (fn := Tryd.f24) rfl rfl rfl rfl fun hw hs => ?_
  have hn : 0 ≤ f.num ∧ f.num ≤ 18446744073709551615 := hw.1.2.2.1
  have ht := tagB_len f.no f.wi
  have h1 := size_len (u := f.num.toNat) (by omega)
  have h2 := size_len (u := f.text.length) (by omega)
  have h3 := vput_len (u := f.num.toNat) (by omega)
  have h4 := vput_len (u := f.text.length) (by omega)
  have hwt : IntKind.u64.wrap (f.text.length : Int) = f.text.length := by rw [wu64]; omega
  repeat' (
      conv => whnf
      first
      | with_reducible refine optB_i (fun j q h => ?_) (fun h => ?_)
      | with_reducible refine nextM_i ⟨rfl, rfl⟩ (fun h => ?_) (fun j h => ?_)
      | with_reducible refine nextM_i ?_ (fun h => ?_) (fun j h => ?_)
      | refine req_i ?_ ?_
      | refine when_i ?_ ?_
      | refine brn_not ?_
      | refine brn_dec (fun h => ?_) (fun h => ?_)
      | refine brn_int (fun h => ?_) (fun h => ?_)
      | refine brn_intne (fun h => ?_) (fun h => ?_)
      | refine brn_str (fun h => ?_) (fun h => ?_)
      | refine brn_i (fun h => ?_) (fun h => ?_)
      | with_reducible refine IdxK.mk _ rfl ?_
      | with_reducible refine idx_blI ?_ (fun hc => ?_)
      | with_reducible refine idx_bl ?_ (fun hc => ?_)
      | with_reducible refine idx_strI ?_ (fun hc => ?_)
      | with_reducible refine idx_str ?_ (fun hc => ?_)
      | with_reducible refine idx_mapDI ?_ ?_
      | with_reducible refine idx_mapD ?_ ?_
      | with_reducible refine idx_at ?_ (fun b hb => ?_)
      | refine ex_bl ?_
      | refine ex_b1 ?_ ?_
      | refine ex_b2 ?_ ?_ ?_
      | refine ex_b3 ?_ ?_ ?_ ?_
      | refine ex_b4 ?_ ?_ ?_ ?_ ?_
      | refine optK_setL ?_ ?_
      | refine optK_takeL ?_ ?_
      | with_reducible refine forceDs_i ?_
      )
  all_goals try (conv => whnf)
  all_goals try (refine Side.mk ?_; try dsimp only)
  all_goals (try simp only [hwt, Int.toNat_natCast, h1, h2] at *)
  all_goals first
    | (show LoopP _ _ _ _; skip)
    | (show GotoP _ _ _ _ _; skip)
    | (show EndP _ _ _ _ _ _; skip)
    | (show ∃ _, _; skip)
    | (first
          | trivial
          | omega
          | (simp (discharger := omega) only [wu8, wu16, wu32, wu64, wi32, wi64, Int.tdiv_eq_ediv_of_nonneg, Int.tmod_eq_emod_of_nonneg]; omega)
          | (simp only [List.length_append, List.length_cons, List.length_nil, bl_length, List.length_take, List.length_drop]; omega)
          | (simp (discharger := omega) [-List.getD_eq_getElem?_getD, wu8, wu16, wu32, wu64, wi32, wi64, Int.tdiv_eq_ediv_of_nonneg, Int.tmod_eq_emod_of_nonneg]; done)
          | (simp (discharger := omega) [-List.getD_eq_getElem?_getD, wu8, wu16, wu32, wu64, wi32, wi64, Int.tdiv_eq_ediv_of_nonneg, Int.tmod_eq_emod_of_nonneg]; omega))
    | skip
  all_goals
    have hf : fldB f = fldB f := rfl
    conv at hf => rhs; unfold fldB conB
    first
    | (have hm : mayT f.no f.wi = true := decide_eq_true (by assumption)
       rw [if_pos hm] at hf
       repeat (first | rw [if_pos (by assumption)] at hf | rw [if_neg (by assumption)] at hf)
       rw [hf]
       (refine EndP.mk [] ?_ <;> (repeat' (first | trivial | rfl | exact scopedL_bl _ _ | refine And.intro ?_ ?_ | refine congrArg V.str ?_ | refine congrArg (V.int _) ?_ | refine congrArg V.bool ?_ | refine congrArg (O.buf _ _) ?_ | refine congrArg O.cells ?_ | refine congrArg (V.list _ _) ?_ | refine congrArg V.agg ?_ | refine congrArg V.tuple ?_ | refine cons_eq ?_ ?_)))
       all_goals
         first | rw [List.length_append, low_length] | (rw [List.length_append, List.length_append]) | rw [List.length_append]
         rw [wi_i] <;> (try rw [wi_i]) <;> omega)
    | (have hm : mayT f.no f.wi = false := decide_eq_false (by assumption)
       rw [hm, if_neg Bool.false_ne_true] at hf
       rw [hf]
       refine EndP.mk [] ?_ <;> (repeat' (first | trivial | rfl | exact scopedL_bl _ _ | refine And.intro ?_ ?_ | refine congrArg V.str ?_ | refine congrArg (V.int _) ?_ | refine congrArg V.bool ?_ | refine congrArg (O.buf _ _) ?_ | refine congrArg O.cells ?_ | refine congrArg (V.list _ _) ?_ | refine congrArg V.agg ?_ | refine congrArg V.tuple ?_ | refine cons_eq ?_ ?_))
       done)
def sm_pFSize : Sm := fun args σ => match args, σ with
  | [.agg [.int .i64 n_f, .int .i64 w_f, .int .u64 u_f, .str t_f]], [] => some (True ∧ ((Pf.mk n_f w_f u_f t_f).text.length ≤ 1000000000), .int .i64 ((fldB (Pf.mk n_f w_f u_f t_f)).length : Nat), none)
  | _, _ => none
theorem k_pFSize : SOK 24 sm_pFSize := by
  intro args sg pre x r he hp
  unfold sm_pFSize at he
  split at he <;> cases he
  · rw [viewPf (hp).1]; exact f_pFSize_1 (hp := hp.2) ..
end Go.Proofs.YtbeejnmeakcpjaaDoor
