/-
  All fields of any bytes: the law's walk.
-/
import Derived.Test.YtbeejnmeakcpjaaDoorPRk
set_option linter.unusedSimpArgs false
set_option linter.unusedVariables false
set_option maxHeartbeats 4000000
namespace Go.Proofs.YtbeejnmeakcpjaaDoor
open Go Go.VG
set_option maxRecDepth 100000
theorem each_len : ∀ (n : Nat) (c : Cu) (acc : List Pf), c.ok → acc.length ≤ c.p → (eachGo n c acc).2.length ≤ c.e
  | 0, c, acc, h, h2 => by rw [eachGo]; exact Nat.le_trans h2 h.1
  | n + 1, c, acc, h, h2 => by
    rw [eachGo]
    have hk := nxt_ok h
    split
    · split
      · exact Nat.le_trans h2 h.1
      · rename_i q
        have h0 : c.nxtC.c = 0 := by simpa using q
        have := nxt_adv h0
        have := each_len n c.nxtC (acc ++ [c.nxt]) hk.1 (by rw [List.length_append, List.length_singleton]; omega)
        rw [hk.2.2] at this
        exact this
    · exact Nat.le_trans h2 h.1
theorem aFds_len (s : List UInt8) : (aFds s).length ≤ s.length := by
  unfold aFds
  split
  · exact each_len _ (Cu.new s) [] ⟨Nat.zero_le _, Nat.le_refl _⟩ (Nat.zero_le _)
  · simp
theorem f_lAll17_1 (s : List UInt8) (hp : True) : OK 6 ([.str s]) ([]) (.bool true) (none) := by
  refine funOK_of_vc (C := cx [(26, sm_works17), (25, sm_pAll), (12, sm_r17All), (29, sm_cNew), (30, sm_r01New), (31, sm_pNext), (32, sm_r17Next), (28, sm_lBack17), (27, sm_r17Same), (33, sm_cErr), (34, sm_cAt)]) (good ⟨k_works17, k_pAll, k_r17All, k_cNew, k_r01New, k_pNext, k_r17Next, k_lBack17, k_r17Same, k_cErr, k_cAt, trivial⟩) (fn := Tryd.f6) rfl rfl rfl rfl fun hw hs => ?_
  have hl := aFds_len s
  have hml : ((aFds s).map ePf).length = (aFds s).length := List.length_map ..
  have hnew : (Cu.new s).ok := ⟨Nat.zero_le _, Nat.le_refl _⟩
  have hd := dnxt_eq (.new s)
  repeat' (
      conv => whnf
      first
      | refine req_i ?_ ?_
      | refine when_i ?_ ?_
      | refine brn_not ?_
      | refine brn_dec (fun h => ?_) (fun h => ?_)
      | refine brn_int (fun h => ?_) (fun h => ?_)
      | refine brn_intne (fun h => ?_) (fun h => ?_)
      | refine brn_str (fun h => ?_) (fun h => ?_)
      | refine brn_i (fun h => ?_) (fun h => ?_)
      | with_reducible refine IdxK.mk _ rfl ?_
      | with_reducible refine idx_blI ?_ (fun hc => ?_)
      | with_reducible refine idx_bl ?_ (fun hc => ?_)
      | with_reducible refine idx_strI ?_ (fun hc => ?_)
      | with_reducible refine idx_str ?_ (fun hc => ?_)
      | with_reducible refine idx_mapDI ?_ ?_
      | with_reducible refine idx_mapD ?_ ?_
      | with_reducible refine idx_at ?_ (fun b hb => ?_)
      | refine ex_bl ?_
      | refine ex_b1 ?_ ?_
      | refine ex_b2 ?_ ?_ ?_
      | refine ex_b3 ?_ ?_ ?_ ?_
      | refine ex_b4 ?_ ?_ ?_ ?_ ?_
      | refine optK_setL ?_ ?_
      | refine optK_takeL ?_ ?_
      | with_reducible refine forceDs_i ?_
      )
  all_goals try (conv => whnf)
  all_goals try (refine Side.mk ?_; try dsimp only)
  all_goals (try simp only [Cu_eta] at *)
  all_goals first
    | (show LoopP _ _ _ _; skip)
    | (show GotoP _ _ _ _ _; skip)
    | (show EndP _ _ _ _ _ _; skip)
    | (show ∃ _, _; skip)
    | (first
          | trivial
          | omega
          | (simp (discharger := omega) only [wu8, wu16, wu32, wu64, wi32, wi64, Int.tdiv_eq_ediv_of_nonneg, Int.tmod_eq_emod_of_nonneg]; omega)
          | (simp only [List.length_append, List.length_cons, List.length_nil, bl_length, List.length_take, List.length_drop]; omega)
          | (simp (discharger := omega) [-List.getD_eq_getElem?_getD, wu8, wu16, wu32, wu64, wi32, wi64, Int.tdiv_eq_ediv_of_nonneg, Int.tmod_eq_emod_of_nonneg]; done)
          | (simp (discharger := omega) [-List.getD_eq_getElem?_getD, wu8, wu16, wu32, wu64, wi32, wi64, Int.tdiv_eq_ediv_of_nonneg, Int.tmod_eq_emod_of_nonneg]; omega))
    | skip
  all_goals first
    | exact ⟨trivial, hnew, by show s.length ≤ _; omega⟩
    | exact ⟨trivial, hnew, rfl, by show s.length ≤ _; omega⟩
    | exact ⟨⟨_, rfl⟩, by omega⟩
    | exact ⟨⟨_, rfl⟩, trivial, by omega⟩
    | exact absurd trivial (by assumption)
    | exact absurd hd.1.symm (by assumption)
    | exact absurd (show ((Cu.new s).nxtC.p : Int) = (Cu.new s).dnxtC.p by rw [hd.2.2 (by omega)]) (by assumption)
    | (have h := ‹(bif true then _ else _) = false›
       rw [hd.2.1] at h
       simp at h
       done)
    | (show EndP _ _ _ _ _ _
       refine EndP.mk [] ?_ <;> (repeat' (first | trivial | rfl | exact scopedL_bl _ _ | refine And.intro ?_ ?_ | refine congrArg V.str ?_ | refine congrArg (V.int _) ?_ | refine congrArg V.bool ?_ | refine congrArg (O.buf _ _) ?_ | refine congrArg O.cells ?_ | refine congrArg (V.list _ _) ?_ | refine congrArg V.agg ?_ | refine congrArg V.tuple ?_ | refine cons_eq ?_ ?_))
       done)
def sm_lAll17 : Sm := fun args σ => match args, σ with
  | [.str s], [] => some (True, .bool true, none)
  | _, _ => none
theorem k_lAll17 : SOK 6 sm_lAll17 := by
  intro args sg pre x r he hp
  unfold sm_lAll17 at he
  split at he <;> cases he
  · exact f_lAll17_1 (hp := hp) ..
end Go.Proofs.YtbeejnmeakcpjaaDoor
