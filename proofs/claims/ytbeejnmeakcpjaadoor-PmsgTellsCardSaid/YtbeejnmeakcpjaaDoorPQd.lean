/-
  What a message's fields say together: the examples, and the law's walk.
-/
import Derived.Test.YtbeejnmeakcpjaaDoorPQf
set_option linter.unusedSimpArgs false
set_option linter.unusedVariables false
set_option maxHeartbeats 4000000
namespace Go.Proofs.YtbeejnmeakcpjaaDoor
open Go Go.VG
set_option maxRecDepth 100000
def m1 : List UInt8 := [10, 1, 97, 10, 1, 98, 16, 1, 16, 2]
def m2 : List UInt8 := [11]
def mF : List Pf := [⟨1, 2, 0, [97]⟩, ⟨1, 2, 0, [98]⟩, ⟨2, 0, 1, []⟩, ⟨2, 0, 2, []⟩]
theorem m1_all : aFds m1 = mF ∧ aFine m1 = 0 := by
  constructor
  · have h : (aFds m1).map (fun f => (f.no, f.wi, f.num, f.text)) = mF.map (fun f => (f.no, f.wi, f.num, f.text)) := by decide +kernel
    exact List.map_inj_right (fun a b q => by cases a; cases b; cases q; rfl) |>.mp h
  · decide +kernel
theorem m2_all : aFine m2 = 14 := by decide +kernel
theorem text_le (c : Cu) (h : c.ok) : c.nxt.text.length ≤ c.s.length := by
  have h1 := tag_ok h
  have hv := vread_ok h1.1
  have ht : c.tag.2.text.1.length ≤ c.s.length := by
    unfold Cu.text
    dsimp only
    split
    · exact Nat.zero_le _
    · unfold Cu.takeV
      split
      · have : (c.tag.2.vread.2.s.drop c.tag.2.vread.2.p).length = c.tag.2.vread.2.s.length - c.tag.2.vread.2.p := List.length_drop ..
        have e : c.tag.2.vread.2.s = c.s := hv.2.1.trans h1.2.1
        rw [List.length_take, this, e]; omega
      · exact Nat.zero_le _
  unfold Cu.nxt nxV
  split
  · exact Nat.zero_le _
  · repeat' split
    all_goals first
      | exact Nat.zero_le _
      | exact ht
theorem each_text : ∀ (n : Nat) (c : Cu) (acc : List Pf), c.ok → (∀ f ∈ acc, f.text.length ≤ c.s.length) → ∀ f ∈ (eachGo n c acc).2, f.text.length ≤ c.s.length
  | 0, c, acc, _, h2 => by rw [eachGo]; exact h2
  | n + 1, c, acc, h, h2 => by
    rw [eachGo]
    have hk := nxt_ok h
    split
    · split
      · exact h2
      · have := each_text n c.nxtC (acc ++ [c.nxt]) hk.1 (fun f hf => by
          rw [hk.2.1]
          rcases List.mem_append.1 hf with hf | hf
          · exact h2 f hf
          · rw [List.mem_singleton] at hf; subst hf; exact text_le c h)
        rw [hk.2.1] at this
        exact this
    · exact h2
theorem short_of {s : List UInt8} (h : s.length ≤ 100000) : shortF (aFds s) := by
  unfold aFds
  split
  · intro f hf
    have := each_text _ (Cu.new s) [] ⟨Nat.zero_le _, Nat.le_refl _⟩ (fun f hf => by cases hf) f hf
    exact Nat.le_trans this h
  · intro f hf; cases hf
theorem mF_short : shortF mF := by
  intro f hf
  have h : ∀ f ∈ mF, f.text.length ≤ 100000 := by decide
  exact h f hf
def sm_readW (L : List Pf) : Sm := fun args σ => match args, σ with
  | [.str [a]], [] => some ([a] = m2, .tuple [.nilptr, .int .i64 14], none)
  | [.str s], [] => some (s = m1, .tuple [.ptr 0 0, .int .i64 0], some [.cells [.buf 1], .buf 4 0 (L.map ePf)])
  | _, _ => none
theorem k_readW {L : List Pf} (hL : L = mF) : SOK 11 (sm_readW L) := by
  intro args sg pre x r he hp
  unfold sm_readW at he
  split at he <;> cases he
  · rw [hp]
    have h := f_pmReadN_1 m2 ⟨by decide, by rw [m2_all]; decide⟩
    rw [m2_all] at h
    exact h
  · subst hL
    subst hp
    have h := f_pmReadY_1 m1 ⟨by decide, m1_all.2⟩
    rw [m1_all.1] at h
    exact h
theorem f_works18 {L : List Pf} (hL : L = mF) : OK 10 [] [] (.bool true) none := by
  refine funOK_of_vc (C := cxl [(11, sm_readW L), (17, sm_pmJoin), (15, sm_pmText), (13, sm_pmNum), (35, sm_pmLast), (20, sm_pmTexts), (37, sm_pmRest)] [54, 94])
    (goodl ⟨k_readW hL, k_pmJoin, k_pmText, k_pmNum, k_pmLast, k_pmTexts, k_pmRest, trivial⟩) (fn := Tryd.f10) rfl rfl rfl rfl fun hw hs => ?_
  repeat' (
      conv => whnf
      first
      | with_reducible refine optB_i (fun j q h => ?_) (fun h => ?_)
      | with_reducible refine nextM_i ⟨rfl, rfl⟩ (fun h => ?_) (fun j h => ?_)
      | with_reducible refine nextM_i ?_ (fun h => ?_) (fun j h => ?_)
      | refine req_i ?_ ?_
      | refine when_i ?_ ?_
      | refine brn_not ?_
      | refine brn_dec (fun h => ?_) (fun h => ?_)
      | refine brn_int (fun h => ?_) (fun h => ?_)
      | refine brn_intne (fun h => ?_) (fun h => ?_)
      | refine brn_str (fun h => ?_) (fun h => ?_)
      | refine brn_i (fun h => ?_) (fun h => ?_)
      | with_reducible refine IdxK.mk _ rfl ?_
      | with_reducible refine idx_blI ?_ (fun hc => ?_)
      | with_reducible refine idx_bl ?_ (fun hc => ?_)
      | with_reducible refine idx_strI ?_ (fun hc => ?_)
      | with_reducible refine idx_str ?_ (fun hc => ?_)
      | with_reducible refine idx_mapDI ?_ ?_
      | with_reducible refine idx_mapD ?_ ?_
      | with_reducible refine idx_at ?_ (fun b hb => ?_)
      | refine ex_bl ?_
      | refine ex_b1 ?_ ?_
      | refine ex_b2 ?_ ?_ ?_
      | refine ex_b3 ?_ ?_ ?_ ?_
      | refine ex_b4 ?_ ?_ ?_ ?_ ?_
      | refine optK_setL ?_ ?_
      | refine optK_takeL ?_ ?_
      | with_reducible refine forceDs_i ?_
      )
  all_goals try (conv => whnf)
  all_goals try (refine Side.mk ?_; try dsimp only)
  all_goals first
    | rfl
    | exact ⟨⟨L, rfl, by subst hL; exact mF_short⟩, by subst hL; decide⟩
    | exact ⟨⟨L, rfl, by subst hL; exact mF_short⟩, by subst hL; decide, ⟨[(1, 2), (2, 0)], rfl⟩, by decide⟩
    | exact ⟨⟨L, rfl⟩, by subst hL; decide, ⟨[(2, 0)], rfl⟩, by decide⟩
    | (show EndP _ _ _ _ _ _
       refine EndP.mk [] ?_ <;> (repeat' (first | trivial | rfl | exact scopedL_bl _ _ | refine And.intro ?_ ?_ | refine congrArg V.str ?_ | refine congrArg (V.int _) ?_ | refine congrArg V.bool ?_ | refine congrArg (O.buf _ _) ?_ | refine congrArg O.cells ?_ | refine congrArg (V.list _ _) ?_ | refine congrArg V.agg ?_ | refine congrArg V.tuple ?_ | refine cons_eq ?_ ?_))
       done)
    | (exfalso
       simp only [dePf_map] at *
       subst hL
       first
       | exact h (by decide)
       | exact absurd h (by decide)
       | (rename_i h; exact h (by decide))
       | (rename_i h; exact absurd h (by decide))
       | exact absurd h (by decide)
      )
theorem f_works18_1  (hp : True) : OK 10 ([]) ([]) (.bool true) (none) := by
  exact f_works18 rfl
def sm_works18 : Sm := fun args σ => match args, σ with
  | [], [] => some (True, .bool true, none)
  | _, _ => none
theorem k_works18 : SOK 10 sm_works18 := by
  intro args sg pre x r he hp
  unfold sm_works18 at he
  split at he <;> cases he
  · exact f_works18_1 (hp := hp) ..
theorem f_lTells18Y_1 (s : List UInt8) (n w : Int) (hp : aFine s = 0) : OK 3 ([.str s, .int .i64 n, .int .i64 w]) ([]) (.bool true) (none) := by
  refine funOK_of_vc (C := cx [(11, sm_pmReadY), (10, sm_works18), (12, sm_r17All), (13, sm_pmNum), (14, sm_r18Num), (15, sm_pmText), (16, sm_r18Text), (17, sm_pmJoin), (18, sm_r18Join), (20, sm_pmTexts), (21, sm_r18Each), (19, sm_sameTx)]) (good ⟨k_pmReadY, k_works18, k_r17All, k_pmNum, k_r18Num, k_pmText, k_r18Text, k_pmJoin, k_r18Join, k_pmTexts, k_r18Each, k_sameTx, trivial⟩) (fn := Tryd.f3) rfl rfl rfl rfl fun hw hs => ?_
  have hl := aFds_len s
  have hml : ((aFds s).map ePf).length = (aFds s).length := List.length_map ..
  repeat' (
      conv => whnf
      first
      | with_reducible refine optB_i (fun j q h => ?_) (fun h => ?_)
      | with_reducible refine nextM_i ⟨rfl, rfl⟩ (fun h => ?_) (fun j h => ?_)
      | with_reducible refine nextM_i ?_ (fun h => ?_) (fun j h => ?_)
      | refine req_i ?_ ?_
      | refine when_i ?_ ?_
      | refine brn_not ?_
      | refine brn_dec (fun h => ?_) (fun h => ?_)
      | refine brn_int (fun h => ?_) (fun h => ?_)
      | refine brn_intne (fun h => ?_) (fun h => ?_)
      | refine brn_str (fun h => ?_) (fun h => ?_)
      | refine brn_i (fun h => ?_) (fun h => ?_)
      | with_reducible refine IdxK.mk _ rfl ?_
      | with_reducible refine idx_blI ?_ (fun hc => ?_)
      | with_reducible refine idx_bl ?_ (fun hc => ?_)
      | with_reducible refine idx_strI ?_ (fun hc => ?_)
      | with_reducible refine idx_str ?_ (fun hc => ?_)
      | with_reducible refine idx_mapDI ?_ ?_
      | with_reducible refine idx_mapD ?_ ?_
      | with_reducible refine idx_at ?_ (fun b hb => ?_)
      | refine ex_bl ?_
      | refine ex_b1 ?_ ?_
      | refine ex_b2 ?_ ?_ ?_
      | refine ex_b3 ?_ ?_ ?_ ?_
      | refine ex_b4 ?_ ?_ ?_ ?_ ?_
      | refine optK_setL ?_ ?_
      | refine optK_takeL ?_ ?_
      | with_reducible refine forceDs_i ?_
      )
  all_goals try (conv => whnf)
  all_goals try (refine Side.mk ?_; try dsimp only)
  all_goals (try simp only [Cu_eta] at *)
  all_goals first
    | (show LoopP _ _ _ _; skip)
    | (show GotoP _ _ _ _ _; skip)
    | (show EndP _ _ _ _ _ _; skip)
    | (show ∃ _, _; skip)
    | (first
          | trivial
          | omega
          | (simp (discharger := omega) only [wu8, wu16, wu32, wu64, wi32, wi64, Int.tdiv_eq_ediv_of_nonneg, Int.tmod_eq_emod_of_nonneg]; omega)
          | (simp only [List.length_append, List.length_cons, List.length_nil, bl_length, List.length_take, List.length_drop]; omega)
          | (simp (discharger := omega) [-List.getD_eq_getElem?_getD, wu8, wu16, wu32, wu64, wi32, wi64, Int.tdiv_eq_ediv_of_nonneg, Int.tmod_eq_emod_of_nonneg]; done)
          | (simp (discharger := omega) [-List.getD_eq_getElem?_getD, wu8, wu16, wu32, wu64, wi32, wi64, Int.tdiv_eq_ediv_of_nonneg, Int.tmod_eq_emod_of_nonneg]; omega))
    | skip
  all_goals first
    | exact ⟨⟨_, rfl, short_of (by omega)⟩, by omega⟩
    | exact ⟨⟨_, rfl⟩, by omega⟩
    | exact ⟨⟨_, rfl⟩, trivial, by rw [List.length_map]; have := List.length_filter_le (isF n 2) (aFds s); simp only [dePf_map]; unfold selF; omega⟩
    | (exfalso; simp_all; done)
    | (show EndP _ _ _ _ _ _
       refine EndP.mk [] ?_ <;> (repeat' (first | trivial | rfl | exact scopedL_bl _ _ | refine And.intro ?_ ?_ | refine congrArg V.str ?_ | refine congrArg (V.int _) ?_ | refine congrArg V.bool ?_ | refine congrArg (O.buf _ _) ?_ | refine congrArg O.cells ?_ | refine congrArg (V.list _ _) ?_ | refine congrArg V.agg ?_ | refine congrArg V.tuple ?_ | refine cons_eq ?_ ?_))
       done)
def sm_lTells18Y : Sm := fun args σ => match args, σ with
  | [.str s, .int .i64 n, .int .i64 w], [] => some (aFine s = 0, .bool true, none)
  | _, _ => none
theorem k_lTells18Y : SOK 3 sm_lTells18Y := by
  intro args sg pre x r he hp
  unfold sm_lTells18Y at he
  split at he <;> cases he
  · exact f_lTells18Y_1 (hp := hp) ..
theorem f_lTells18N_1 (s : List UInt8) (n w : Int) (hp : aFine s ≠ 0) : OK 3 ([.str s, .int .i64 n, .int .i64 w]) ([]) (.bool true) (none) := by
  refine funOK_of_vc (C := cx [(11, sm_pmReadN), (10, sm_works18), (12, sm_r17All), (13, sm_pmNum), (14, sm_r18Num), (15, sm_pmText), (16, sm_r18Text), (17, sm_pmJoin), (18, sm_r18Join), (20, sm_pmTexts), (21, sm_r18Each), (19, sm_sameTx)]) (good ⟨k_pmReadN, k_works18, k_r17All, k_pmNum, k_r18Num, k_pmText, k_r18Text, k_pmJoin, k_r18Join, k_pmTexts, k_r18Each, k_sameTx, trivial⟩) (fn := Tryd.f3) rfl rfl rfl rfl fun hw hs => ?_
  have hl := aFds_len s
  have hml : ((aFds s).map ePf).length = (aFds s).length := List.length_map ..
  have h0 : aFds s = [] := by unfold aFds; rw [if_neg hp]
  have hne : (aFine s != 0) = true := by simp [hp]
  have h01 : (if w = 2 then 0 else (lastF (selF (isF n w) (List.map dePf (List.map ePf (aFds s))))).num) = 0 := by rw [h0]; split <;> rfl
  repeat' (
      conv => whnf
      first
      | with_reducible refine optB_i (fun j q h => ?_) (fun h => ?_)
      | with_reducible refine nextM_i ⟨rfl, rfl⟩ (fun h => ?_) (fun j h => ?_)
      | with_reducible refine nextM_i ?_ (fun h => ?_) (fun j h => ?_)
      | refine req_i ?_ ?_
      | refine when_i ?_ ?_
      | refine brn_not ?_
      | refine brn_dec (fun h => ?_) (fun h => ?_)
      | refine brn_int (fun h => ?_) (fun h => ?_)
      | refine brn_intne (fun h => ?_) (fun h => ?_)
      | refine brn_str (fun h => ?_) (fun h => ?_)
      | refine brn_i (fun h => ?_) (fun h => ?_)
      | with_reducible refine IdxK.mk _ rfl ?_
      | with_reducible refine idx_blI ?_ (fun hc => ?_)
      | with_reducible refine idx_bl ?_ (fun hc => ?_)
      | with_reducible refine idx_strI ?_ (fun hc => ?_)
      | with_reducible refine idx_str ?_ (fun hc => ?_)
      | with_reducible refine idx_mapDI ?_ ?_
      | with_reducible refine idx_mapD ?_ ?_
      | with_reducible refine idx_at ?_ (fun b hb => ?_)
      | refine ex_bl ?_
      | refine ex_b1 ?_ ?_
      | refine ex_b2 ?_ ?_ ?_
      | refine ex_b3 ?_ ?_ ?_ ?_
      | refine ex_b4 ?_ ?_ ?_ ?_ ?_
      | refine optK_setL ?_ ?_
      | refine optK_takeL ?_ ?_
      | with_reducible refine forceDs_i ?_
      )
  all_goals try (conv => whnf)
  all_goals try (refine Side.mk ?_; try dsimp only)
  all_goals (try simp only [Cu_eta] at *)
  all_goals first
    | (show LoopP _ _ _ _; skip)
    | (show GotoP _ _ _ _ _; skip)
    | (show EndP _ _ _ _ _ _; skip)
    | (show ∃ _, _; skip)
    | (first
          | trivial
          | omega
          | (simp (discharger := omega) only [wu8, wu16, wu32, wu64, wi32, wi64, Int.tdiv_eq_ediv_of_nonneg, Int.tmod_eq_emod_of_nonneg]; omega)
          | (simp only [List.length_append, List.length_cons, List.length_nil, bl_length, List.length_take, List.length_drop]; omega)
          | (simp (discharger := omega) [-List.getD_eq_getElem?_getD, wu8, wu16, wu32, wu64, wi32, wi64, Int.tdiv_eq_ediv_of_nonneg, Int.tmod_eq_emod_of_nonneg]; done)
          | (simp (discharger := omega) [-List.getD_eq_getElem?_getD, wu8, wu16, wu32, wu64, wi32, wi64, Int.tdiv_eq_ediv_of_nonneg, Int.tmod_eq_emod_of_nonneg]; omega))
    | skip
  all_goals first
    | exact absurd h01.symm (by assumption)
    | (exfalso
       simp only [h0, hne, dePf_map, selF, lastF, anyF, joinT, List.filter_nil, List.map_nil, List.flatten_nil, List.getLastD_nil, List.isEmpty_nil, Bool.not_true, Bool.and_false] at *
       first
       | exact h rfl
       | exact absurd h (by decide)
       | (rename_i h; exact h rfl)
       | (rename_i h; exact h trivial)
       | (rename_i h1 h; exact h1 rfl)
       | (have h := ‹¬ 0 = ite _ _ _›; split at h <;> exact absurd rfl h))
    | (rw [h0]; rfl)
    | exact ⟨⟨_, rfl, short_of (by omega)⟩, by omega⟩
    | exact ⟨⟨_, rfl⟩, by omega⟩
    | exact ⟨⟨_, rfl⟩, trivial, by rw [List.length_map]; have := List.length_filter_le (isF n 2) (aFds s); simp only [dePf_map]; unfold selF; omega⟩
    | (show EndP _ _ _ _ _ _
       refine EndP.mk [] ?_ <;> (repeat' (first | trivial | rfl | exact scopedL_bl _ _ | refine And.intro ?_ ?_ | refine congrArg V.str ?_ | refine congrArg (V.int _) ?_ | refine congrArg V.bool ?_ | refine congrArg (O.buf _ _) ?_ | refine congrArg O.cells ?_ | refine congrArg (V.list _ _) ?_ | refine congrArg V.agg ?_ | refine congrArg V.tuple ?_ | refine cons_eq ?_ ?_))
       done)
def sm_lTells18N : Sm := fun args σ => match args, σ with
  | [.str s, .int .i64 n, .int .i64 w], [] => some (aFine s ≠ 0, .bool true, none)
  | _, _ => none
theorem k_lTells18N : SOK 3 sm_lTells18N := by
  intro args sg pre x r he hp
  unfold sm_lTells18N at he
  split at he <;> cases he
  · exact f_lTells18N_1 (hp := hp) ..
end Go.Proofs.YtbeejnmeakcpjaaDoor
