/-
  A field is laid and read again: the law's walk.
-/
import Derived.Test.YtbeejnmeakcpjaaDoorPRm
import Derived.Test.YtbeejnmeakcpjaaDoorPRk
set_option linter.unusedSimpArgs false
set_option linter.unusedVariables false
set_option maxHeartbeats 4000000
namespace Go.Proofs.YtbeejnmeakcpjaaDoor
open Go Go.VG
set_option maxRecDepth 100000
theorem fldB_nil {f : Pf} : fldB f = [] ↔ ¬ mayT f.no f.wi = true := by
  constructor
  · intro h q
    have := fld_ne q
    rw [h] at this
    exact absurd this (by decide)
  · intro h
    unfold fldB
    rw [if_neg h]
theorem back_all {f : Pf} (hn : 0 ≤ f.num ∧ f.num ≤ 18446744073709551615) (ht : f.text.length ≤ 18446744073709551615) :
    aFine (fldB f) = 0 ∧ aFds (fldB f) = if mayT f.no f.wi = true then [keepF f] else [] := by
  by_cases h : mayT f.no f.wi = true
  · have := all_flds [f] (fun g hg => by rw [List.mem_singleton] at hg; subst hg; exact ⟨h, hn, ht⟩)
    rw [if_pos h]
    have e : fldsB [f] = fldB f := by simp [fldsB]
    rw [e] at this
    exact this
  · rw [if_neg h, fldB_nil.mpr h]
    exact ⟨by decide +kernel, by decide +kernel⟩
theorem f_lFBack17_1 (s : List UInt8) (f : Pf) (hp : s.length ≤ 800000000 ∧ f.text.length ≤ 100000000) : OK 4 ([.str s, ePf f]) ([]) (.bool true) (none) := by
  refine funOK_of_vc (C := cx [(26, sm_works17), (22, sm_pFPut), (23, sm_r17Text), (24, sm_pFSize), (25, sm_pAll)]) (good ⟨k_works17, k_pFPut, k_r17Text, k_pFSize, k_pAll, trivial⟩) (fn := Tryd.f4) rfl rfl rfl rfl fun hw hs => ?_
  have hn : 0 ≤ f.num ∧ f.num ≤ 18446744073709551615 := hw.2.1.2.2.1
  have hlen := fldB_len (f := f) hn (by omega)
  have hba := back_all (f := f) hn (by omega)
  have hnil := @fldB_nil f
  have hdrop : List.drop ((s.length : Int)).toNat (s ++ fldB f) = fldB f := by rw [Int.toNat_natCast, List.drop_left]
  have hwl : IntKind.i64.wrap (((s.length + (fldB f).length : Nat) : Int) - s.length) = (fldB f).length := by
    have h1 := hp.1
    have h2 := hp.2
    rw [wi_i (by omega)]; omega
  obtain ⟨no, wi, num, text⟩ := f
  have hp2 : text.length ≤ 100000000 := hp.2
  by_cases hm : mayT no wi = true
  · rw [if_pos hm] at hba
    have hb := mayT_b hm
    repeat' (
      conv => whnf
      first
      | with_reducible (first | refine go1 (fun j q h => ?_) fun h => ?_ | refine go2 ⟨rfl, rfl⟩ (fun h => ?_) fun j h => ?_ | refine go2 ?_ (fun h => ?_) fun j h => ?_)
      | refine go3 ?_ ?_ | refine go4 ?_ ?_ | refine go5 ?_
      | refine go6 (fun h => ?_) fun h => ?_ | refine go7 (fun h => ?_) fun h => ?_ | refine go8 (fun h => ?_) fun h => ?_ | refine go9 (fun h => ?_) fun h => ?_ | refine goA (fun h => ?_) fun h => ?_
      | with_reducible (first | refine IdxK.mk _ rfl ?_ | refine goB ?_ fun hc => ?_ | refine goC ?_ fun hc => ?_ | refine goD ?_ fun hc => ?_ | refine goE ?_ fun hc => ?_ | refine goF ?_ ?_ | refine goG ?_ ?_ | refine goH ?_ fun b hb => ?_)
      | refine goI ?_ | refine goJ ?_ ?_ | refine goK ?_ ?_ ?_ | refine goL ?_ ?_ ?_ ?_ | refine goM ?_ ?_ ?_ ?_ ?_ | refine goN ?_ ?_ | refine goO ?_ ?_
      | with_reducible refine goP ?_)
    all_goals try conv => whnf
    all_goals try (refine Side.mk ?_; try dsimp only)
    · exact ⟨trivial, by rw [bl_length]; omega, by omega⟩
    refine ⟨s ++ fldB ⟨no, wi, num, text⟩, by rw [bl_append], ?_⟩
    repeat' (
      conv => whnf
      first
      | with_reducible (first | refine go1 (fun j q h => ?_) fun h => ?_ | refine go2 ⟨rfl, rfl⟩ (fun h => ?_) fun j h => ?_ | refine go2 ?_ (fun h => ?_) fun j h => ?_)
      | refine go3 ?_ ?_ | refine go4 ?_ ?_ | refine go5 ?_
      | refine go6 (fun h => ?_) fun h => ?_ | refine go7 (fun h => ?_) fun h => ?_ | refine go8 (fun h => ?_) fun h => ?_ | refine go9 (fun h => ?_) fun h => ?_ | refine goA (fun h => ?_) fun h => ?_
      | with_reducible (first | refine IdxK.mk _ rfl ?_ | refine goB ?_ fun hc => ?_ | refine goC ?_ fun hc => ?_ | refine goD ?_ fun hc => ?_ | refine goE ?_ fun hc => ?_ | refine goF ?_ ?_ | refine goG ?_ ?_ | refine goH ?_ fun b hb => ?_)
      | refine goI ?_ | refine goJ ?_ ?_ | refine goK ?_ ?_ ?_ | refine goL ?_ ?_ ?_ ?_ | refine goM ?_ ?_ ?_ ?_ ?_ | refine goN ?_ ?_ | refine goO ?_ ?_
      | with_reducible refine goP ?_)
    all_goals try conv => whnf
    all_goals try (refine Side.mk ?_; try dsimp only)
    all_goals (try simp only [List.length_map, List.length_append, hdrop, hwl, hba.1, hba.2] at *)
    all_goals first
      | omega
      | exact ⟨trivial, by omega⟩
      | (exfalso; simp at *; done)
      | (show EndP _ _ _ _ _ _
         refine EndP.mk [] ?_ <;> (repeat' first | trivial | rfl | exact eqS _ _ | refine And.intro ?_ ?_ | refine eqA ?_ | refine eqB ?_ | refine eqC ?_ | refine eqD ?_ | refine eqE ?_ | refine eqF ?_ | refine eqG ?_ | refine eqH ?_ | refine eqI ?_ ?_)
         done)
      | (exfalso
         have h := ‹(bif true then _ else _) = false›
         first
         | (simp [keepF] at h; omega)
         | (subst_vars; simp [keepF, Int.tmod_eq_emod_of_nonneg hn.1] at h; done)
         | (subst_vars; simp [keepF, Int.tmod_eq_emod_of_nonneg hn.1] at h; omega))
      | skip
  · rw [if_neg hm] at hba
    have hz := hnil.mpr hm
    repeat' (
      conv => whnf
      first
      | with_reducible (first | refine go1 (fun j q h => ?_) fun h => ?_ | refine go2 ⟨rfl, rfl⟩ (fun h => ?_) fun j h => ?_ | refine go2 ?_ (fun h => ?_) fun j h => ?_)
      | refine go3 ?_ ?_ | refine go4 ?_ ?_ | refine go5 ?_
      | refine go6 (fun h => ?_) fun h => ?_ | refine go7 (fun h => ?_) fun h => ?_ | refine go8 (fun h => ?_) fun h => ?_ | refine go9 (fun h => ?_) fun h => ?_ | refine goA (fun h => ?_) fun h => ?_
      | with_reducible (first | refine IdxK.mk _ rfl ?_ | refine goB ?_ fun hc => ?_ | refine goC ?_ fun hc => ?_ | refine goD ?_ fun hc => ?_ | refine goE ?_ fun hc => ?_ | refine goF ?_ ?_ | refine goG ?_ ?_ | refine goH ?_ fun b hb => ?_)
      | refine goI ?_ | refine goJ ?_ ?_ | refine goK ?_ ?_ ?_ | refine goL ?_ ?_ ?_ ?_ | refine goM ?_ ?_ ?_ ?_ ?_ | refine goN ?_ ?_ | refine goO ?_ ?_
      | with_reducible refine goP ?_)
    all_goals try conv => whnf
    all_goals try (refine Side.mk ?_; try dsimp only)
    · exact ⟨trivial, by rw [bl_length]; omega, by omega⟩
    refine ⟨s ++ fldB ⟨no, wi, num, text⟩, by rw [bl_append], ?_⟩
    repeat' (
      conv => whnf
      first
      | with_reducible (first | refine go1 (fun j q h => ?_) fun h => ?_ | refine go2 ⟨rfl, rfl⟩ (fun h => ?_) fun j h => ?_ | refine go2 ?_ (fun h => ?_) fun j h => ?_)
      | refine go3 ?_ ?_ | refine go4 ?_ ?_ | refine go5 ?_
      | refine go6 (fun h => ?_) fun h => ?_ | refine go7 (fun h => ?_) fun h => ?_ | refine go8 (fun h => ?_) fun h => ?_ | refine go9 (fun h => ?_) fun h => ?_ | refine goA (fun h => ?_) fun h => ?_
      | with_reducible (first | refine IdxK.mk _ rfl ?_ | refine goB ?_ fun hc => ?_ | refine goC ?_ fun hc => ?_ | refine goD ?_ fun hc => ?_ | refine goE ?_ fun hc => ?_ | refine goF ?_ ?_ | refine goG ?_ ?_ | refine goH ?_ fun b hb => ?_)
      | refine goI ?_ | refine goJ ?_ ?_ | refine goK ?_ ?_ ?_ | refine goL ?_ ?_ ?_ ?_ | refine goM ?_ ?_ ?_ ?_ ?_ | refine goN ?_ ?_ | refine goO ?_ ?_
      | with_reducible refine goP ?_)
    all_goals try conv => whnf
    all_goals try (refine Side.mk ?_; try dsimp only)
    all_goals (try simp only [List.length_map, List.length_append, hdrop, hwl, hba.1, hba.2] at *)
    all_goals first
      | omega
      | exact ⟨trivial, by omega⟩
      | (exfalso; simp at *; done)
      | (show EndP _ _ _ _ _ _
         refine EndP.mk [] ?_ <;> (repeat' first | trivial | rfl | exact eqS _ _ | refine And.intro ?_ ?_ | refine eqA ?_ | refine eqB ?_ | refine eqC ?_ | refine eqD ?_ | refine eqE ?_ | refine eqF ?_ | refine eqG ?_ | refine eqH ?_ | refine eqI ?_ ?_)
         done)
      | (exfalso
         have h := ‹(bif true then _ else _) = false›
         first
         | (simp [keepF] at h; omega)
         | (subst_vars; simp [keepF, Int.tmod_eq_emod_of_nonneg hn.1] at h; done)
         | (subst_vars; simp [keepF, Int.tmod_eq_emod_of_nonneg hn.1] at h; omega))
      | skip
def sm_lFBack17 : Sm := fun args σ => match args, σ with
  | [.str s, .agg [.int .i64 n_f, .int .i64 w_f, .int .u64 u_f, .str t_f]], [] => some (True ∧ (s.length ≤ 800000000 ∧ (Pf.mk n_f w_f u_f t_f).text.length ≤ 100000000), .bool true, none)
  | _, _ => none
theorem k_lFBack17 : SOK 4 sm_lFBack17 := by
  intro args sg pre x r he hp
  unfold sm_lFBack17 at he
  split at he <;> cases he
  · rw [viewPf (hp).1]; exact f_lFBack17_1 (hp := hp.2) ..
theorem f_lJoins17_1 (s t : List UInt8) (hp : True) : OK 5 ([.str s, .str t]) ([]) (.bool true) (none) := by
  refine funOK_of_vc (C := cx [(26, sm_works17), (25, sm_pAll), (28, sm_lBack17), (27, sm_r17Same)]) (good ⟨k_works17, k_pAll, k_lBack17, k_r17Same, trivial⟩) (fn := Tryd.f5) rfl rfl rfl rfl fun hw hs => ?_
  have h1 := aFds_len s
  have h2 := aFds_len t
  have h3 := all_app s t
  have h3a := h3.1
  have h3b : aFine s = 0 → aFine (s ++ t) = aFine t := fun h => (h3.2 h).1
  have h3c : aFine s = 0 → aFine t = 0 → aFds (s ++ t) = aFds s ++ aFds t := fun h k => (h3.2 h).2 k
  have h5 : aFine (s ++ t) ≠ 0 → (aFds (s ++ t)).length = 0 := fun h => by unfold aFds; rw [if_neg h]; rfl
  have h6 : (aFds (s ++ t)).length ≤ (s ++ t).length := aFds_len _
  rw [List.length_append] at h6
  repeat' (
    conv => whnf
    first
    | with_reducible (first | refine go1 (fun j q h => ?_) fun h => ?_ | refine go2 ⟨rfl, rfl⟩ (fun h => ?_) fun j h => ?_ | refine go2 ?_ (fun h => ?_) fun j h => ?_)
    | refine go3 ?_ ?_ | refine go4 ?_ ?_ | refine go5 ?_
    | refine go6 (fun h => ?_) fun h => ?_ | refine go7 (fun h => ?_) fun h => ?_ | refine go8 (fun h => ?_) fun h => ?_ | refine go9 (fun h => ?_) fun h => ?_ | refine goA (fun h => ?_) fun h => ?_
    | with_reducible (first | refine IdxK.mk _ rfl ?_ | refine goB ?_ fun hc => ?_ | refine goC ?_ fun hc => ?_ | refine goD ?_ fun hc => ?_ | refine goE ?_ fun hc => ?_ | refine goF ?_ ?_ | refine goG ?_ ?_ | refine goH ?_ fun b hb => ?_)
    | refine goI ?_ | refine goJ ?_ ?_ | refine goK ?_ ?_ ?_ | refine goL ?_ ?_ ?_ ?_ | refine goM ?_ ?_ ?_ ?_ ?_ | refine goN ?_ ?_ | refine goO ?_ ?_
    | with_reducible refine goP ?_)
  all_goals try conv => whnf
  all_goals try (refine Side.mk ?_; try dsimp only)
  all_goals (try simp only [List.nil_append, List.length_append, List.length_map, List.length_nil] at *)
  all_goals first
    | omega
    | exact .inl rfl
    | exact .inl trivial
    | exact ⟨⟨_, rfl⟩, by omega⟩
    | exact ⟨⟨aFds s ++ aFds t, by rw [List.map_append]⟩, by omega⟩
    | exact ⟨⟨_, rfl⟩, by rw [h3c (by assumption) (by assumption), List.map_append], by omega⟩
    | (show EndP _ _ _ _ _ _
       refine EndP.mk [] ?_ <;> (repeat' first | trivial | rfl | exact eqS _ _ | refine And.intro ?_ ?_ | refine eqA ?_ | refine eqB ?_ | refine eqC ?_ | refine eqD ?_ | refine eqE ?_ | refine eqF ?_ | refine eqG ?_ | refine eqH ?_ | refine eqI ?_ ?_)
       done)
    | (exfalso; omega)
    | skip
def sm_lJoins17 : Sm := fun args σ => match args, σ with
  | [.str s, .str t], [] => some (True, .bool true, none)
  | _, _ => none
theorem k_lJoins17 : SOK 5 sm_lJoins17 := by
  intro args sg pre x r he hp
  unfold sm_lJoins17 at he
  split at he <;> cases he
  · exact f_lJoins17_1 (hp := hp) ..
end Go.Proofs.YtbeejnmeakcpjaaDoor
