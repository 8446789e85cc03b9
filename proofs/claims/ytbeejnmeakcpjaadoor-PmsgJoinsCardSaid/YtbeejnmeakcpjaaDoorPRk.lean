/-
  The examples of the laws of fields.
-/
import Derived.Test.YtbeejnmeakcpjaaDoorPRj
import Derived.Test.YtbeejnmeakcpjaaDoorPRp
set_option linter.unusedSimpArgs false
set_option linter.unusedVariables false
set_option maxHeartbeats 4000000
namespace Go.Proofs.YtbeejnmeakcpjaaDoor
open Go Go.VG
set_option maxRecDepth 100000
def w1 : List UInt8 := [8, 150, 1, 18, 2, 97, 98]
def w2 : List UInt8 := [18, 3, 97, 98]
def wf2 : Pf := ⟨2, 2, 0, [97, 98]⟩
def wF : List UInt8 → List Pf
  | [_, _, _, _, _, _, _] => [⟨1, 0, 150, []⟩, ⟨2, 2, 0, [97, 98]⟩]
  | _ => []
def wC : List UInt8 → Int
  | [_, _, _, _, _, _, _] => 0
  | _ => 1
theorem w1_all : aFds w1 = wF w1 ∧ aFine w1 = wC w1 := by
  constructor
  · have h : (aFds w1).map (fun f => (f.no, f.wi, f.num, f.text)) = (wF w1).map (fun f => (f.no, f.wi, f.num, f.text)) := by decide +kernel
    exact List.map_inj_right (fun a b q => by cases a; cases b; cases q; rfl) |>.mp h
  · decide +kernel
theorem w2_all : aFds w2 = wF w2 ∧ aFine w2 = wC w2 := by
  have h : aFine w2 = 1 := by decide +kernel
  exact ⟨by unfold aFds; rw [h, if_neg (by decide)]; rfl, h⟩
theorem w_fld : fldB wf2 = [18, 2, 97, 98] := by decide +kernel
def sm_allW : Sm := fun args σ => match args, σ with
  | [.str s], [] => some (s = w1 ∨ s = w2, .tuple [.buf 0, .int .i64 (wC s)], some [.buf 4 0 ((wF s).map ePf)])
  | _, _ => none
theorem k_allW : SOK 25 sm_allW := by
  intro args sg pre x r he hp
  unfold sm_allW at he
  split at he <;> cases he
  rcases hp with rfl | rfl
  · have h := f_pAll_1 w1 (by decide)
    rw [w1_all.1, w1_all.2] at h
    exact h
  · have h := f_pAll_1 w2 (by decide)
    rw [w2_all.1, w2_all.2] at h
    exact h
def sm_putW (F : Pf → List UInt8) : Sm := fun args σ => match args, σ with
  | [.buf 0, .agg [.int .i64 n, .int .i64 w, .int .u64 u, .str t]], [.buf 1 0 l] => some (l.length ≤ 800000000 ∧ t.length ≤ 1000000000, .buf 1, some [.buf 1 0 l, .buf 1 0 (l ++ bl (F ⟨n, w, u, t⟩))])
  | _, _ => none
theorem k_putW {F : Pf → List UInt8} (hF : ∀ f, F f = fldB f) : SOK 22 (sm_putW F) := by
  intro args sg pre x r he hp
  unfold sm_putW at he
  split at he <;> cases he
  rw [hF]
  exact f_pFPut_1 _ ⟨_, _, _, _⟩ hp
def sm_sizeW (F : Pf → List UInt8) : Sm := fun args σ => match args, σ with
  | [.agg [.int .i64 n, .int .i64 w, .int .u64 u, .str t]], [] => some (t.length ≤ 1000000000, .int .i64 ((F ⟨n, w, u, t⟩).length : Nat), none)
  | _, _ => none
theorem k_sizeW {F : Pf → List UInt8} (hF : ∀ f, F f = fldB f) : SOK 24 (sm_sizeW F) := by
  intro args sg pre x r he hp
  unfold sm_sizeW at he
  split at he <;> cases he
  rw [hF]
  exact f_pFSize_1 ⟨_, _, _, _⟩ hp
theorem f_works17 {F : Pf → List UInt8} (hF : ∀ f, F f = fldB f) : OK 26 [] [] (.bool true) none := by
  refine funOK_of_vc (C := cxl [(25, sm_allW), (22, sm_putW F), (24, sm_sizeW F)] [41])
    (goodl ⟨k_allW, k_putW hF, k_sizeW hF, trivial⟩) (fn := Tryd.f26) rfl rfl rfl rfl fun hw hs => ?_
  have h2 : F ⟨2, 2, 0, [97, 98]⟩ = [18, 2, 97, 98] := by rw [hF]; exact w_fld
  repeat' (
    conv => whnf
    first
    | with_reducible (first | refine go1 (fun j q h => ?_) fun h => ?_ | refine go2 ⟨rfl, rfl⟩ (fun h => ?_) fun j h => ?_ | refine go2 ?_ (fun h => ?_) fun j h => ?_)
    | refine go3 ?_ ?_ | refine go4 ?_ ?_ | refine go5 ?_
    | refine go6 (fun h => ?_) fun h => ?_ | refine go7 (fun h => ?_) fun h => ?_ | refine go8 (fun h => ?_) fun h => ?_ | refine go9 (fun h => ?_) fun h => ?_ | refine goA (fun h => ?_) fun h => ?_
    | with_reducible (first | refine IdxK.mk _ rfl ?_ | refine goB ?_ fun hc => ?_ | refine goC ?_ fun hc => ?_ | refine goD ?_ fun hc => ?_ | refine goE ?_ fun hc => ?_ | refine goF ?_ ?_ | refine goG ?_ ?_ | refine goH ?_ fun b hb => ?_)
    | refine goI ?_ | refine goJ ?_ ?_ | refine goK ?_ ?_ ?_ | refine goL ?_ ?_ ?_ ?_ | refine goM ?_ ?_ ?_ ?_ ?_ | refine goN ?_ ?_ | refine goO ?_ ?_
    | with_reducible refine goP ?_)
  all_goals try conv => whnf
  all_goals try (refine Side.mk ?_; try dsimp only)
  · exact .inl rfl
  · exact .inr rfl
  · decide
  · decide
  · decide
  · refine ⟨112 :: F ⟨2, 2, 0, [97, 98]⟩, rfl, ?_⟩
    rw [h2]
    repeat' (
      conv => whnf
      first
      | with_reducible (first | refine go1 (fun j q h => ?_) fun h => ?_ | refine go2 ⟨rfl, rfl⟩ (fun h => ?_) fun j h => ?_ | refine go2 ?_ (fun h => ?_) fun j h => ?_)
      | refine go3 ?_ ?_ | refine go4 ?_ ?_ | refine go5 ?_
      | refine go6 (fun h => ?_) fun h => ?_ | refine go7 (fun h => ?_) fun h => ?_ | refine go8 (fun h => ?_) fun h => ?_ | refine go9 (fun h => ?_) fun h => ?_ | refine goA (fun h => ?_) fun h => ?_
      | with_reducible (first | refine IdxK.mk _ rfl ?_ | refine goB ?_ fun hc => ?_ | refine goC ?_ fun hc => ?_ | refine goD ?_ fun hc => ?_ | refine goE ?_ fun hc => ?_ | refine goF ?_ ?_ | refine goG ?_ ?_ | refine goH ?_ fun b hb => ?_)
      | refine goI ?_ | refine goJ ?_ ?_ | refine goK ?_ ?_ ?_ | refine goL ?_ ?_ ?_ ?_ | refine goM ?_ ?_ ?_ ?_ ?_ | refine goN ?_ ?_ | refine goO ?_ ?_
      | with_reducible refine goP ?_)
    all_goals try conv => whnf
    all_goals try (refine Side.mk ?_; try dsimp only)
    · decide
    · refine EndP.mk [] ?_ <;> (repeat' first | trivial | rfl | exact eqS _ _ | refine And.intro ?_ ?_ | refine eqA ?_ | refine eqB ?_ | refine eqC ?_ | refine eqD ?_ | refine eqE ?_ | refine eqF ?_ | refine eqG ?_ | refine eqH ?_ | refine eqI ?_ ?_)
      rw [h2]
      rfl
theorem f_works17_1  (hp : True) : OK 26 ([]) ([]) (.bool true) (none) := by
  exact f_works17 (F := fldB) (fun _ => rfl)
def sm_works17 : Sm := fun args σ => match args, σ with
  | [], [] => some (True, .bool true, none)
  | _, _ => none
theorem k_works17 : SOK 26 sm_works17 := by
  intro args sg pre x r he hp
  unfold sm_works17 at he
  split at he <;> cases he
  · exact f_works17_1 (hp := hp) ..
theorem f_lAll17_1 (s : List UInt8) (hp : True) : OK 6 ([.str s]) ([]) (.bool true) (none) := by
  refine funOK_of_vc (C := cx [(26, sm_works17), (25, sm_pAll), (12, sm_r17All), (29, sm_cNew), (30, sm_r01New), (31, sm_pNext), (32, sm_r17Next), (28, sm_lBack17), (27, sm_r17Same), (33, sm_cErr), (34, sm_cAt)]) (good ⟨k_works17, k_pAll, k_r17All, k_cNew, k_r01New, k_pNext, k_r17Next, k_lBack17, k_r17Same, k_cErr, k_cAt, trivial⟩) (fn := Tryd.f6) rfl rfl rfl rfl fun hw hs => ?_
  have hl := aFds_len s
  have hml : ((aFds s).map ePf).length = (aFds s).length := List.length_map ..
  have hnew : (Cu.new s).ok := ⟨Nat.zero_le _, Nat.le_refl _⟩
  have hd := dnxt_eq (.new s)
  repeat' (
    conv => whnf
    first
    | with_reducible (first | refine go1 (fun j q h => ?_) fun h => ?_ | refine go2 ⟨rfl, rfl⟩ (fun h => ?_) fun j h => ?_ | refine go2 ?_ (fun h => ?_) fun j h => ?_)
    | refine go3 ?_ ?_ | refine go4 ?_ ?_ | refine go5 ?_
    | refine go6 (fun h => ?_) fun h => ?_ | refine go7 (fun h => ?_) fun h => ?_ | refine go8 (fun h => ?_) fun h => ?_ | refine go9 (fun h => ?_) fun h => ?_ | refine goA (fun h => ?_) fun h => ?_
    | with_reducible (first | refine IdxK.mk _ rfl ?_ | refine goB ?_ fun hc => ?_ | refine goC ?_ fun hc => ?_ | refine goD ?_ fun hc => ?_ | refine goE ?_ fun hc => ?_ | refine goF ?_ ?_ | refine goG ?_ ?_ | refine goH ?_ fun b hb => ?_)
    | refine goI ?_ | refine goJ ?_ ?_ | refine goK ?_ ?_ ?_ | refine goL ?_ ?_ ?_ ?_ | refine goM ?_ ?_ ?_ ?_ ?_ | refine goN ?_ ?_ | refine goO ?_ ?_
    | with_reducible refine goP ?_)
  all_goals try conv => whnf
  all_goals try (refine Side.mk ?_; try dsimp only)
  all_goals (try simp only [Cu_eta] at *)
  all_goals first
    | (show LoopP _ _ _ _; skip)
    | (show GotoP _ _ _ _ _; skip)
    | (show EndP _ _ _ _ _ _; skip)
    | (show ∃ _, _; skip)
    | (first
          | trivial
          | omega
          | (simp (discharger := omega) only [wu8, wu16, wu32, wu64, wi32, wi64, Int.tdiv_eq_ediv_of_nonneg, Int.tmod_eq_emod_of_nonneg]; omega)
          | (simp only [List.length_append, List.length_cons, List.length_nil, bl_length, List.length_take, List.length_drop]; omega)
          | (simp (discharger := omega) [-List.getD_eq_getElem?_getD, wu8, wu16, wu32, wu64, wi32, wi64, Int.tdiv_eq_ediv_of_nonneg, Int.tmod_eq_emod_of_nonneg]; done)
          | (simp (discharger := omega) [-List.getD_eq_getElem?_getD, wu8, wu16, wu32, wu64, wi32, wi64, Int.tdiv_eq_ediv_of_nonneg, Int.tmod_eq_emod_of_nonneg]; omega))
    | skip
  all_goals first
    | exact ⟨trivial, hnew, by show s.length ≤ _; omega⟩
    | exact ⟨trivial, hnew, rfl, by show s.length ≤ _; omega⟩
    | exact ⟨⟨_, rfl⟩, by omega⟩
    | exact ⟨⟨_, rfl⟩, trivial, by omega⟩
    | exact absurd trivial (by assumption)
    | exact absurd hd.1.symm (by assumption)
    | exact absurd (show ((Cu.new s).nxtC.p : Int) = (Cu.new s).dnxtC.p by rw [hd.2.2 (by omega)]) (by assumption)
    | (have h := ‹(bif true then _ else _) = false›
       rw [hd.2.1] at h
       simp at h
       done)
    | (show EndP _ _ _ _ _ _
       refine EndP.mk [] ?_ <;> (repeat' first | trivial | rfl | exact eqS _ _ | refine And.intro ?_ ?_ | refine eqA ?_ | refine eqB ?_ | refine eqC ?_ | refine eqD ?_ | refine eqE ?_ | refine eqF ?_ | refine eqG ?_ | refine eqH ?_ | refine eqI ?_ ?_)
       done)
def sm_lAll17 : Sm := fun args σ => match args, σ with
  | [.str s], [] => some (True, .bool true, none)
  | _, _ => none
theorem k_lAll17 : SOK 6 sm_lAll17 := by
  intro args sg pre x r he hp
  unfold sm_lAll17 at he
  split at he <;> cases he
  · exact f_lAll17_1 (hp := hp) ..
end Go.Proofs.YtbeejnmeakcpjaaDoor
