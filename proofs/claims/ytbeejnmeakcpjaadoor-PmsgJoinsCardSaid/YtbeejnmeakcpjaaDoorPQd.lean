/-
  What a message's fields say together: the examples, and the law's walk.
-/
import Derived.Test.YtbeejnmeakcpjaaDoorPQc
import Derived.Test.YtbeejnmeakcpjaaDoorPRo
set_option linter.unusedSimpArgs false
set_option linter.unusedVariables false
set_option maxHeartbeats 4000000
namespace Go.Proofs.YtbeejnmeakcpjaaDoor
open Go Go.VG
set_option maxRecDepth 100000
def m1 : List UInt8 := [10, 1, 97, 10, 1, 98, 16, 1, 16, 2]
def m2 : List UInt8 := [11]
def mF : List Pf := [⟨1, 2, 0, [97]⟩, ⟨1, 2, 0, [98]⟩, ⟨2, 0, 1, []⟩, ⟨2, 0, 2, []⟩]
theorem m1_all : aFds m1 = mF ∧ aFine m1 = 0 := by
  constructor
  · have h : (aFds m1).map (fun f => (f.no, f.wi, f.num, f.text)) = mF.map (fun f => (f.no, f.wi, f.num, f.text)) := by decide +kernel
    exact List.map_inj_right (fun a b q => by cases a; cases b; cases q; rfl) |>.mp h
  · decide +kernel
theorem m2_all : aFine m2 = 14 := by decide +kernel
theorem text_le (c : Cu) (h : c.ok) : c.nxt.text.length ≤ c.s.length := by
  have h1 := tag_ok h
  have hv := vread_ok h1.1
  have ht : c.tag.2.text.1.length ≤ c.s.length := by
    unfold Cu.text
    dsimp only
    split
    · exact Nat.zero_le _
    · unfold Cu.takeV
      split
      · have : (c.tag.2.vread.2.s.drop c.tag.2.vread.2.p).length = c.tag.2.vread.2.s.length - c.tag.2.vread.2.p := List.length_drop ..
        have e : c.tag.2.vread.2.s = c.s := hv.2.1.trans h1.2.1
        rw [List.length_take, this, e]; omega
      · exact Nat.zero_le _
  unfold Cu.nxt nxV
  split
  · exact Nat.zero_le _
  · repeat' split
    all_goals first
      | exact Nat.zero_le _
      | exact ht
theorem each_text : ∀ (n : Nat) (c : Cu) (acc : List Pf), c.ok → (∀ f ∈ acc, f.text.length ≤ c.s.length) → ∀ f ∈ (eachGo n c acc).2, f.text.length ≤ c.s.length
  | 0, c, acc, _, h2 => by rw [eachGo]; exact h2
  | n + 1, c, acc, h, h2 => by
    rw [eachGo]
    have hk := nxt_ok h
    split
    · split
      · exact h2
      · have := each_text n c.nxtC (acc ++ [c.nxt]) hk.1 (fun f hf => by
          rw [hk.2.1]
          rcases List.mem_append.1 hf with hf | hf
          · exact h2 f hf
          · rw [List.mem_singleton] at hf; subst hf; exact text_le c h)
        rw [hk.2.1] at this
        exact this
    · exact h2
theorem short_of {s : List UInt8} (h : s.length ≤ 100000) : shortF (aFds s) := by
  unfold aFds
  split
  · intro f hf
    have := each_text _ (Cu.new s) [] ⟨Nat.zero_le _, Nat.le_refl _⟩ (fun f hf => by cases hf) f hf
    exact Nat.le_trans this h
  · intro f hf; cases hf
theorem mF_short : shortF mF := by
  intro f hf
  have h : ∀ f ∈ mF, f.text.length ≤ 100000 := by decide
  exact h f hf
def sm_readW (L : List Pf) : Sm := fun args σ => match args, σ with
  | [.str [a]], [] => some ([a] = m2, .tuple [.nilptr, .int .i64 14], none)
  | [.str s], [] => some (s = m1, .tuple [.ptr 0 0, .int .i64 0], some [.cells [.buf 1], .buf 4 0 (L.map ePf)])
  | _, _ => none
theorem k_readW {L : List Pf} (hL : L = mF) : SOK 11 (sm_readW L) := by
  intro args sg pre x r he hp
  unfold sm_readW at he
  split at he <;> cases he
  · rw [hp]
    have h := f_pmReadN_1 m2 ⟨by decide, by rw [m2_all]; decide⟩
    rw [m2_all] at h
    exact h
  · subst hL
    subst hp
    have h := f_pmReadY_1 m1 ⟨by decide, m1_all.2⟩
    rw [m1_all.1] at h
    exact h
theorem f_works18 {L : List Pf} (hL : L = mF) : OK 10 [] [] (.bool true) none := by
  refine funOK_of_vc (C := cxl [(11, sm_readW L), (17, sm_pmJoin), (15, sm_pmText), (13, sm_pmNum), (35, sm_pmLast), (20, sm_pmTexts), (37, sm_pmRest)] [54, 94])
    (goodl ⟨k_readW hL, k_pmJoin, k_pmText, k_pmNum, k_pmLast, k_pmTexts, k_pmRest, trivial⟩) (fn := Tryd.f10) rfl rfl rfl rfl fun hw hs => ?_
  repeat' (
    conv => whnf
    first
    | with_reducible (first | refine go1 (fun j q h => ?_) fun h => ?_ | refine go2 ⟨rfl, rfl⟩ (fun h => ?_) fun j h => ?_ | refine go2 ?_ (fun h => ?_) fun j h => ?_)
    | refine go3 ?_ ?_ | refine go4 ?_ ?_ | refine go5 ?_
    | refine go6 (fun h => ?_) fun h => ?_ | refine go7 (fun h => ?_) fun h => ?_ | refine go8 (fun h => ?_) fun h => ?_ | refine go9 (fun h => ?_) fun h => ?_ | refine goA (fun h => ?_) fun h => ?_
    | with_reducible (first | refine IdxK.mk _ rfl ?_ | refine goB ?_ fun hc => ?_ | refine goC ?_ fun hc => ?_ | refine goD ?_ fun hc => ?_ | refine goE ?_ fun hc => ?_ | refine goF ?_ ?_ | refine goG ?_ ?_ | refine goH ?_ fun b hb => ?_)
    | refine goI ?_ | refine goJ ?_ ?_ | refine goK ?_ ?_ ?_ | refine goL ?_ ?_ ?_ ?_ | refine goM ?_ ?_ ?_ ?_ ?_ | refine goN ?_ ?_ | refine goO ?_ ?_
    | with_reducible refine goP ?_)
  all_goals try conv => whnf
  all_goals try (refine Side.mk ?_; try dsimp only)
  all_goals first
    | rfl
    | exact ⟨⟨L, rfl, by subst hL; exact mF_short⟩, by subst hL; decide⟩
    | exact ⟨⟨L, rfl, by subst hL; exact mF_short⟩, by subst hL; decide, ⟨[(1, 2), (2, 0)], rfl⟩, by decide⟩
    | exact ⟨⟨L, rfl⟩, by subst hL; decide, ⟨[(2, 0)], rfl⟩, by decide⟩
    | (show EndP _ _ _ _ _ _
       refine EndP.mk [] ?_ <;> (repeat' first | trivial | rfl | exact eqS _ _ | refine And.intro ?_ ?_ | refine eqA ?_ | refine eqB ?_ | refine eqC ?_ | refine eqD ?_ | refine eqE ?_ | refine eqF ?_ | refine eqG ?_ | refine eqH ?_ | refine eqI ?_ ?_)
       done)
    | (exfalso
       simp only [dePf_map] at *
       subst hL
       first
       | exact h (by decide)
       | exact absurd h (by decide)
       | (rename_i h; exact h (by decide))
       | (rename_i h; exact absurd h (by decide))
       | exact absurd h (by decide)
      )
theorem f_works18_1  (hp : True) : OK 10 ([]) ([]) (.bool true) (none) := by
  exact f_works18 rfl
def sm_works18 : Sm := fun args σ => match args, σ with
  | [], [] => some (True, .bool true, none)
  | _, _ => none
theorem k_works18 : SOK 10 sm_works18 := by
  intro args sg pre x r he hp
  unfold sm_works18 at he
  split at he <;> cases he
  · exact f_works18_1 (hp := hp) ..
theorem f_lTells18Y_1 (s : List UInt8) (n w : Int) (hp : aFine s = 0) : OK 3 ([.str s, .int .i64 n, .int .i64 w]) ([]) (.bool true) (none) := by
  refine funOK_of_vc (C := cx [(11, sm_pmReadY), (10, sm_works18), (12, sm_r17All), (13, sm_pmNum), (14, sm_r18Num), (15, sm_pmText), (16, sm_r18Text), (17, sm_pmJoin), (18, sm_r18Join), (20, sm_pmTexts), (21, sm_r18Each), (19, sm_sameTx)]) (good ⟨k_pmReadY, k_works18, k_r17All, k_pmNum, k_r18Num, k_pmText, k_r18Text, k_pmJoin, k_r18Join, k_pmTexts, k_r18Each, k_sameTx, trivial⟩) (fn := Tryd.f3) rfl rfl rfl rfl fun hw hs => ?_
  have hl := aFds_len s
  have hml : ((aFds s).map ePf).length = (aFds s).length := List.length_map ..
  repeat' (
    conv => whnf
    first
    | with_reducible (first | refine go1 (fun j q h => ?_) fun h => ?_ | refine go2 ⟨rfl, rfl⟩ (fun h => ?_) fun j h => ?_ | refine go2 ?_ (fun h => ?_) fun j h => ?_)
    | refine go3 ?_ ?_ | refine go4 ?_ ?_ | refine go5 ?_
    | refine go6 (fun h => ?_) fun h => ?_ | refine go7 (fun h => ?_) fun h => ?_ | refine go8 (fun h => ?_) fun h => ?_ | refine go9 (fun h => ?_) fun h => ?_ | refine goA (fun h => ?_) fun h => ?_
    | with_reducible (first | refine IdxK.mk _ rfl ?_ | refine goB ?_ fun hc => ?_ | refine goC ?_ fun hc => ?_ | refine goD ?_ fun hc => ?_ | refine goE ?_ fun hc => ?_ | refine goF ?_ ?_ | refine goG ?_ ?_ | refine goH ?_ fun b hb => ?_)
    | refine goI ?_ | refine goJ ?_ ?_ | refine goK ?_ ?_ ?_ | refine goL ?_ ?_ ?_ ?_ | refine goM ?_ ?_ ?_ ?_ ?_ | refine goN ?_ ?_ | refine goO ?_ ?_
    | with_reducible refine goP ?_)
  all_goals try conv => whnf
  all_goals try (refine Side.mk ?_; try dsimp only)
  all_goals (try simp only [Cu_eta] at *)
  all_goals first
    | (show LoopP _ _ _ _; skip)
    | (show GotoP _ _ _ _ _; skip)
    | (show EndP _ _ _ _ _ _; skip)
    | (show ∃ _, _; skip)
    | (first
          | trivial
          | omega
          | (simp (discharger := omega) only [wu8, wu16, wu32, wu64, wi32, wi64, Int.tdiv_eq_ediv_of_nonneg, Int.tmod_eq_emod_of_nonneg]; omega)
          | (simp only [List.length_append, List.length_cons, List.length_nil, bl_length, List.length_take, List.length_drop]; omega)
          | (simp (discharger := omega) [-List.getD_eq_getElem?_getD, wu8, wu16, wu32, wu64, wi32, wi64, Int.tdiv_eq_ediv_of_nonneg, Int.tmod_eq_emod_of_nonneg]; done)
          | (simp (discharger := omega) [-List.getD_eq_getElem?_getD, wu8, wu16, wu32, wu64, wi32, wi64, Int.tdiv_eq_ediv_of_nonneg, Int.tmod_eq_emod_of_nonneg]; omega))
    | skip
  all_goals first
    | exact ⟨⟨_, rfl, short_of (by omega)⟩, by omega⟩
    | exact ⟨⟨_, rfl⟩, by omega⟩
    | exact ⟨⟨_, rfl⟩, trivial, by rw [List.length_map]; have := List.length_filter_le (isF n 2) (aFds s); simp only [dePf_map]; unfold selF; omega⟩
    | (exfalso; simp_all; done)
    | (show EndP _ _ _ _ _ _
       refine EndP.mk [] ?_ <;> (repeat' first | trivial | rfl | exact eqS _ _ | refine And.intro ?_ ?_ | refine eqA ?_ | refine eqB ?_ | refine eqC ?_ | refine eqD ?_ | refine eqE ?_ | refine eqF ?_ | refine eqG ?_ | refine eqH ?_ | refine eqI ?_ ?_)
       done)
def sm_lTells18Y : Sm := fun args σ => match args, σ with
  | [.str s, .int .i64 n, .int .i64 w], [] => some (aFine s = 0, .bool true, none)
  | _, _ => none
theorem k_lTells18Y : SOK 3 sm_lTells18Y := by
  intro args sg pre x r he hp
  unfold sm_lTells18Y at he
  split at he <;> cases he
  · exact f_lTells18Y_1 (hp := hp) ..
theorem f_lTells18N_1 (s : List UInt8) (n w : Int) (hp : aFine s ≠ 0) : OK 3 ([.str s, .int .i64 n, .int .i64 w]) ([]) (.bool true) (none) := by
  refine funOK_of_vc (C := cx [(11, sm_pmReadN), (10, sm_works18), (12, sm_r17All), (13, sm_pmNum), (14, sm_r18Num), (15, sm_pmText), (16, sm_r18Text), (17, sm_pmJoin), (18, sm_r18Join), (20, sm_pmTexts), (21, sm_r18Each), (19, sm_sameTx)]) (good ⟨k_pmReadN, k_works18, k_r17All, k_pmNum, k_r18Num, k_pmText, k_r18Text, k_pmJoin, k_r18Join, k_pmTexts, k_r18Each, k_sameTx, trivial⟩) (fn := Tryd.f3) rfl rfl rfl rfl fun hw hs => ?_
  have hl := aFds_len s
  have hml : ((aFds s).map ePf).length = (aFds s).length := List.length_map ..
  have h0 : aFds s = [] := by unfold aFds; rw [if_neg hp]
  have hne : (aFine s != 0) = true := by simp [hp]
  have h01 : (if w = 2 then 0 else (lastF (selF (isF n w) (List.map dePf (List.map ePf (aFds s))))).num) = 0 := by rw [h0]; split <;> rfl
  repeat' (
    conv => whnf
    first
    | with_reducible (first | refine go1 (fun j q h => ?_) fun h => ?_ | refine go2 ⟨rfl, rfl⟩ (fun h => ?_) fun j h => ?_ | refine go2 ?_ (fun h => ?_) fun j h => ?_)
    | refine go3 ?_ ?_ | refine go4 ?_ ?_ | refine go5 ?_
    | refine go6 (fun h => ?_) fun h => ?_ | refine go7 (fun h => ?_) fun h => ?_ | refine go8 (fun h => ?_) fun h => ?_ | refine go9 (fun h => ?_) fun h => ?_ | refine goA (fun h => ?_) fun h => ?_
    | with_reducible (first | refine IdxK.mk _ rfl ?_ | refine goB ?_ fun hc => ?_ | refine goC ?_ fun hc => ?_ | refine goD ?_ fun hc => ?_ | refine goE ?_ fun hc => ?_ | refine goF ?_ ?_ | refine goG ?_ ?_ | refine goH ?_ fun b hb => ?_)
    | refine goI ?_ | refine goJ ?_ ?_ | refine goK ?_ ?_ ?_ | refine goL ?_ ?_ ?_ ?_ | refine goM ?_ ?_ ?_ ?_ ?_ | refine goN ?_ ?_ | refine goO ?_ ?_
    | with_reducible refine goP ?_)
  all_goals try conv => whnf
  all_goals try (refine Side.mk ?_; try dsimp only)
  all_goals (try simp only [Cu_eta] at *)
  all_goals first
    | (show LoopP _ _ _ _; skip)
    | (show GotoP _ _ _ _ _; skip)
    | (show EndP _ _ _ _ _ _; skip)
    | (show ∃ _, _; skip)
    | (first
          | trivial
          | omega
          | (simp (discharger := omega) only [wu8, wu16, wu32, wu64, wi32, wi64, Int.tdiv_eq_ediv_of_nonneg, Int.tmod_eq_emod_of_nonneg]; omega)
          | (simp only [List.length_append, List.length_cons, List.length_nil, bl_length, List.length_take, List.length_drop]; omega)
          | (simp (discharger := omega) [-List.getD_eq_getElem?_getD, wu8, wu16, wu32, wu64, wi32, wi64, Int.tdiv_eq_ediv_of_nonneg, Int.tmod_eq_emod_of_nonneg]; done)
          | (simp (discharger := omega) [-List.getD_eq_getElem?_getD, wu8, wu16, wu32, wu64, wi32, wi64, Int.tdiv_eq_ediv_of_nonneg, Int.tmod_eq_emod_of_nonneg]; omega))
    | skip
  all_goals first
    | exact absurd h01.symm (by assumption)
    | (exfalso
       simp only [h0, hne, dePf_map, selF, lastF, anyF, joinT, List.filter_nil, List.map_nil, List.flatten_nil, List.getLastD_nil, List.isEmpty_nil, Bool.not_true, Bool.and_false] at *
       first
       | exact h rfl
       | exact absurd h (by decide)
       | (rename_i h; exact h rfl)
       | (rename_i h; exact h trivial)
       | (rename_i h1 h; exact h1 rfl)
       | (have h := ‹¬ 0 = ite _ _ _›; split at h <;> exact absurd rfl h))
    | (rw [h0]; rfl)
    | exact ⟨⟨_, rfl, short_of (by omega)⟩, by omega⟩
    | exact ⟨⟨_, rfl⟩, by omega⟩
    | exact ⟨⟨_, rfl⟩, trivial, by rw [List.length_map]; have := List.length_filter_le (isF n 2) (aFds s); simp only [dePf_map]; unfold selF; omega⟩
    | (show EndP _ _ _ _ _ _
       refine EndP.mk [] ?_ <;> (repeat' first | trivial | rfl | exact eqS _ _ | refine And.intro ?_ ?_ | refine eqA ?_ | refine eqB ?_ | refine eqC ?_ | refine eqD ?_ | refine eqE ?_ | refine eqF ?_ | refine eqG ?_ | refine eqH ?_ | refine eqI ?_ ?_)
       done)
def sm_lTells18N : Sm := fun args σ => match args, σ with
  | [.str s, .int .i64 n, .int .i64 w], [] => some (aFine s ≠ 0, .bool true, none)
  | _, _ => none
theorem k_lTells18N : SOK 3 sm_lTells18N := by
  intro args sg pre x r he hp
  unfold sm_lTells18N at he
  split at he <;> cases he
  · exact f_lTells18N_1 (hp := hp) ..
def fineF (f : Pf) : Prop := (0 ≤ f.num ∧ f.num ≤ 18446744073709551615) ∧ f.text.length ≤ 1000000000
abbrev maysF (l : List Pf) : List Pf := (l.filter fun f => mayT f.no f.wi).map keepF
theorem flds_filter : ∀ l : List Pf, fldsB l = fldsB (l.filter fun f => mayT f.no f.wi)
  | [] => rfl
  | f :: l => by
    have ih := flds_filter l
    unfold fldsB at ih ⊢
    rw [List.map_cons, List.flatten_cons, List.filter_cons]
    split
    · rw [List.map_cons, List.flatten_cons, ih]
    · rename_i h
      rw [fldB_nil.mpr h, List.nil_append, ih]
theorem all_fldsG (l : List Pf) (h : ∀ f ∈ l, fineF f) : aFine (fldsB l) = 0 ∧ aFds (fldsB l) = maysF l := by
  rw [flds_filter]
  refine all_flds _ fun f hf => ?_
  obtain ⟨h1, h2⟩ := List.mem_filter.1 hf
  obtain ⟨h3, h4⟩ := h f h1
  exact ⟨h2, h3, by omega⟩
theorem flds_app (a b : List Pf) : fldsB (a ++ b) = fldsB a ++ fldsB b := by
  unfold fldsB; rw [List.map_append, List.flatten_append]
theorem flds_step {a : List Pf} {i : Nat} (h : i < a.length) : fldsB (a.take (i + 1)) = fldsB (a.take i) ++ fldB (a.getD i default) := by
  rw [List.take_add_one, flds_app, List.getD_eq_getElem?_getD, List.getElem?_eq_getElem h]
  simp [fldsB]
theorem fldsG_len : ∀ {l : List Pf} {n : Nat}, (∀ f ∈ l, fineF f) → (∀ f ∈ l, f.text.length ≤ n) → (fldsB l).length ≤ l.length * (20 + n)
  | [], _, _, _ => by simp [fldsB]
  | f :: l, n, h, k => by
    have h1 := h f (List.mem_cons_self ..)
    have h2 := k f (List.mem_cons_self ..)
    have h3 := fldB_len (f := f) h1.1 (by have := h1.2; omega)
    have h4 := fldsG_len (l := l) (n := n) (fun g hg => h g (List.mem_cons_of_mem _ hg)) (fun g hg => k g (List.mem_cons_of_mem _ hg))
    have e : fldsB (f :: l) = fldB f ++ fldsB l := by simp [fldsB]
    rw [e, List.length_append, List.length_cons, Nat.add_mul]
    omega
theorem wf_num : ∀ {l : List Pf}, V.wfL (l.map ePf) → ∀ f ∈ l, 0 ≤ f.num ∧ f.num ≤ 18446744073709551615
  | [], _, _, h => by cases h
  | g :: l, hw, f, h => by
    rcases List.mem_cons.1 h with rfl | h
    · exact hw.1.2.2.1
    · exact wf_num hw.2 f h
theorem keep_short {l : List Pf} {n : Nat} (h : ∀ f ∈ l, f.text.length ≤ n) : ∀ f ∈ maysF l, f.text.length ≤ n := by
  intro f hf
  obtain ⟨g, hg, rfl⟩ := List.mem_map.1 hf
  have := h g (List.mem_filter.1 hg).1
  unfold keepF
  dsimp only
  split
  · exact this
  · exact Nat.zero_le _
theorem take_succ_all {α : Type} [Inhabited α] {p : α → Prop} {a : List α} {i : Nat} (hi : i < a.length) (h : ∀ f ∈ a.take i, p f) (k : p (a.getD i default)) : ∀ f ∈ a.take (i + 1), p f := by
  intro f hf
  rw [List.take_add_one, List.getElem?_eq_getElem hi, List.mem_append] at hf
  rcases hf with hf | hf
  · exact h f hf
  · rw [List.getD_eq_getElem?_getD, List.getElem?_eq_getElem hi] at k
    simp at hf; subst hf; exact k
theorem take_map_next {α β : Type} [Inhabited α] {f : α → β} {a : List α} {i : Nat} (h : i < a.length) : (a.take (i + 1)).map f = (a.take i).map f ++ [f (a.getD i default)] := by
  rw [List.take_add_one, List.map_append, List.getD_eq_getElem?_getD, List.getElem?_eq_getElem h]; rfl
theorem f_lLast18 (l : List Pf) (T : List Tg) : OK 7 [.list false 4 (l.map ePf), .list false 2 (T.map eTg)] [] (.bool true) none := by
  refine funOK_of_vc (C := cx [(10, sm_works18), (22, sm_pFPut), (11, sm_pmReadY), (12, sm_r17All), (35, sm_pmLast), (36, sm_r18Last), (37, sm_pmRest), (38, sm_r18Rest)]) (good ⟨k_works18, k_pFPut, k_pmReadY, k_r17All, k_pmLast, k_r18Last, k_pmRest, k_r18Rest, trivial⟩) (fn := Tryd.f7) rfl rfl rfl rfl fun hw hs => ?_
  have hml : (l.map ePf).length = l.length := List.length_map ..
  have hmt : (T.map eTg).length = T.length := List.length_map ..
  have hnum := wf_num hw.1.2
  repeat' (
    conv => whnf
    first
    | with_reducible (first | refine go1 (fun j q h => ?_) fun h => ?_ | refine go2 ⟨rfl, rfl⟩ (fun h => ?_) fun j h => ?_ | refine go2 ?_ (fun h => ?_) fun j h => ?_)
    | refine go3 ?_ ?_ | refine go4 ?_ ?_ | refine go5 ?_
    | refine go6 (fun h => ?_) fun h => ?_ | refine go7 (fun h => ?_) fun h => ?_ | refine go8 (fun h => ?_) fun h => ?_ | refine go9 (fun h => ?_) fun h => ?_ | refine goA (fun h => ?_) fun h => ?_
    | with_reducible (first | refine IdxK.mk _ rfl ?_ | refine goB ?_ fun hc => ?_ | refine goC ?_ fun hc => ?_ | refine goD ?_ fun hc => ?_ | refine goE ?_ fun hc => ?_ | refine goF ?_ ?_ | refine goG ?_ ?_ | refine goH ?_ fun b hb => ?_)
    | refine goI ?_ | refine goJ ?_ ?_ | refine goK ?_ ?_ ?_ | refine goL ?_ ?_ ?_ ?_ | refine goM ?_ ?_ ?_ ?_ ?_ | refine goN ?_ ?_ | refine goO ?_ ?_
    | with_reducible refine goP ?_)
  all_goals try conv => whnf
  all_goals try (refine Side.mk ?_; try dsimp only)
  all_goals (try simp only [Cu_eta] at *)
  all_goals first
    | (show LoopP _ _ _ _; skip)
    | (show GotoP _ _ _ _ _; skip)
    | (show EndP _ _ _ _ _ _; skip)
    | (show ∃ _, _; skip)
    | (first
          | trivial
          | omega
          | (simp (discharger := omega) only [wu8, wu16, wu32, wu64, wi32, wi64, Int.tdiv_eq_ediv_of_nonneg, Int.tmod_eq_emod_of_nonneg]; omega)
          | (simp only [List.length_append, List.length_cons, List.length_nil, bl_length, List.length_take, List.length_drop]; omega)
          | (simp (discharger := omega) [-List.getD_eq_getElem?_getD, wu8, wu16, wu32, wu64, wi32, wi64, Int.tdiv_eq_ediv_of_nonneg, Int.tmod_eq_emod_of_nonneg]; done)
          | (simp (discharger := omega) [-List.getD_eq_getElem?_getD, wu8, wu16, wu32, wu64, wi32, wi64, Int.tdiv_eq_ediv_of_nonneg, Int.tmod_eq_emod_of_nonneg]; omega))
    | skip
  · refine EndP.mk [] ?_ <;> (repeat' first | trivial | rfl | exact eqS _ _ | refine And.intro ?_ ?_ | refine eqA ?_ | refine eqB ?_ | refine eqC ?_ | refine eqD ?_ | refine eqE ?_ | refine eqF ?_ | refine eqG ?_ | refine eqH ?_ | refine eqI ?_ ?_)
  · refine EndP.mk [] ?_ <;> (repeat' first | trivial | rfl | exact eqS _ _ | refine And.intro ?_ ?_ | refine eqA ?_ | refine eqB ?_ | refine eqC ?_ | refine eqD ?_ | refine eqE ?_ | refine eqF ?_ | refine eqG ?_ | refine eqH ?_ | refine eqI ?_ ?_)
  have hl20 : l.length ≤ 20 := by omega
  have hT20 : T.length ≤ 20 := by omega
  refine LoopP.mk Nat (fun i => i ≤ l.length ∧ ∀ f ∈ l.take i, f.text.length ≤ 100) (fun i => ⟨112, [(0, .list false 4 (l.map ePf)), (1, .list false 2 (T.map eTg)), (5, .buf 0), (6, .int .i64 i)], [.buf 1 0 (bl (fldsB (l.take i)))], [0, 1]⟩) (fun i => l.length - i) [.tm 5 1] 0 ⟨Nat.zero_le _, by simp⟩ ?_ (fun i ⟨hi, hj⟩ _ _ => ?_)
  · refine Go.VG.Sub.mk rfl ?_ ?_ ?_ ?_ <;> (repeat' first | trivial | rfl | exact eqS _ _ | refine And.intro ?_ ?_ | refine eqA ?_ | refine eqB ?_ | refine eqC ?_ | refine eqD ?_ | refine eqE ?_ | refine eqF ?_ | refine eqG ?_ | refine eqH ?_ | refine eqI ?_ ?_)
  have hfl : (fldsB (l.take i)).length ≤ 2400 := by
    have h1 := fldsG_len (l := l.take i) (n := 100) (fun f hf => ⟨hnum f (List.mem_of_mem_take hf), by have := hj f hf; omega⟩) hj
    have h2 : (l.take i).length ≤ 20 := by rw [List.length_take]; omega
    have h3 := Nat.mul_le_mul_right (20 + 100) h2
    omega
  repeat' (
    conv => whnf
    first
    | with_reducible (first | refine go1 (fun j q h => ?_) fun h => ?_ | refine go2 ⟨rfl, rfl⟩ (fun h => ?_) fun j h => ?_ | refine go2 ?_ (fun h => ?_) fun j h => ?_)
    | refine go3 ?_ ?_ | refine go4 ?_ ?_ | refine go5 ?_
    | refine go6 (fun h => ?_) fun h => ?_ | refine go7 (fun h => ?_) fun h => ?_ | refine go8 (fun h => ?_) fun h => ?_ | refine go9 (fun h => ?_) fun h => ?_ | refine goA (fun h => ?_) fun h => ?_
    | with_reducible (first | refine IdxK.mk _ rfl ?_ | refine goB ?_ fun hc => ?_ | refine goC ?_ fun hc => ?_ | refine goD ?_ fun hc => ?_ | refine goE ?_ fun hc => ?_ | refine goF ?_ ?_ | refine goG ?_ ?_ | refine goH ?_ fun b hb => ?_)
    | refine goI ?_ | refine goJ ?_ ?_ | refine goK ?_ ?_ ?_ | refine goL ?_ ?_ ?_ ?_ | refine goM ?_ ?_ ?_ ?_ ?_ | refine goN ?_ ?_ | refine goO ?_ ?_
    | with_reducible refine goP ?_)
  all_goals try conv => whnf
  all_goals try (refine Side.mk ?_; try dsimp only)
  all_goals (try simp only [Cu_eta] at *)
  all_goals first
    | (show LoopP _ _ _ _; skip)
    | (show GotoP _ _ _ _ _; skip)
    | (show EndP _ _ _ _ _ _; skip)
    | (show ∃ _, _; skip)
    | (first
          | trivial
          | omega
          | (simp (discharger := omega) only [wu8, wu16, wu32, wu64, wi32, wi64, Int.tdiv_eq_ediv_of_nonneg, Int.tmod_eq_emod_of_nonneg]; omega)
          | (simp only [List.length_append, List.length_cons, List.length_nil, bl_length, List.length_take, List.length_drop]; omega)
          | (simp (discharger := omega) [-List.getD_eq_getElem?_getD, wu8, wu16, wu32, wu64, wi32, wi64, Int.tdiv_eq_ediv_of_nonneg, Int.tmod_eq_emod_of_nonneg]; done)
          | (simp (discharger := omega) [-List.getD_eq_getElem?_getD, wu8, wu16, wu32, wu64, wi32, wi64, Int.tdiv_eq_ediv_of_nonneg, Int.tmod_eq_emod_of_nonneg]; omega))
    | skip
  · refine EndP.mk [] ?_ <;> (repeat' first | trivial | rfl | exact eqS _ _ | refine And.intro ?_ ?_ | refine eqA ?_ | refine eqB ?_ | refine eqC ?_ | refine eqD ?_ | refine eqE ?_ | refine eqF ?_ | refine eqG ?_ | refine eqH ?_ | refine eqI ?_ ?_)
  · exact ⟨trivial, by rw [bl_length]; omega, by omega⟩
  · refine ⟨[.swap 0 1], i + 1, ⟨by omega, take_succ_all (by omega) hj (by omega)⟩, ?_, by omega⟩
    refine Go.VG.Sub.mk rfl ?_ ?_ ?_ ?_ <;> (repeat' first | trivial | rfl | exact eqS _ _ | refine And.intro ?_ ?_ | refine eqA ?_ | refine eqB ?_ | refine eqC ?_ | refine eqD ?_ | refine eqE ?_ | refine eqF ?_ | refine eqG ?_ | refine eqH ?_ | refine eqI ?_ ?_)
    all_goals first
      | (rw [wi_i (by omega)]; omega)
      | (rw [flds_step (by omega), bl_append])
  all_goals
    obtain rfl : i = l.length := by omega
    simp only [List.take_length] at *
    have hall := all_fldsG l fun f hf => ⟨hnum f hf, by have := hj f hf; omega⟩
    have hA := hall.1
    have hlen : (aFds (fldsB l)).length ≤ (fldsB l).length := aFds_len _
    have hsh : shortF (aFds (fldsB l)) := short_of (by omega)
  all_goals (try exact ⟨by omega, hA⟩)
  all_goals (try omega)
  generalize aFds (fldsB l) = a at *
  have hma : (a.map ePf).length = a.length := List.length_map ..
  refine LoopP.mk Nat (fun j => j ≤ T.length) (fun j => ⟨112, [(1, .list false 2 (T.map eTg)), (7, .ptr 1 0), (9, .buf 3), (11, .buf 4), (12, .int .i64 j)], [.dead, .cells [.buf 2], .buf 4 0 (a.map ePf), .buf 4 0 (a.map ePf), .buf 2 0 ((T.take j).map eTg)], [4, 0, 1]⟩) (fun j => T.length - j) [.tm 11 2] 0 (Nat.zero_le _) ?_ (fun j hj2 _ _ => ?_)
  · refine Go.VG.Sub.mk rfl ?_ ?_ ?_ ?_ <;> (repeat' first | trivial | rfl | exact eqS _ _ | refine And.intro ?_ ?_ | refine eqA ?_ | refine eqB ?_ | refine eqC ?_ | refine eqD ?_ | refine eqE ?_ | refine eqF ?_ | refine eqG ?_ | refine eqH ?_ | refine eqI ?_ ?_)
  have htk : ((T.take j).map eTg).length ≤ 20 := by rw [List.length_map, List.length_take]; omega
  repeat' (
    conv => whnf
    first
    | with_reducible (first | refine go1 (fun j q h => ?_) fun h => ?_ | refine go2 ⟨rfl, rfl⟩ (fun h => ?_) fun j h => ?_ | refine go2 ?_ (fun h => ?_) fun j h => ?_)
    | refine go3 ?_ ?_ | refine go4 ?_ ?_ | refine go5 ?_
    | refine go6 (fun h => ?_) fun h => ?_ | refine go7 (fun h => ?_) fun h => ?_ | refine go8 (fun h => ?_) fun h => ?_ | refine go9 (fun h => ?_) fun h => ?_ | refine goA (fun h => ?_) fun h => ?_
    | with_reducible (first | refine IdxK.mk _ rfl ?_ | refine goB ?_ fun hc => ?_ | refine goC ?_ fun hc => ?_ | refine goD ?_ fun hc => ?_ | refine goE ?_ fun hc => ?_ | refine goF ?_ ?_ | refine goG ?_ ?_ | refine goH ?_ fun b hb => ?_)
    | refine goI ?_ | refine goJ ?_ ?_ | refine goK ?_ ?_ ?_ | refine goL ?_ ?_ ?_ ?_ | refine goM ?_ ?_ ?_ ?_ ?_ | refine goN ?_ ?_ | refine goO ?_ ?_
    | with_reducible refine goP ?_)
  all_goals try conv => whnf
  all_goals try (refine Side.mk ?_; try dsimp only)
  all_goals (try simp only [Cu_eta] at *)
  all_goals first
    | (show LoopP _ _ _ _; skip)
    | (show GotoP _ _ _ _ _; skip)
    | (show EndP _ _ _ _ _ _; skip)
    | (show ∃ _, _; skip)
    | (first
          | trivial
          | omega
          | (simp (discharger := omega) only [wu8, wu16, wu32, wu64, wi32, wi64, Int.tdiv_eq_ediv_of_nonneg, Int.tmod_eq_emod_of_nonneg]; omega)
          | (simp only [List.length_append, List.length_cons, List.length_nil, bl_length, List.length_take, List.length_drop]; omega)
          | (simp (discharger := omega) [-List.getD_eq_getElem?_getD, wu8, wu16, wu32, wu64, wi32, wi64, Int.tdiv_eq_ediv_of_nonneg, Int.tmod_eq_emod_of_nonneg]; done)
          | (simp (discharger := omega) [-List.getD_eq_getElem?_getD, wu8, wu16, wu32, wu64, wi32, wi64, Int.tdiv_eq_ediv_of_nonneg, Int.tmod_eq_emod_of_nonneg]; omega))
    | skip
  · refine ⟨[], j + 1, by omega, ?_, by omega⟩
    refine Go.VG.Sub.mk rfl ?_ ?_ ?_ ?_ <;> (repeat' first | trivial | rfl | exact eqS _ _ | refine And.intro ?_ ?_ | refine eqA ?_ | refine eqB ?_ | refine eqC ?_ | refine eqD ?_ | refine eqE ?_ | refine eqF ?_ | refine eqG ?_ | refine eqH ?_ | refine eqI ?_ ?_)
    all_goals first
      | (rw [wi_i (by omega)]; omega)
      | (rw [take_map_next (by omega)]; done)
  all_goals (try (obtain rfl : j = T.length := by omega))
  all_goals (try simp only [List.take_length] at *)
  all_goals first
    | exact ⟨⟨_, rfl, hsh⟩, by omega, ⟨_, rfl⟩, by omega⟩
    | exact ⟨⟨_, rfl⟩, by omega, ⟨_, rfl⟩, by omega⟩
    | (exfalso; have h := ‹¬ True›; exact h trivial)
    | (exfalso; rename_i h; simp at h; done)
    | (show EndP _ _ _ _ _ _
       refine EndP.mk [] ?_ <;> (repeat' first | trivial | rfl | exact eqS _ _ | refine And.intro ?_ ?_ | refine eqA ?_ | refine eqB ?_ | refine eqC ?_ | refine eqD ?_ | refine eqE ?_ | refine eqF ?_ | refine eqG ?_ | refine eqH ?_ | refine eqI ?_ ?_)
       done)
end Go.Proofs.YtbeejnmeakcpjaaDoor
