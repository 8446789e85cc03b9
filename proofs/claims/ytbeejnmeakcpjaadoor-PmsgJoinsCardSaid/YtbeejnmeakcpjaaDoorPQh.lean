/-
  A message that comes in parts: the law's walk.
-/
import Derived.Test.YtbeejnmeakcpjaaDoorPQd
set_option linter.unusedSimpArgs false
set_option linter.unusedVariables false
set_option maxHeartbeats 4000000
namespace Go.Proofs.YtbeejnmeakcpjaaDoor
open Go Go.VG
set_option maxRecDepth 100000
abbrev ePart (p : List Pf) : V := .list false 4 (p.map ePf)
abbrev inF (k : Int) (p : List Pf) : Pf := ⟨k, 2, 0, fldsB p⟩
def okP (p : List Pf) : Prop := p.length ≤ 8 ∧ (∀ f ∈ p, fineF f) ∧ ∀ f ∈ p, f.text.length ≤ 100
theorem okP_len {p : List Pf} (h : okP p) : (fldsB p).length ≤ 960 := by
  have h1 := fldsG_len h.2.1 h.2.2
  have h2 := h.1
  have h3 : p.length * (20 + 100) ≤ 8 * (20 + 100) := Nat.mul_le_mul_right _ h2
  omega
theorem mays_flat : ∀ P : List (List Pf), maysF P.flatten = (P.map maysF).flatten
  | [] => rfl
  | p :: P => by
    rw [List.flatten_cons, List.map_cons, List.flatten_cons, ← mays_flat P]
    unfold maysF
    rw [List.filter_append, List.map_append]
theorem flds_flat : ∀ P : List (List Pf), fldsB P.flatten = (P.map fldsB).flatten
  | [] => rfl
  | p :: P => by rw [List.flatten_cons, List.map_cons, List.flatten_cons, flds_app, flds_flat P]
theorem joins_all {P : List (List Pf)} {k : Int} (hk : 1 ≤ k ∧ k ≤ 30) (h : ∀ p ∈ P, okP p) :
    aFine (fldsB (P.map (inF k))) = 0 ∧ aFds (fldsB (P.map (inF k))) = P.map (inF k) ∧ selF (isF k 2) (P.map (inF k)) = P.map (inF k) ∧
    joinT (P.map (inF k)) = fldsB P.flatten ∧ aFine (fldsB P.flatten) = 0 ∧ aFds (fldsB P.flatten) = (P.map maysF).flatten := by
  have hm : mayT k 2 = true := decide_eq_true ⟨⟨hk.1, by omega⟩, by omega⟩
  have h1 := all_flds (P.map (inF k)) fun f hf => by
    obtain ⟨p, hp, rfl⟩ := List.mem_map.1 hf
    have := okP_len (h p hp)
    exact ⟨hm, ⟨Int.le_refl 0, (by decide : (0 : Int) ≤ 18446744073709551615)⟩, by show (fldsB p).length ≤ _; omega⟩
  have h2 : (P.map (inF k)).map keepF = P.map (inF k) := by
    rw [List.map_map]
    refine List.map_congr_left fun p _ => ?_
    show keepF (inF k p) = inF k p
    unfold keepF inF
    simp
  have h3 := all_fldsG P.flatten fun f hf => by
    obtain ⟨p, hp, hf⟩ := List.mem_flatten.1 hf
    exact (h p hp).2.1 f hf
  refine ⟨h1.1, h1.2.trans h2, ?_, ?_, h3.1, h3.2.trans (mays_flat P)⟩
  · unfold selF
    refine List.filter_eq_self.2 fun f hf => ?_
    obtain ⟨p, _, rfl⟩ := List.mem_map.1 hf
    simp [isF]
  · rw [flds_flat]
    unfold joinT
    rw [List.map_map]
    rfl
theorem mays_le (p : List Pf) : (maysF p).length ≤ p.length := by
  unfold maysF; rw [List.length_map]; exact List.length_filter_le ..
theorem all_le : ∀ {P : List (List Pf)}, (∀ p ∈ P, okP p) → ((P.map maysF).flatten).length ≤ P.length * 8
  | [], _ => by simp
  | p :: P, h => by
    have h1 := all_le (P := P) fun q hq => h q (List.mem_cons_of_mem _ hq)
    have h2 := (h p (List.mem_cons_self ..)).1
    have h3 := mays_le p
    rw [List.map_cons, List.flatten_cons, List.length_append, List.length_cons]
    omega
theorem in_le {P : List (List Pf)} {k : Int} (h : ∀ p ∈ P, okP p) : (fldsB (P.map (inF k))).length ≤ P.length * 980 := by
  have := fldsG_len (l := P.map (inF k)) (n := 960) (fun f hf => by
    obtain ⟨p, hp, rfl⟩ := List.mem_map.1 hf
    have := okP_len (h p hp)
    exact ⟨⟨Int.le_refl 0, (by decide : (0 : Int) ≤ 18446744073709551615)⟩, by show (fldsB p).length ≤ _; omega⟩) (fun f hf => by
    obtain ⟨p, hp, rfl⟩ := List.mem_map.1 hf
    exact okP_len (h p hp))
  rw [List.length_map] at this
  omega
theorem in_step {P : List (List Pf)} {k : Int} {i : Nat} (h : i < P.length) : fldsB ((P.take (i + 1)).map (inF k)) = fldsB ((P.take i).map (inF k)) ++ fldB (inF k (P.getD i default)) := by
  rw [take_map_next h, flds_app]
  simp [fldsB]
theorem all_step {P : List (List Pf)} {i : Nat} (h : i < P.length) : ((P.take (i + 1)).map maysF).flatten = ((P.take i).map maysF).flatten ++ maysF (P.getD i default) := by
  rw [take_map_next h, List.flatten_append]
  simp
theorem getD_mem' {α : Type} [Inhabited α] {a : List α} {i : Nat} (h : i < a.length) : a.getD i default ∈ a := by
  rw [List.getD_eq_getElem?_getD, List.getElem?_eq_getElem h]; exact List.getElem_mem h
theorem f_lJoins18 (P : List (List Pf)) (num : Int) : OK 8 [.list false 1 (P.map ePart), .int .u8 num] [] (.bool true) none := by
  refine funOK_of_vc (C := cx [(10, sm_works18), (22, sm_pFPut), (12, sm_r17All), (11, sm_pmReadY), (17, sm_pmJoin), (25, sm_pAll), (28, sm_lBack17), (27, sm_r17Same)]) (good ⟨k_works18, k_pFPut, k_r17All, k_pmReadY, k_pmJoin, k_pAll, k_lBack17, k_r17Same, trivial⟩) (fn := Tryd.f8) rfl rfl rfl rfl fun hw hs => ?_
  have hmP : (P.map ePart).length = P.length := List.length_map ..
  have hnum : ∀ p ∈ P, ∀ f ∈ p, 0 ≤ f.num ∧ f.num ≤ 18446744073709551615 := fun p hp => by
    have := wfL_iff.1 hw.1.2 (ePart p) (List.mem_map.2 ⟨p, hp, rfl⟩)
    exact wf_num this.2
  have hn8 : 0 ≤ num ∧ num ≤ 255 := hw.2.1
  have hk : ∃ k, IntKind.i64.wrap (IntKind.i64.wrap (num.tmod 30) + 1) = k ∧ 1 ≤ k ∧ k ≤ 30 := by
    refine ⟨_, rfl, ?_⟩
    rw [Int.tmod_eq_emod_of_nonneg hn8.1]
    have h1 : IntKind.i64.wrap (num % 30) = num % 30 := wi_i (by omega)
    rw [h1, wi_i (by omega)]
    omega
  obtain ⟨k, hke, hk⟩ := hk
  repeat' (
    conv => whnf
    first
    | with_reducible (first | refine go1 (fun j q h => ?_) fun h => ?_ | refine go2 ⟨rfl, rfl⟩ (fun h => ?_) fun j h => ?_ | refine go2 ?_ (fun h => ?_) fun j h => ?_)
    | refine go3 ?_ ?_ | refine go4 ?_ ?_ | refine go5 ?_
    | refine go6 (fun h => ?_) fun h => ?_ | refine go7 (fun h => ?_) fun h => ?_ | refine go8 (fun h => ?_) fun h => ?_ | refine go9 (fun h => ?_) fun h => ?_ | refine goA (fun h => ?_) fun h => ?_
    | with_reducible (first | refine IdxK.mk _ rfl ?_ | refine goB ?_ fun hc => ?_ | refine goC ?_ fun hc => ?_ | refine goD ?_ fun hc => ?_ | refine goE ?_ fun hc => ?_ | refine goF ?_ ?_ | refine goG ?_ ?_ | refine goH ?_ fun b hb => ?_)
    | refine goI ?_ | refine goJ ?_ ?_ | refine goK ?_ ?_ ?_ | refine goL ?_ ?_ ?_ ?_ | refine goM ?_ ?_ ?_ ?_ ?_ | refine goN ?_ ?_ | refine goO ?_ ?_
    | with_reducible refine goP ?_)
  all_goals try conv => whnf
  all_goals try (refine Side.mk ?_; try dsimp only)
  all_goals (try simp only [Cu_eta] at *)
  all_goals first
    | (show LoopP _ _ _ _; skip)
    | (show GotoP _ _ _ _ _; skip)
    | (show EndP _ _ _ _ _ _; skip)
    | (show ∃ _, _; skip)
    | (first
          | trivial
          | omega
          | (simp (discharger := omega) only [wu8, wu16, wu32, wu64, wi32, wi64, Int.tdiv_eq_ediv_of_nonneg, Int.tmod_eq_emod_of_nonneg]; omega)
          | (simp only [List.length_append, List.length_cons, List.length_nil, bl_length, List.length_take, List.length_drop]; omega)
          | (simp (discharger := omega) [-List.getD_eq_getElem?_getD, wu8, wu16, wu32, wu64, wi32, wi64, Int.tdiv_eq_ediv_of_nonneg, Int.tmod_eq_emod_of_nonneg]; done)
          | (simp (discharger := omega) [-List.getD_eq_getElem?_getD, wu8, wu16, wu32, wu64, wi32, wi64, Int.tdiv_eq_ediv_of_nonneg, Int.tmod_eq_emod_of_nonneg]; omega))
    | skip
  · refine EndP.mk [] ?_ <;> (repeat' first | trivial | rfl | exact eqS _ _ | refine And.intro ?_ ?_ | refine eqA ?_ | refine eqB ?_ | refine eqC ?_ | refine eqD ?_ | refine eqE ?_ | refine eqF ?_ | refine eqG ?_ | refine eqH ?_ | refine eqI ?_ ?_)
  have hP8 : P.length ≤ 8 := by omega
  rw [hke]
  refine LoopP.mk Nat (fun i => i ≤ P.length ∧ ∀ p ∈ P.take i, okP p) (fun i => ⟨121, [(0, .list false 1 (P.map ePart)), (5, .buf 0), (6, .buf 1), (7, .int .i64 k), (8, .int .i64 i)], [.buf 1 0 (bl (fldsB ((P.take i).map (inF k)))), .buf 4 0 (((P.take i).map maysF).flatten.map ePf)], [0, 1, 2, 3, 4]⟩) (fun i => P.length - i) [.tm 5 1, .tm 6 4] 0 ⟨Nat.zero_le _, by simp⟩ ?_ (fun i ⟨hi, hj⟩ _ _ => ?_)
  · refine Go.VG.Sub.mk rfl ?_ ?_ ?_ ?_ <;> (repeat' first | trivial | rfl | exact eqS _ _ | refine And.intro ?_ ?_ | refine eqA ?_ | refine eqB ?_ | refine eqC ?_ | refine eqD ?_ | refine eqE ?_ | refine eqF ?_ | refine eqG ?_ | refine eqH ?_ | refine eqI ?_ ?_)
  have hoi : ∀ p ∈ P.take i, okP p := hj
  have hin := in_le (k := k) hj
  have hal := all_le hj
  have hti : (P.take i).length ≤ 8 := by rw [List.length_take]; omega
  have hin2 : (fldsB ((P.take i).map (inF k))).length ≤ 7840 := by omega
  have hal2 : ((((P.take i).map maysF).flatten).map ePf).length ≤ 64 := by rw [List.length_map]; omega
  repeat' (
    conv => whnf
    first
    | with_reducible (first | refine go1 (fun j q h => ?_) fun h => ?_ | refine go2 ⟨rfl, rfl⟩ (fun h => ?_) fun j h => ?_ | refine go2 ?_ (fun h => ?_) fun j h => ?_)
    | refine go3 ?_ ?_ | refine go4 ?_ ?_ | refine go5 ?_
    | refine go6 (fun h => ?_) fun h => ?_ | refine go7 (fun h => ?_) fun h => ?_ | refine go8 (fun h => ?_) fun h => ?_ | refine go9 (fun h => ?_) fun h => ?_ | refine goA (fun h => ?_) fun h => ?_
    | with_reducible (first | refine IdxK.mk _ rfl ?_ | refine goB ?_ fun hc => ?_ | refine goC ?_ fun hc => ?_ | refine goD ?_ fun hc => ?_ | refine goE ?_ fun hc => ?_ | refine goF ?_ ?_ | refine goG ?_ ?_ | refine goH ?_ fun b hb => ?_)
    | refine goI ?_ | refine goJ ?_ ?_ | refine goK ?_ ?_ ?_ | refine goL ?_ ?_ ?_ ?_ | refine goM ?_ ?_ ?_ ?_ ?_ | refine goN ?_ ?_ | refine goO ?_ ?_
    | with_reducible refine goP ?_)
  all_goals try conv => whnf
  all_goals try (refine Side.mk ?_; try dsimp only)
  all_goals (try simp only [Cu_eta] at *)
  all_goals first
    | (show LoopP _ _ _ _; skip)
    | (show GotoP _ _ _ _ _; skip)
    | (show EndP _ _ _ _ _ _; skip)
    | (show ∃ _, _; skip)
    | (first
          | trivial
          | omega
          | (simp (discharger := omega) only [wu8, wu16, wu32, wu64, wi32, wi64, Int.tdiv_eq_ediv_of_nonneg, Int.tmod_eq_emod_of_nonneg]; omega)
          | (simp only [List.length_append, List.length_cons, List.length_nil, bl_length, List.length_take, List.length_drop]; omega)
          | (simp (discharger := omega) [-List.getD_eq_getElem?_getD, wu8, wu16, wu32, wu64, wi32, wi64, Int.tdiv_eq_ediv_of_nonneg, Int.tmod_eq_emod_of_nonneg]; done)
          | (simp (discharger := omega) [-List.getD_eq_getElem?_getD, wu8, wu16, wu32, wu64, wi32, wi64, Int.tdiv_eq_ediv_of_nonneg, Int.tmod_eq_emod_of_nonneg]; omega))
    | skip
  · refine EndP.mk [] ?_ <;> (repeat' first | trivial | rfl | exact eqS _ _ | refine And.intro ?_ ?_ | refine eqA ?_ | refine eqB ?_ | refine eqC ?_ | refine eqD ?_ | refine eqE ?_ | refine eqF ?_ | refine eqG ?_ | refine eqH ?_ | refine eqI ?_ ?_)
  · have hlt : i < P.length := by omega
    have hin3 := in_step (k := k) hlt
    have hal3 := all_step hlt
    have hnp := hnum _ (getD_mem' hlt)
    have hp8 : (P.getD i default).length ≤ 8 := by
      have h := ‹¬ ((((P.getD i default).map ePf).length : Nat) : Int) > 8›
      rw [List.length_map] at h
      omega
    have hmp : ((P.getD i default).map ePf).length = (P.getD i default).length := List.length_map ..
    refine LoopP.mk Nat (fun j => j ≤ (P.getD i default).length ∧ ∀ f ∈ (P.getD i default).take j, f.text.length ≤ 100) (fun j => ⟨121, [(0, .list false 1 (P.map ePart)), (5, .buf 0), (6, .buf 1), (7, .int .i64 k), (8, .int .i64 i), (9, .buf 2), (10, .int .i64 j)], [.buf 1 0 (bl (fldsB ((P.take i).map (inF k)))), .buf 4 0 (((P.take i).map maysF).flatten.map ePf), .buf 1 0 (bl (fldsB ((P.getD i default).take j)))], [0, 1, 2, 3, 4]⟩) (fun j => (P.getD i default).length - j) [.tm 9 1] 0 ⟨Nat.zero_le _, by simp⟩ ?_ (fun j ⟨hj1, hj2⟩ _ _ => ?_)
    · refine Go.VG.Sub.mk rfl ?_ ?_ ?_ ?_ <;> (repeat' first | trivial | rfl | exact eqS _ _ | refine And.intro ?_ ?_ | refine eqA ?_ | refine eqB ?_ | refine eqC ?_ | refine eqD ?_ | refine eqE ?_ | refine eqF ?_ | refine eqG ?_ | refine eqH ?_ | refine eqI ?_ ?_)
    have hfl : (fldsB ((P.getD i default).take j)).length ≤ 960 := by
      have h1 := fldsG_len (l := (P.getD i default).take j) (n := 100) (fun f hf => ⟨hnp f (List.mem_of_mem_take hf), by have := hj2 f hf; omega⟩) hj2
      have h2 : ((P.getD i default).take j).length ≤ 8 := by rw [List.length_take]; omega
      have h3 := Nat.mul_le_mul_right (20 + 100) h2
      omega
    repeat' (
      conv => whnf
      first
      | with_reducible (first | refine go1 (fun j q h => ?_) fun h => ?_ | refine go2 ⟨rfl, rfl⟩ (fun h => ?_) fun j h => ?_ | refine go2 ?_ (fun h => ?_) fun j h => ?_)
      | refine go3 ?_ ?_ | refine go4 ?_ ?_ | refine go5 ?_
      | refine go6 (fun h => ?_) fun h => ?_ | refine go7 (fun h => ?_) fun h => ?_ | refine go8 (fun h => ?_) fun h => ?_ | refine go9 (fun h => ?_) fun h => ?_ | refine goA (fun h => ?_) fun h => ?_
      | with_reducible (first | refine IdxK.mk _ rfl ?_ | refine goB ?_ fun hc => ?_ | refine goC ?_ fun hc => ?_ | refine goD ?_ fun hc => ?_ | refine goE ?_ fun hc => ?_ | refine goF ?_ ?_ | refine goG ?_ ?_ | refine goH ?_ fun b hb => ?_)
      | refine goI ?_ | refine goJ ?_ ?_ | refine goK ?_ ?_ ?_ | refine goL ?_ ?_ ?_ ?_ | refine goM ?_ ?_ ?_ ?_ ?_ | refine goN ?_ ?_ | refine goO ?_ ?_
      | with_reducible refine goP ?_)
    all_goals try conv => whnf
    all_goals try (refine Side.mk ?_; try dsimp only)
    all_goals (try simp only [Cu_eta] at *)
    all_goals first
      | (show LoopP _ _ _ _; skip)
      | (show GotoP _ _ _ _ _; skip)
      | (show EndP _ _ _ _ _ _; skip)
      | (show ∃ _, _; skip)
      | (first
            | trivial
            | omega
            | (simp (discharger := omega) only [wu8, wu16, wu32, wu64, wi32, wi64, Int.tdiv_eq_ediv_of_nonneg, Int.tmod_eq_emod_of_nonneg]; omega)
            | (simp only [List.length_append, List.length_cons, List.length_nil, bl_length, List.length_take, List.length_drop]; omega)
            | (simp (discharger := omega) [-List.getD_eq_getElem?_getD, wu8, wu16, wu32, wu64, wi32, wi64, Int.tdiv_eq_ediv_of_nonneg, Int.tmod_eq_emod_of_nonneg]; done)
            | (simp (discharger := omega) [-List.getD_eq_getElem?_getD, wu8, wu16, wu32, wu64, wi32, wi64, Int.tdiv_eq_ediv_of_nonneg, Int.tmod_eq_emod_of_nonneg]; omega))
      | skip
    · refine EndP.mk [] ?_ <;> (repeat' first | trivial | rfl | exact eqS _ _ | refine And.intro ?_ ?_ | refine eqA ?_ | refine eqB ?_ | refine eqC ?_ | refine eqD ?_ | refine eqE ?_ | refine eqF ?_ | refine eqG ?_ | refine eqH ?_ | refine eqI ?_ ?_)
    · exact ⟨trivial, by rw [bl_length]; omega, by omega⟩
    · have hx : fldsB ((P.getD i default).take (j + 1)) = fldsB ((P.getD i default).take j) ++ fldB ((P.getD i default).getD j default) := flds_step (by omega)
      refine ⟨[.swap 2 3], j + 1, ⟨by omega, take_succ_all (by omega) hj2 (by omega)⟩, ?_, by omega⟩
      refine Go.VG.Sub.mk rfl ?_ ?_ ?_ ?_ <;> (repeat' first | trivial | rfl | exact eqS _ _ | refine And.intro ?_ ?_ | refine eqA ?_ | refine eqB ?_ | refine eqC ?_ | refine eqD ?_ | refine eqE ?_ | refine eqF ?_ | refine eqG ?_ | refine eqH ?_ | refine eqI ?_ ?_)
      all_goals first
        | (rw [wi_i (by omega)]; omega)
        | (rw [hx, bl_append])
    all_goals
      obtain rfl : j = (P.getD i default).length := by omega
      simp only [List.take_length] at *
      have hok : okP (P.getD i default) := ⟨hp8, fun f hf => ⟨hnp f hf, by have := hj2 f hf; omega⟩, hj2⟩
      have hag := all_fldsG (P.getD i default) hok.2.1
      have hml := mays_le (P.getD i default)
      have hml2 : ((aFds (fldsB (P.getD i default))).map ePf).length ≤ 8 := by rw [List.length_map, hag.2]; omega
    · omega
    · exact ⟨trivial, by rw [bl_length]; omega, by omega⟩
    · refine ⟨[.swap 0 4], i + 1, ⟨by omega, take_succ_all hlt hj hok⟩, ?_, by omega⟩
      refine Go.VG.Sub.mk rfl ?_ ?_ ?_ ?_ <;> (repeat' first | trivial | rfl | exact eqS _ _ | refine And.intro ?_ ?_ | refine eqA ?_ | refine eqB ?_ | refine eqC ?_ | refine eqD ?_ | refine eqE ?_ | refine eqF ?_ | refine eqG ?_ | refine eqH ?_ | refine eqI ?_ ?_)
      all_goals first
        | (rw [wi_i (by omega)]; omega)
        | (rw [hin3, bl_append])
        | (rw [hal3, List.map_append, hag.2])
  all_goals
    obtain rfl : i = P.length := by omega
    simp only [List.take_length, dePf_map] at *
    obtain ⟨e1, e2, e3, e4, e5, e6⟩ := joins_all hk hoi
    have hsh : shortF (aFds (fldsB (P.map (inF k)))) := short_of (by omega)
    have hP0 : anyF (P.map (inF k)) = decide (((P.map ePart).length : Int) > 0) := by rw [anyF_len, List.length_map]; exact decide_eq_decide.2 (by omega)
    have hj4 := join_le hsh
    have hj5 := aFds_len (fldsB P.flatten)
    simp only [e2, e3, e4, e5, hP0] at *
    have hm5 : (P.map (inF k)).length = P.length := List.length_map ..
    have hm6 : ((aFds (fldsB P.flatten)).map ePf).length = (aFds (fldsB P.flatten)).length := List.length_map ..
  all_goals first
    | exact ⟨by omega, e1⟩
    | exact ⟨⟨_, rfl, hsh⟩, by rw [List.length_map, List.length_map]; omega⟩
    | exact ⟨⟨_, rfl⟩, by omega⟩
    | exact ⟨⟨_, rfl⟩, by rw [e6], by omega⟩
    | omega
    | (exfalso; rename_i h; exact h rfl)
    | (exfalso; rename_i h; exact h trivial)
    | (exfalso; exact ‹¬ True› trivial)
    | (show EndP _ _ _ _ _ _
       refine EndP.mk [] ?_ <;> (repeat' first | trivial | rfl | exact eqS _ _ | refine And.intro ?_ ?_ | refine eqA ?_ | refine eqB ?_ | refine eqC ?_ | refine eqD ?_ | refine eqE ?_ | refine eqF ?_ | refine eqG ?_ | refine eqH ?_ | refine eqI ?_ ?_)
       done)
end Go.Proofs.YtbeejnmeakcpjaaDoor
