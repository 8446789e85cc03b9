/-
  The law of what a batch is beyond, walked.
-/
import Derived.Test.YtafgmmfbhpbogaaGreatDoorOVz
import Derived.Test.YtafgmmfbhpbogaaGreatDoorOVk
import Derived.Test.YtafgmmfbhpbogaaGreatDoorOVc
set_option linter.unusedSimpArgs false
set_option linter.unusedVariables false
set_option maxHeartbeats 4000000
namespace Go.Proofs.YtafgmmfbhpbogaaGreatDoor
open Go Go.VG
set_option maxRecDepth 100000
theorem bt_of_left {b : List Rs} (h : 0 ≤ leftB b 6000) : BtOK b := by
  obtain ⟨h1, h2, h3⟩ := leftB_ok (M := 6000) b 6000 (by omega) h
  have hf := flat_len (spansB b)
  refine ⟨by omega, by omega, fun s hs => ?_, by omega, fun r hr => ⟨?_, fun c hc => ?_⟩⟩
  · have := h2 s hs
    exact ⟨by have := this.e; omega, by have := this.k; omega⟩
  · have := (h3 r hr).s; omega
  · have := ((h3 r hr).c c hc).s; omega
theorem wf_mem : ∀ {xs : List V} {x : V}, V.wfL xs → x ∈ xs → x.wf
  | _ :: _, _, h, .head _ => h.1
  | _ :: _, _, h, .tail _ hm => wf_mem h.2 hm
theorem spansC_mem {s : Sp} : ∀ {l : List Sc}, s ∈ spansC l → ∃ c ∈ l, s ∈ c.spans
  | c :: l, h => by
    rw [spansC] at h
    rcases List.mem_append.1 h with h | h
    · exact ⟨c, .head _, h⟩
    · obtain ⟨d, h1, h2⟩ := spansC_mem h
      exact ⟨d, .tail _ h1, h2⟩
theorem spansB_mem {s : Sp} : ∀ {l : List Rs}, s ∈ spansB l → ∃ r ∈ l, s ∈ spansC r.scopes
  | c :: l, h => by
    rw [spansB] at h
    rcases List.mem_append.1 h with h | h
    · exact ⟨c, .head _, h⟩
    · obtain ⟨d, h1, h2⟩ := spansB_mem h
      exact ⟨d, .tail _ h1, h2⟩
theorem wf_list {f : Bool} {n : Nat} {l : List V} (h : (V.list f n l).wf) : V.wfL l := by
  simp only [V.wf] at h; exact h.2
theorem wf_agg {l : List V} (h : (V.agg l).wf) : V.wfL l := by
  simp only [V.wf] at h; exact h
theorem wf_lsS {s : Sp} (h : (eSp s).wf) : ∀ l ∈ lsS s, V.wfL (encM l) := by
  have h := wf_agg h
  intro l hl
  rcases List.mem_cons.1 hl with rfl | hl
  · exact wf_list (wf_mem (x := .list false 7 (encM s.attrs)) h (by simp [eSpc]))
  rcases List.mem_append.1 hl with hl | hl
  · obtain ⟨e, he, rfl⟩ := List.mem_map.1 hl
    have := wf_mem (wf_list (wf_mem (x := .list false 3 (s.evs.map eEv)) h (by simp [eSpc]))) (List.mem_map_of_mem (f := eEv) he)
    exact wf_list (wf_mem (x := .list false 7 (encM e.attrs)) (wf_agg this) (by simp [eEvc]))
  · obtain ⟨e, he, rfl⟩ := List.mem_map.1 hl
    have := wf_mem (wf_list (wf_mem (x := .list false 26 (s.lks.map eLk)) h (by simp [eSpc]))) (List.mem_map_of_mem (f := eLk) he)
    exact wf_list (wf_mem (x := .list false 7 (encM e.attrs)) (wf_agg this) (by simp [eLkc]))
theorem btv_of_left {b : List Rs} (h : 0 ≤ leftB b 6000) (hw : V.wfL (b.map eRs)) : BtV b := by
  obtain ⟨h1, h2, h3⟩ := leftB_ok (M := 6000) b 6000 (by omega) h
  refine ⟨fun l hl => ?_⟩
  rw [lsB] at hl
  rcases List.mem_append.1 hl with hl | hl
  · obtain ⟨r, hr, rfl⟩ := List.mem_map.1 hl
    have := wf_agg (wf_mem hw (List.mem_map_of_mem (f := eRs) hr))
    exact ⟨okM_of_wf _ (wf_list (wf_mem (x := .list false 7 (encM r.attrs)) this (by simp))), by have := (h3 r hr).a; omega⟩
  · obtain ⟨s, hs, hl⟩ := List.mem_flatMap.1 hl
    obtain ⟨r, hr, hs'⟩ := spansB_mem hs
    obtain ⟨c, hc, hs''⟩ := spansC_mem hs'
    have hr := wf_agg (wf_mem hw (List.mem_map_of_mem (f := eRs) hr))
    have hc := wf_agg (wf_mem (wf_list (wf_mem (x := .list false 3 (r.scopes.map eSc)) hr (by simp))) (List.mem_map_of_mem (f := eSc) hc))
    have hs3 := wf_mem (wf_list (wf_mem (x := .list false 42 (c.spans.map eSp)) hc (by simp))) (List.mem_map_of_mem (f := eSp) hs'')
    exact ⟨okM_of_wf _ (wf_lsS hs3 l hl), by have := (h2 s hs).l l hl; omega⟩
theorem f_lawOver_1 (p q : Po) (b : List Rs) (hl : leftB b 6000 < 0) : OK 3 [.agg (ePoc p), .agg (ePoc q), eBt b] [] (.bool true) none := by
  refine funOK_of_vc (C := cx [(4, sm_left28), (5, sm_xWorks)]) (good ⟨k_left28, k_xWorks, trivial⟩) (fn := Tryz.f3) rfl rfl rfl rfl fun hw _ => ?_
  repeat' ((conv => whnf); first | with_reducible (first | refine go1 (fun j q h => ?_) fun h => ?_ | refine go2 ⟨rfl, rfl⟩ (fun h => ?_) fun j h => ?_ | refine go2 ?_ (fun h => ?_) fun j h => ?_ | refine goQ ?_ (fun h => ?_) fun h => ?_) | apply go3 | apply go4 | apply go5 | ((first | apply go6 | apply go7 | apply go8 | apply go9 | apply goA) <;> intro h) | with_reducible (first | refine IdxK.mk _ rfl ?_ | refine goB ?_ fun hc => ?_ | refine goC ?_ fun hc => ?_ | refine goD ?_ fun hc => ?_ | refine goE ?_ fun hc => ?_ | apply goF | apply goG | refine goH ?_ fun b hb => ?_) | apply goI | apply goJ | apply goK | apply goL | apply goM | apply goN | apply goO | with_reducible refine goP ?_)
  all_goals try conv => whnf
  all_goals try (refine Side.mk ?_; try dsimp only)
  all_goals (try simp only [un_bt] at *)
  all_goals first
    | exact ⟨⟨_, rfl⟩, by omega, by omega⟩
    | exact ⟨trivial, trivial⟩
    | exact ⟨trivial, trivial, trivial⟩
    | trivial
    | exact decide_eq_true hl
    | (exfalso; omega)
    | (show EndP _ _ _ _ _ _
       refine EndP.mk [] ?_ <;> (repeat' first | trivial | rfl | exact eqS _ _ | apply andI | apply eqA | apply eqB | apply eqC | apply eqD | apply eqE | apply eqF | apply eqG | apply eqH | apply eqI)
       done)
    | skip
theorem f_lawOver_2 (p q : Po) (b : List Rs) (hl : 0 ≤ leftB b 6000) (hv : BtV b) : OK 3 [.agg (ePoc p), .agg (ePoc q), eBt b] [] (.bool true) none := by
  refine funOK_of_vc (C := cx [(4, sm_left28), (5, sm_xWorks), (6, sm_ovOwn), (7, sm_polOver), (8, sm_r48Over), (10, sm_ovTight), (9, sm_ovBack), (11, sm_ovTightD)]) (good ⟨k_left28, k_xWorks, k_ovOwn, k_polOver, k_r48Over, k_ovTight, k_ovBack, k_ovTightD, trivial⟩) (fn := Tryz.f3) rfl rfl rfl rfl fun hw _ => ?_
  have hb := bt_of_left hl
  have he := dOver_eq p b
  repeat' ((conv => whnf); first | with_reducible (first | refine go1 (fun j q h => ?_) fun h => ?_ | refine go2 ⟨rfl, rfl⟩ (fun h => ?_) fun j h => ?_ | refine go2 ?_ (fun h => ?_) fun j h => ?_ | refine goQ ?_ (fun h => ?_) fun h => ?_) | apply go3 | apply go4 | apply go5 | ((first | apply go6 | apply go7 | apply go8 | apply go9 | apply goA) <;> intro h) | with_reducible (first | refine IdxK.mk _ rfl ?_ | refine goB ?_ fun hc => ?_ | refine goC ?_ fun hc => ?_ | refine goD ?_ fun hc => ?_ | refine goE ?_ fun hc => ?_ | apply goF | apply goG | refine goH ?_ fun b hb => ?_) | apply goI | apply goJ | apply goK | apply goL | apply goM | apply goN | apply goO | with_reducible refine goP ?_)
  all_goals try conv => whnf
  all_goals try (refine Side.mk ?_; try dsimp only)
  all_goals (try simp only [un_bt] at *)
  all_goals first
    | exact ⟨⟨_, rfl⟩, by omega, by omega⟩
    | exact ⟨⟨_, rfl⟩, hb, hv⟩
    | exact ⟨trivial, trivial⟩
    | exact ⟨trivial, trivial, trivial⟩
    | trivial
    | exact decide_eq_true hl
    | (exfalso; omega)
    | (show EndP _ _ _ _ _ _
       refine EndP.mk [] ?_ <;> (repeat' first | trivial | rfl | exact eqS _ _ | apply andI | apply eqA | apply eqB | apply eqC | apply eqD | apply eqE | apply eqF | apply eqG | apply eqH | apply eqI)
       done)
    | skip
  · exfalso
    simp at *
  all_goals first
    | exact absurd he.symm (by assumption)
    | (exfalso
       simp_all
       done)
    | skip
end Go.Proofs.YtafgmmfbhpbogaaGreatDoor
