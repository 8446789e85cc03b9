/-
  What was written without an error is read as structs: the law's walk.
-/
import Derived.Test.YtcgjkjabcdeagaaDoorCVf
import Derived.Test.YtcgjkjabcdeagaaDoorCWx
set_option linter.unusedSimpArgs false
set_option linter.unusedVariables false
set_option maxHeartbeats 4000000
namespace Go.Proofs.YtcgjkjabcdeagaaDoor
open Go Go.VG
set_option maxRecDepth 100000
def wT (l : List COp) (i : Nat) : CS := (l.take i).foldl (fun s o => s.op o) .new
theorem wT_next {l : List COp} {i : Nat} (h : i < l.length) : wT l (i + 1) = (wT l i).op (l.getD i default) := by
  unfold wT; rw [take_nextC h, List.foldl_append]; rfl
theorem wf_co2 {l : List COp} (h : V.wfL (l.map eCo)) {i : Nat} (hi : i < l.length) : (0 ≤ (l.getD i default).what ∧ (l.getD i default).what ≤ 255) ∧ 0 ≤ (l.getD i default).bits ∧ (l.getD i default).bits ≤ 18446744073709551615 := by
  have := wfL_iff.1 h (eCo (l.getD i default)) (List.mem_map.2 ⟨l.getD i default, by rw [List.getD_eq_getElem?_getD, List.getElem?_eq_getElem hi]; exact List.getElem_mem hi, rfl⟩)
  exact ⟨this.2.2.2.1, this.2.2.2.2.1⟩
theorem done_bad {w : CS} (h : w.done.2 ≠ 0) : w.done.1 = [] := by
  unfold CS.done at h ⊢
  repeat' split
  all_goals first
    | rfl
    | (exfalso; simp_all; done)
theorem k_rStruct31 : SOK 12 (sm_rStructA 31) := k_rStructA 31 (k_rValA 31 (k_rRaw 31 (k_skip 31 (k_skValue 31))))
/-- the structs that are left -/
structure SL (l : List COp) (x : Nat × List (List UInt8)) : Prop where
  h : ∀ y ∈ x.2, VT 32 12 y
  n : x.1 + x.2.length ≤ l.length
  b : x.2.flatten.length ≤ 100000
theorem SL.s {l : List COp} {i : Nat} {m : List (List UInt8)} (h : SL l (i, m)) (hm : m.flatten ≠ []) :
    (aFine 31 m.flatten ∧ 1 ≤ aAt 31 m.flatten ∧ aAt 31 m.flatten ≤ m.flatten.length) ∧ ∃ m', m.flatten.drop (aAt 31 m.flatten) = m'.flatten ∧ SL l (i + 1, m') ∧ i < l.length := by
  cases m with
  | nil => exact absurd rfl hm
  | cons x m =>
    rw [List.flatten_cons]
    have h1 := h.n
    have h2 := h.b
    rw [List.flatten_cons, List.length_append] at h2
    rw [List.length_cons] at h1
    obtain ⟨a1, a2, a3⟩ := aRun_put (t := m.flatten) (h.h x List.mem_cons_self)
    refine ⟨⟨a1, by omega, by rw [List.length_append]; omega⟩, m, by rw [a2, List.drop_left], ⟨fun y hy => h.h y (List.mem_cons_of_mem _ hy), ?_, ?_⟩, ?_⟩
    · show i + 1 + m.length ≤ l.length; dsimp only at h1; omega
    · show m.flatten.length ≤ 100000; omega
    · dsimp only at h1; omega
theorem SL.e {l : List COp} {i : Nat} {m : List (List UInt8)} (h : SL l (i, m)) (hi : ¬ (i : Int) < l.length) : m.flatten = [] := by
  have h1 := h.n
  dsimp only at h1
  obtain rfl : m = [] := List.length_eq_zero_iff.1 (by omega)
  rfl
theorem f_cwReads (l : List COp) : OK 4 [.list false 6 (l.map eCo)] [] (.bool true) none := by
  refine funOK_of_vc (C := cx [(6, sm_cwWorks), (7, sm_cwNew), (8, sm_cwDo), (10, sm_cwDone), (12, sm_rStructA 31)]) (good ⟨k_cwWorks, k_cwNew, k_cwDo, k_cwDone, k_rStruct31, trivial⟩) (fn := Tryd.f4) rfl rfl rfl rfl fun hw hs => ?_
  have hwf := fun {i : Nat} => @wf_co l hw.1.2 i
  have hwf2 := fun {i : Nat} => @wf_co2 l hw.1.2 i
  have e1 : (l.map eCo).length = l.length := by simp
  repeat' ((conv => whnf); first | with_reducible (first | refine go1 (fun j q h => ?_) fun h => ?_ | refine go2 ⟨rfl, rfl⟩ (fun h => ?_) fun j h => ?_ | refine go2 ?_ (fun h => ?_) fun j h => ?_ | refine goQ ?_ (fun h => ?_) fun h => ?_) | apply go3 | apply go4 | apply go5 | ((first | apply go6 | apply go7 | apply go8 | apply go9 | apply goA) <;> intro h) | with_reducible (first | refine IdxK.mk _ rfl ?_ | refine goB ?_ fun hc => ?_ | refine goC ?_ fun hc => ?_ | refine goD ?_ fun hc => ?_ | refine goE ?_ fun hc => ?_ | apply goF | apply goG | refine goH ?_ fun b hb => ?_) | apply goI | apply goJ | apply goK | apply goL | apply goM | apply goN | apply goO | with_reducible refine goP ?_)
  all_goals try conv => whnf
  all_goals try (refine Side.mk ?_; try dsimp only)
  all_goals (try simp only [COp_eta, CS_eta] at *)
  all_goals first | refine stay ?_ | trivial | omega | (simp (discharger := omega) only [wR]; omega) | (simp only [lnS]; omega) | (simp (discharger := omega) [-List.getD_eq_getElem?_getD, wR] <;> omega) | skip
  · refine EndP.mk [] ?_ <;> (repeat' first | trivial | rfl | exact eqS _ _ | apply andI | apply eqA | apply eqB | apply eqC | apply eqD | apply eqE | apply eqF | apply eqG | apply eqH | apply eqI)
  refine LoopP.mk Nat (fun i => i ≤ l.length ∧ CI i (wT l i) ∧ (wT l i).out.length ≤ i * 300 ∧ (wT l i).l.length ≤ i) (fun i => ⟨84, [(0, .list false 6 (l.map eCo)), (3, .ptr 0 0), (4, .int .i64 i)], eCw (wT l i), [1, 2]⟩) (fun i => l.length - i) [] 0 ⟨Nat.zero_le _, .top [] (fun _ h => by cases h) (Nat.le_refl 0), by simp [wT, CS.new], by simp [wT, CS.new]⟩ ?_ (fun i ⟨hi, hI, ho, hl⟩ _ _ => ?_)
  · refine Go.VG.Sub.mk rfl ?_ ?_ ?_ ?_ <;> (repeat' first | trivial | rfl | exact eqS _ _ | apply andI | apply eqA | apply eqB | apply eqC | apply eqD | apply eqE | apply eqF | apply eqG | apply eqH | apply eqI)
  have hn := fun h => wT_next (l := l) (i := i) h
  generalize hw' : wT l i = w at *
  have hwf := @hwf i
  have hwf2 := @hwf2 i
  generalize hO : l.getD i default = o at *
  repeat' ((conv => whnf); first | with_reducible (first | refine go1 (fun j q h => ?_) fun h => ?_ | refine go2 ⟨rfl, rfl⟩ (fun h => ?_) fun j h => ?_ | refine go2 ?_ (fun h => ?_) fun j h => ?_ | refine goQ ?_ (fun h => ?_) fun h => ?_) | apply go3 | apply go4 | apply go5 | ((first | apply go6 | apply go7 | apply go8 | apply go9 | apply goA) <;> intro h) | with_reducible (first | refine IdxK.mk _ rfl ?_ | refine goB ?_ fun hc => ?_ | refine goC ?_ fun hc => ?_ | refine goD ?_ fun hc => ?_ | refine goE ?_ fun hc => ?_ | apply goF | apply goG | refine goH ?_ fun b hb => ?_) | apply goI | apply goJ | apply goK | apply goL | apply goM | apply goN | apply goO | with_reducible refine goP ?_)
  all_goals try conv => whnf
  all_goals try (refine Side.mk ?_; try dsimp only)
  all_goals (try simp only [COp_eta, CS_eta] at *)
  all_goals first | refine stay ?_ | trivial | omega | (simp (discharger := omega) only [wR]; omega) | (simp only [lnS]; omega) | (simp (discharger := omega) [-List.getD_eq_getElem?_getD, wR] <;> omega) | skip
  all_goals (try simp only [hO, deC_e, List.length_map] at *)
  · refine EndP.mk [] ?_ <;> (repeat' first | trivial | rfl | exact eqS _ _ | apply andI | apply eqA | apply eqB | apply eqC | apply eqD | apply eqE | apply eqF | apply eqG | apply eqH | apply eqI)
  · exact ⟨trivial, okC_e (by omega) (by omega), ⟨by omega, by omega⟩, by omega⟩
  · have hlt : i < l.length := by omega
    have hln := op_len w o (by omega) (hwf hlt)
    have hf := hwf2 hlt
    have hc := hI.op (o := o) ⟨hwf hlt, hf.1, hf.2, by omega⟩
    have hn := hn hlt
    rw [← hn] at hln hc ⊢
    refine ⟨[], i + 1, ⟨hlt, hc, by omega, by omega⟩, ?_, by omega⟩
    refine Go.VG.Sub.mk rfl ?_ ?_ ?_ ?_ <;> (repeat' first | trivial | rfl | exact eqS _ _ | apply andI | apply eqA | apply eqB | apply eqC | apply eqD | apply eqE | apply eqF | apply eqG | apply eqH | apply eqI)
    (first | omega | (simp (discharger := omega) only [wR]; omega) | (simp only [lnS]; omega) | (simp (discharger := omega) [-List.getD_eq_getElem?_getD, wR] <;> omega))
  · exact ⟨okC_e (by omega) (by omega), trivial⟩
  · have h0 : w.done.2 = 0 := by omega
    obtain ⟨m, e2, hm, hml⟩ := hI.doneT h0
    have hol : w.done.1.length ≤ w.out.length := by
      unfold CS.done
      repeat' split
      all_goals simp
    rw [e2] at hol
    simp only [h0, e2]
    refine LoopP.mk (Nat × List (List UInt8)) (SL l) (fun x => ⟨84, [(0, .list false 6 (l.map eCo)), (5, .str x.2.flatten), (7, .int .i64 x.1)], eCw w, [1, 2]⟩) (fun x => l.length - x.1) [] (0, m) ⟨hm, by show 0 + m.length ≤ _; omega, by show m.flatten.length ≤ _; omega⟩ ?_ (fun ⟨i, m⟩ hI _ _ => ?_)
    · refine Go.VG.Sub.mk rfl ?_ ?_ ?_ ?_ <;> (repeat' first | trivial | rfl | exact eqS _ _ | apply andI | apply eqA | apply eqB | apply eqC | apply eqD | apply eqE | apply eqF | apply eqG | apply eqH | apply eqI)
    have hs := fun h => hI.s h
    have he := fun h => hI.e h
    have hb := hI.b
    dsimp only at hb
    repeat' ((conv => whnf); first | with_reducible (first | refine go1 (fun j q h => ?_) fun h => ?_ | refine go2 ⟨rfl, rfl⟩ (fun h => ?_) fun j h => ?_ | refine go2 ?_ (fun h => ?_) fun j h => ?_ | refine goQ ?_ (fun h => ?_) fun h => ?_) | apply go3 | apply go4 | apply go5 | ((first | apply go6 | apply go7 | apply go8 | apply go9 | apply goA) <;> intro h) | with_reducible (first | refine IdxK.mk _ rfl ?_ | refine goB ?_ fun hc => ?_ | refine goC ?_ fun hc => ?_ | refine goD ?_ fun hc => ?_ | refine goE ?_ fun hc => ?_ | apply goF | apply goG | refine goH ?_ fun b hb => ?_) | apply goI | apply goJ | apply goK | apply goL | apply goM | apply goN | apply goO | with_reducible refine goP ?_)
    all_goals try conv => whnf
    all_goals try (refine Side.mk ?_; try dsimp only)
    all_goals (try simp only [COp_eta, CS_eta] at *)
    all_goals first | refine stay ?_ | trivial | omega | (simp (discharger := omega) only [wR]; omega) | (simp only [lnS]; omega) | (simp (discharger := omega) [-List.getD_eq_getElem?_getD, wR] <;> omega) | skip
    all_goals (try simp only [List.length_map] at *)
    all_goals first
      | (exfalso; exact absurd (‹m.flatten = []›) (by assumption))
      | (exfalso; exact absurd (he (by omega)) (by assumption))
      | (exfalso; have := (hs (by assumption)).1; omega)
      | (have := hs (by assumption); exact ⟨this.1.1, by omega, by omega⟩)
      | (show EndP _ _ _ _ _ _
         refine EndP.mk [] ?_ <;> (repeat' first | trivial | rfl | exact eqS _ _ | apply andI | apply eqA | apply eqB | apply eqC | apply eqD | apply eqE | apply eqF | apply eqG | apply eqH | apply eqI)
         done)
      | skip
    obtain ⟨_, m', e3, hI', hlt⟩ := hs (by assumption)
    refine ⟨[], (i + 1, m'), hI', ?_, by show l.length - (i + 1) < l.length - i; omega⟩
    rw [← e3]
    refine Go.VG.Sub.mk rfl ?_ ?_ ?_ ?_ <;> (repeat' first | trivial | rfl | exact eqS _ _ | apply andI | apply eqA | apply eqB | apply eqC | apply eqD | apply eqE | apply eqF | apply eqG | apply eqH | apply eqI)
    (first | omega | (simp (discharger := omega) only [wR]; omega) | (simp only [lnS]; omega) | (simp (discharger := omega) [-List.getD_eq_getElem?_getD, wR] <;> omega))
  · refine EndP.mk [] ?_ <;> (repeat' first | trivial | rfl | exact eqS _ _ | apply andI | apply eqA | apply eqB | apply eqC | apply eqD | apply eqE | apply eqF | apply eqG | apply eqH | apply eqI)
  · exact absurd (done_bad (w := w) (by assumption)) (by assumption)
end Go.Proofs.YtcgjkjabcdeagaaDoor
