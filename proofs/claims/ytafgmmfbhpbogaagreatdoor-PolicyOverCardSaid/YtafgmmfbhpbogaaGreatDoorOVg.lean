/-
  Which limit a batch is beyond, as the program tells it.
-/
import Derived.Test.YtafgmmfbhpbogaaGreatDoorOVf
import Derived.Test.YtafgmmfbhpbogaaGreatDoorPText2
set_option linter.unusedSimpArgs false
set_option linter.unusedVariables false
set_option maxHeartbeats 4000000
namespace Go.Proofs.YtafgmmfbhpbogaaGreatDoor
open Go Go.VG
set_option maxRecDepth 100000
abbrev ePo (p : Po) : V := .agg [.int .i64 p.inp, .int .i64 p.txt, .int .i64 p.res, .int .i64 p.spn, .int .i64 p.att]
/-- the values of a batch are such as may be told -/
structure BtV (b : List Rs) : Prop where
  v : ∀ l ∈ lsB b, okM l ∧ sizeM l ≤ 6000
theorem lsB_len (b : List Rs) : (lsB b).length = b.length + ((spansB b).flatMap lsS).length := by unfold lsB; simp
theorem any_next {α : Type} [Inhabited α] {f : α → Bool} {l : List α} {i : Nat} (h : i < l.length) : (l.take (i + 1)).any f = ((l.take i).any f || f (l.getD i default)) := by rw [take_nextV h, List.any_append]; simp
theorem any_at {α : Type} [Inhabited α] {f : α → Bool} {l : List α} {i : Nat} (h : i < l.length) (hf : f (l.getD i default) = true) : l.any f = true := List.any_eq_true.2 ⟨_, getD_mem h, hf⟩
theorem over_1 {p : Po} {b : List Rs} (h : (b.length : Int) > p.res ∨ ((spansB b).length : Int) > p.spn) : overC p b = 34 := by unfold overC; rw [if_pos h]
theorem over_2 {p : Po} {b : List Rs} (h : tooMany p (lsB b) = true) : overC p b = 34 := by
  unfold overC
  rw [if_pos h]
  split <;> rfl
theorem over_3 {p : Po} {b : List Rs} (h1 : ¬ ((b.length : Int) > p.res ∨ ((spansB b).length : Int) > p.spn)) (h2 : tooMany p (lsB b) = false) (h : (lsB b).any (tooLong p) = true) : overC p b = 35 := by
  unfold overC; rw [if_neg h1, if_neg (by rw [h2]; decide), if_pos h]
theorem over_4 {p : Po} {b : List Rs} (h1 : ¬ ((b.length : Int) > p.res ∨ ((spansB b).length : Int) > p.spn)) (h2 : tooMany p (lsB b) = false) (h : (lsB b).any (tooLong p) = false) : overC p b = 0 := by
  unfold overC; rw [if_neg h1, if_neg (by rw [h2]; decide), if_neg (by rw [h]; decide)]
theorem sizeM_len : ∀ l : List Att, l.length ≤ sizeM l
  | [] => Nat.zero_le _
  | a :: l => by
    have := sizeM_len l
    rw [sizeM, sizeA_eq, size_eq, List.length_cons]; omega
-- #name polOver (policy.Policy).Over
noncomputable def sm_polOver : Sm := fun args σ => match args, σ with
  | [.agg [.int .i64 a, .int .i64 t, .int .i64 r, .int .i64 s, .int .i64 q], x], [] => some ((∃ b, x = eBt b) ∧ BtOK (unE eBt x) ∧ BtV (unE eBt x), .int .i64 (overC ⟨a, t, r, s, q⟩ (unE eBt x)), none)
  | _, _ => none
theorem f_polOver (p : Po) (b : List Rs) (hb : BtOK b) (hv : BtV b) : OK 7 [ePo p, eBt b] [] (.int .i64 (overC p b)) none := by
  refine funOK_of_vc (C := cx [(17, sm_batCount), (18, sm_polLists), (19, sm_Text)]) (good ⟨k_batCount, k_polLists, k_Text, trivial⟩) (fn := Tryz.f7) rfl rfl rfl rfl fun hw _ => ?_
  have hb0 : (b.map eRs).length = b.length := List.length_map _
  have hf := hb.f
  have hr := hb.r
  have hL := lsB_len b
  repeat' ((conv => whnf); first | with_reducible (first | refine go1 (fun j q h => ?_) fun h => ?_ | refine go2 ⟨rfl, rfl⟩ (fun h => ?_) fun j h => ?_ | refine go2 ?_ (fun h => ?_) fun j h => ?_ | refine goQ ?_ (fun h => ?_) fun h => ?_) | apply go3 | apply go4 | apply go5 | ((first | apply go6 | apply go7 | apply go8 | apply go9 | apply goA) <;> intro h) | with_reducible (first | refine IdxK.mk _ rfl ?_ | refine idx_encL ?_ ?_ | refine idx_encM ?_ ?_ | refine goB ?_ fun hc => ?_ | refine goC ?_ fun hc => ?_ | refine goD ?_ fun hc => ?_ | refine goE ?_ fun hc => ?_ | apply goF | apply goG | refine goH ?_ fun b hb => ?_) | apply goI | apply goJ | apply goK | apply goL | apply goM | apply goN | apply goO | with_reducible refine goP ?_)
  all_goals try conv => whnf
  all_goals try (refine Side.mk ?_; try dsimp only)
  all_goals first | refine stay ?_ | trivial | omega | (simp (discharger := omega) only [wR]; omega) | (simp only [lnS]; omega) | (simp (discharger := omega) [-List.getD_eq_getElem?_getD, wR] <;> omega) | skip
  all_goals (try simp only [hb0, un_bt] at *)
  · rw [over_1 (.inl (by assumption))]
    refine EndP.mk [] ?_ <;> (repeat' first | trivial | rfl | exact eqS _ _ | apply andI | apply eqA | apply eqB | apply eqC | apply eqD | apply eqE | apply eqF | apply eqG | apply eqH | apply eqI)
  · exact ⟨⟨_, rfl⟩, hb⟩
  · rw [over_1 (.inr (by assumption))]
    refine EndP.mk [] ?_ <;> (repeat' first | trivial | rfl | exact eqS _ _ | apply andI | apply eqA | apply eqB | apply eqC | apply eqD | apply eqE | apply eqF | apply eqG | apply eqH | apply eqI)
  · exact ⟨⟨_, rfl⟩, hb⟩
  have h1 : ¬ ((b.length : Int) > p.res ∨ ((spansB b).length : Int) > p.spn) := by omega
  have hl0 : ((lsB b).map eLs).length = (lsB b).length := List.length_map _
  refine LoopP.mk Nat (fun i => i ≤ (lsB b).length ∧ tooMany p ((lsB b).take i) = false) (fun i => ⟨64, [(2, .ptr 0 0), (5, .buf 2), (29, .buf 2), (30, .int .i64 (lsB b).length), (31, .int .i64 i)], [.cells [.int .i64 p.inp, .int .i64 p.txt, .int .i64 p.res, .int .i64 p.spn, .int .i64 p.att], .cells [.list false 2 (b.map eRs)], .buf 1 0 ((lsB b).map eLs)], []⟩) (fun i => (lsB b).length - i) [] 0 ⟨Nat.zero_le _, rfl⟩ ?_ (fun i ⟨hi, hn⟩ _ _ => ?_)
  · refine Go.VG.Sub.mk rfl ?_ ?_ ?_ ?_ <;> (repeat' first | trivial | rfl | exact eqS _ _ | apply andI | apply eqA | apply eqB | apply eqC | apply eqD | apply eqE | apply eqF | apply eqG | apply eqH | apply eqI)
    all_goals (first | (rw [hl0]; done))
  have hnx := fun h => any_next (f := fun l : List Att => decide ((l.length : Int) > p.att)) (l := lsB b) (i := i) h
  have hml : (encM ((lsB b).getD i default)).length = ((lsB b).getD i default).length := encM_length _
  repeat' ((conv => whnf); first | with_reducible (first | refine go1 (fun j q h => ?_) fun h => ?_ | refine go2 ⟨rfl, rfl⟩ (fun h => ?_) fun j h => ?_ | refine go2 ?_ (fun h => ?_) fun j h => ?_ | refine goQ ?_ (fun h => ?_) fun h => ?_) | apply go3 | apply go4 | apply go5 | ((first | apply go6 | apply go7 | apply go8 | apply go9 | apply goA) <;> intro h) | with_reducible (first | refine IdxK.mk _ rfl ?_ | refine idx_encL ?_ ?_ | refine idx_encM ?_ ?_ | refine goB ?_ fun hc => ?_ | refine goC ?_ fun hc => ?_ | refine goD ?_ fun hc => ?_ | refine goE ?_ fun hc => ?_ | apply goF | apply goG | refine goH ?_ fun b hb => ?_) | apply goI | apply goJ | apply goK | apply goL | apply goM | apply goN | apply goO | with_reducible refine goP ?_)
  all_goals try conv => whnf
  all_goals try (refine Side.mk ?_; try dsimp only)
  all_goals first | refine stay ?_ | trivial | omega | (simp (discharger := omega) only [wR]; omega) | (simp only [lnS]; omega) | (simp (discharger := omega) [-List.getD_eq_getElem?_getD, wR] <;> omega) | skip
  all_goals (try simp only [hl0] at *)
  · have hlt : i < (lsB b).length := by omega
    have hT : tooMany p (lsB b) = true := any_at hlt (decide_eq_true (by omega))
    rw [over_2 hT]
    refine EndP.mk [] ?_ <;> (repeat' first | trivial | rfl | exact eqS _ _ | apply andI | apply eqA | apply eqB | apply eqC | apply eqD | apply eqE | apply eqF | apply eqG | apply eqH | apply eqI)
  · have hlt : i < (lsB b).length := by omega
    have e := hnx hlt
    refine ⟨[], i + 1, ⟨hlt, e.trans ?_⟩, ?_, by omega⟩
    · rw [show (((lsB b).take i).any fun l : List Att => decide ((l.length : Int) > p.att)) = false from hn, decide_eq_false (by omega)]; rfl
    refine Go.VG.Sub.mk rfl ?_ ?_ ?_ ?_ <;> (repeat' first | trivial | rfl | exact eqS _ _ | apply andI | apply eqA | apply eqB | apply eqC | apply eqD | apply eqE | apply eqF | apply eqG | apply eqH | apply eqI)
    rw [wi64]; omega
  obtain rfl : i = (lsB b).length := by omega
  rw [List.take_length] at hn
  refine LoopP.mk Nat (fun i => i ≤ (lsB b).length ∧ ((lsB b).take i).any (tooLong p) = false) (fun i => ⟨64, [(2, .ptr 0 0), (42, .buf 2), (43, .int .i64 (lsB b).length), (44, .int .i64 i)], [.cells [.int .i64 p.inp, .int .i64 p.txt, .int .i64 p.res, .int .i64 p.spn, .int .i64 p.att], .cells [.list false 2 (b.map eRs)], .buf 1 0 ((lsB b).map eLs)], []⟩) (fun i => (lsB b).length - i) [] 0 ⟨Nat.zero_le _, rfl⟩ ?_ (fun i ⟨hi, ht⟩ _ _ => ?_)
  · refine Go.VG.Sub.mk rfl ?_ ?_ ?_ ?_ <;> (repeat' first | trivial | rfl | exact eqS _ _ | apply andI | apply eqA | apply eqB | apply eqC | apply eqD | apply eqE | apply eqF | apply eqG | apply eqH | apply eqI)
  have htx := fun h => any_next (f := tooLong p) (l := lsB b) (i := i) h
  have hml : (encM ((lsB b).getD i default)).length = ((lsB b).getD i default).length := encM_length _
  repeat' ((conv => whnf); first | with_reducible (first | refine go1 (fun j q h => ?_) fun h => ?_ | refine go2 ⟨rfl, rfl⟩ (fun h => ?_) fun j h => ?_ | refine go2 ?_ (fun h => ?_) fun j h => ?_ | refine goQ ?_ (fun h => ?_) fun h => ?_) | apply go3 | apply go4 | apply go5 | ((first | apply go6 | apply go7 | apply go8 | apply go9 | apply goA) <;> intro h) | with_reducible (first | refine IdxK.mk _ rfl ?_ | refine idx_encL ?_ ?_ | refine idx_encM ?_ ?_ | refine goB ?_ fun hc => ?_ | refine goC ?_ fun hc => ?_ | refine goD ?_ fun hc => ?_ | refine goE ?_ fun hc => ?_ | apply goF | apply goG | refine goH ?_ fun b hb => ?_) | apply goI | apply goJ | apply goK | apply goL | apply goM | apply goN | apply goO | with_reducible refine goP ?_)
  all_goals try conv => whnf
  all_goals try (refine Side.mk ?_; try dsimp only)
  all_goals first | refine stay ?_ | trivial | omega | (simp (discharger := omega) only [wR]; omega) | (simp only [lnS]; omega) | (simp (discharger := omega) [-List.getD_eq_getElem?_getD, wR] <;> omega) | skip
  all_goals (try simp only [hl0] at *)
  · have hlt : i < (lsB b).length := by omega
    have hvl := hv.v _ (getD_mem hlt)
    have hsl := sizeM_len ((lsB b).getD i default)
    refine LoopP.mk Nat (fun k => k ≤ ((lsB b).getD i default).length ∧ tooLong p (((lsB b).getD i default).take k) = false) (fun k => ⟨64, [(2, .ptr 0 0), (42, .buf 2), (43, .int .i64 (lsB b).length), (44, .int .i64 i), (48, eLs ((lsB b).getD i default)), (49, .int .i64 ((lsB b).getD i default).length), (50, .int .i64 k)], [.cells [.int .i64 p.inp, .int .i64 p.txt, .int .i64 p.res, .int .i64 p.spn, .int .i64 p.att], .cells [.list false 2 (b.map eRs)], .buf 1 0 ((lsB b).map eLs)], []⟩) (fun k => ((lsB b).getD i default).length - k) [] 0 ⟨Nat.zero_le _, rfl⟩ ?_ (fun k ⟨hk, htk⟩ _ _ => ?_)
    · refine Go.VG.Sub.mk rfl ?_ ?_ ?_ ?_ <;> (repeat' first | trivial | rfl | exact eqS _ _ | apply andI | apply eqA | apply eqB | apply eqC | apply eqD | apply eqE | apply eqF | apply eqG | apply eqH | apply eqI)
      all_goals (first | (rw [hml]; done))
    have hkx := fun h => any_next (f := fun a : Att => decide (((text a.value).length : Int) > p.txt)) (l := (lsB b).getD i default) (i := k) h
    have hok := fun h => okM_get hvl.1 (i := k) h
    have hsz := fun h => sizeM_get (l := (lsB b).getD i default) (i := k) h
    repeat' ((conv => whnf); first | with_reducible (first | refine go1 (fun j q h => ?_) fun h => ?_ | refine go2 ⟨rfl, rfl⟩ (fun h => ?_) fun j h => ?_ | refine go2 ?_ (fun h => ?_) fun j h => ?_ | refine goQ ?_ (fun h => ?_) fun h => ?_) | apply go3 | apply go4 | apply go5 | ((first | apply go6 | apply go7 | apply go8 | apply go9 | apply goA) <;> intro h) | with_reducible (first | refine IdxK.mk _ rfl ?_ | refine idx_encL ?_ ?_ | refine idx_encM ?_ ?_ | refine goB ?_ fun hc => ?_ | refine goC ?_ fun hc => ?_ | refine goD ?_ fun hc => ?_ | refine goE ?_ fun hc => ?_ | apply goF | apply goG | refine goH ?_ fun b hb => ?_) | apply goI | apply goJ | apply goK | apply goL | apply goM | apply goN | apply goO | with_reducible refine goP ?_)
    all_goals try conv => whnf
    all_goals try (refine Side.mk ?_; try dsimp only)
    all_goals first | refine stay ?_ | trivial | omega | (simp (discharger := omega) only [wR]; omega) | (simp only [lnS]; omega) | (simp (discharger := omega) [-List.getD_eq_getElem?_getD, wR] <;> omega) | skip
    all_goals (try simp only [hml, decV_ev] at *)
    · have hkl : k < ((lsB b).getD i default).length := by omega
      refine ⟨isV_ev _, ?_, ?_⟩
      · exact hok hkl
      · have := hsz hkl; omega
    · have hkl : k < ((lsB b).getD i default).length := by omega
      have hT : (lsB b).any (tooLong p) = true := any_at hlt (any_at hkl (decide_eq_true (by omega)))
      rw [over_3 h1 hn hT]
      refine EndP.mk [] ?_ <;> (repeat' first | trivial | rfl | exact eqS _ _ | apply andI | apply eqA | apply eqB | apply eqC | apply eqD | apply eqE | apply eqF | apply eqG | apply eqH | apply eqI)
    · have hkl : k < ((lsB b).getD i default).length := by omega
      have e := hkx hkl
      refine ⟨[], k + 1, ⟨hkl, e.trans ?_⟩, ?_, by omega⟩
      · rw [show ((((lsB b).getD i default).take k).any fun a : Att => decide (((text a.value).length : Int) > p.txt)) = false from htk, decide_eq_false (by omega)]; rfl
      refine Go.VG.Sub.mk rfl ?_ ?_ ?_ ?_ <;> (repeat' first | trivial | rfl | exact eqS _ _ | apply andI | apply eqA | apply eqB | apply eqC | apply eqD | apply eqE | apply eqF | apply eqG | apply eqH | apply eqI)
      rw [wi64]; omega
    · obtain rfl : k = ((lsB b).getD i default).length := by omega
      rw [List.take_length] at htk
      have e := htx hlt
      refine ⟨[], i + 1, ⟨hlt, e.trans ?_⟩, ?_, by omega⟩
      · rw [ht, htk]; rfl
      refine Go.VG.Sub.mk rfl ?_ ?_ ?_ ?_ <;> (repeat' first | trivial | rfl | exact eqS _ _ | apply andI | apply eqA | apply eqB | apply eqC | apply eqD | apply eqE | apply eqF | apply eqG | apply eqH | apply eqI)
      rw [wi64]; omega
  · obtain rfl : i = (lsB b).length := by omega
    rw [List.take_length] at ht
    rw [over_4 h1 hn ht]
    refine EndP.mk [] ?_ <;> (repeat' first | trivial | rfl | exact eqS _ _ | apply andI | apply eqA | apply eqB | apply eqC | apply eqD | apply eqE | apply eqF | apply eqG | apply eqH | apply eqI)
theorem k_polOver : SOK 7 sm_polOver := by
  intro args sg pre x r he hp
  unfold sm_polOver at he
  split at he <;> cases he
  obtain ⟨⟨s, rfl⟩, hp⟩ := hp
  rw [un_bt] at hp ⊢
  exact f_polOver ⟨_, _, _, _, _⟩ s hp.1 hp.2
end Go.Proofs.YtafgmmfbhpbogaaGreatDoor
