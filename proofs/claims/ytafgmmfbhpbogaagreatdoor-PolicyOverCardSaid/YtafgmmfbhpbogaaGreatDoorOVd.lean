/-
  A batch's spans are gone through: how many there are.
-/
import Derived.Test.YtafgmmfbhpbogaaGreatDoorOVc
set_option linter.unusedSimpArgs false
set_option linter.unusedVariables false
set_option maxHeartbeats 4000000
namespace Go.Proofs.YtafgmmfbhpbogaaGreatDoor
open Go Go.VG
set_option maxRecDepth 100000
theorem f_batAll_1 (l : List V) (hp : True) : OK 28 ([.agg [.list false 2 l]]) ([]) (.func (.func 34) [] [.ptr 0 0]) (some [.cells [.list false 2 l]]) := by
  refine funOK_of_vc (C := cx []) (good trivial) (fn := Tryz.f28) rfl rfl rfl rfl fun hw hs => ?_
  repeat' ((conv => whnf); first | with_reducible (first | refine go1 (fun j q h => ?_) fun h => ?_ | refine go2 ⟨rfl, rfl⟩ (fun h => ?_) fun j h => ?_ | refine go2 ?_ (fun h => ?_) fun j h => ?_ | refine goQ ?_ (fun h => ?_) fun h => ?_) | apply go3 | apply go4 | apply go5 | ((first | apply go6 | apply go7 | apply go8 | apply go9 | apply goA) <;> intro h) | with_reducible (first | refine IdxK.mk _ rfl ?_ | refine idx_encL ?_ ?_ | refine idx_encM ?_ ?_ | refine goB ?_ fun hc => ?_ | refine goC ?_ fun hc => ?_ | refine goD ?_ fun hc => ?_ | refine goE ?_ fun hc => ?_ | apply goF | apply goG | refine goH ?_ fun b hb => ?_) | apply goI | apply goJ | apply goK | apply goL | apply goM | apply goN | apply goO | with_reducible refine goP ?_)
  all_goals try conv => whnf
  all_goals try (refine Side.mk ?_; try dsimp only)
  all_goals first | refine stay ?_ | trivial | omega | (simp (discharger := omega) only [wR]; omega) | (simp only [lnS]; omega) | (simp (discharger := omega) [-List.getD_eq_getElem?_getD, wR] <;> omega) | skip
  refine EndP.mk [] ?_ <;> (repeat' first | trivial | rfl | exact eqS _ _ | apply andI | apply eqA | apply eqB | apply eqC | apply eqD | apply eqE | apply eqF | apply eqG | apply eqH | apply eqI)
def sm_batAll : Sm := fun args σ => match args, σ with
  | [.agg [.list false 2 l]], [] => some (True, .func (.func 34) [] [.ptr 0 0], some [.cells [.list false 2 l]])
  | _, _ => none
theorem k_batAll : SOK 28 sm_batAll := by
  intro args sg pre x r he hp
  unfold sm_batAll at he
  split at he <;> cases he
  · exact f_batAll_1 (hp := hp) ..
/-- the spans ahead of a place -/
def spAt (b : List Rs) (i k m : Nat) : List Sp := spansB (b.take i) ++ (spansC ((b.getD i default).scopes.take k) ++ ((b.getD i default).scopes.getD k default).spans.take m)
theorem spansB_app : ∀ l m : List Rs, spansB (l ++ m) = spansB l ++ spansB m
  | [], m => rfl
  | r :: l, m => by show spansC r.scopes ++ spansB (l ++ m) = _; rw [spansB_app l m, ← List.append_assoc]; rfl
theorem spansC_app : ∀ l m : List Sc, spansC (l ++ m) = spansC l ++ spansC m
  | [], m => rfl
  | c :: l, m => by show c.spans ++ spansC (l ++ m) = _; rw [spansC_app l m, ← List.append_assoc]; rfl
theorem spAt_m {b : List Rs} {i k m : Nat} (h : m < ((b.getD i default).scopes.getD k default).spans.length) : spAt b i k (m + 1) = spAt b i k m ++ [((b.getD i default).scopes.getD k default).spans.getD m default] := by
  unfold spAt
  rw [take_nextV h]
  simp only [List.append_assoc]
theorem spAt_k {b : List Rs} {i k : Nat} (h : k < (b.getD i default).scopes.length) : spAt b i (k + 1) 0 = spAt b i k ((b.getD i default).scopes.getD k default).spans.length := by
  unfold spAt
  rw [take_nextV h, spansC_app, List.take_zero, List.take_length, List.append_nil]
  show _ ++ (_ ++ (_ ++ [])) = _
  rw [List.append_nil]
theorem spAt_i {b : List Rs} {i : Nat} (h : i < b.length) : spAt b (i + 1) 0 0 = spAt b i (b.getD i default).scopes.length 0 := by
  unfold spAt
  rw [take_nextV h, spansB_app, List.take_zero, List.take_zero, List.take_zero, List.take_length]
  show (_ ++ (_ ++ [])) ++ ([] ++ []) = _
  simp only [List.append_nil]
theorem spAt_0 (b : List Rs) : spAt b 0 0 0 = [] := by unfold spAt; simp [spansB, spansC]
theorem spAt_end (b : List Rs) : spAt b b.length 0 0 = spansB b := by unfold spAt; simp [spansC]
theorem spansB_take : ∀ (b : List Rs) (i : Nat), (spansB (b.take i)).length ≤ (spansB b).length := fun b i => by
  have := spansB_app (b.take i) (b.drop i)
  rw [List.take_append_drop] at this
  rw [this, List.length_append]; omega
/-- a round of counting -/
def yCount : YT := fun args sg kl => match args, sg, memN 1 kl with
  | [_, _], [.cells [.list c1 z1 x], .cells [.int .i64 n], .cells [.list c2 z2 z]], false => some (0 ≤ n ∧ n ≤ 1000000, .bool true, [.cells [.list c1 z1 x], .cells [.int .i64 (n + 1)], .cells [.list c2 z2 z]], [])
  | _, _, _ => none
structure BtOK (b : List Rs) : Prop where
  n : (spansB b).length ≤ 6000
  f : ((spansB b).flatMap lsS).length ≤ 6000
  e : ∀ s ∈ spansB b, s.evs.length ≤ 6000 ∧ s.lks.length ≤ 6000
  r : b.length ≤ 6000
  s : ∀ r ∈ b, r.scopes.length ≤ 6000 ∧ ∀ c ∈ r.scopes, c.spans.length ≤ 6000
theorem getD_mem {α : Type} [Inhabited α] {l : List α} {i : Nat} (h : i < l.length) : l.getD i default ∈ l := by
  rw [List.getD_eq_getElem?_getD, List.getElem?_eq_getElem h]; exact List.getElem_mem h
theorem BtOK.sc {b : List Rs} (h : BtOK b) {i : Nat} (hi : i < b.length) : (b.getD i default).scopes.length ≤ 6000 := by
  rw [List.getD_eq_getElem?_getD, List.getElem?_eq_getElem hi]
  exact (h.s _ (List.getElem_mem hi)).1
theorem BtOK.sp {b : List Rs} (h : BtOK b) {i k : Nat} (hi : i < b.length) (hk : k < (b.getD i default).scopes.length) : ((b.getD i default).scopes.getD k default).spans.length ≤ 6000 := by
  have h1 := (h.s (b.getD i default) (by rw [List.getD_eq_getElem?_getD, List.getElem?_eq_getElem hi]; exact List.getElem_mem hi)).2
  exact h1 _ (getD_mem hk)
theorem spAt_pre {b : List Rs} (i k m : Nat) (hi : i < b.length) (hk : k < (b.getD i default).scopes.length) : ∃ t, spansB b = spAt b i k m ++ t := by
  have e1 : spansB b = spansB (b.take i) ++ (spansC (b.getD i default).scopes ++ spansB (b.drop (i + 1))) := by
    conv => lhs; rw [← List.take_append_drop i b, drop_nextE hi, spansB_app]
    rfl
  have e2 : spansC (b.getD i default).scopes = spansC ((b.getD i default).scopes.take k) ++ (((b.getD i default).scopes.getD k default).spans ++ spansC ((b.getD i default).scopes.drop (k + 1))) := by
    conv => lhs; rw [← List.take_append_drop k (b.getD i default).scopes, drop_nextE hk, spansC_app]
    rfl
  refine ⟨((b.getD i default).scopes.getD k default).spans.drop m ++ (spansC ((b.getD i default).scopes.drop (k + 1)) ++ spansB (b.drop (i + 1))), ?_⟩
  rw [e1, e2]
  unfold spAt
  conv => lhs; rw [← List.take_append_drop m ((b.getD i default).scopes.getD k default).spans]
  simp only [List.append_assoc]
theorem spAt_len {b : List Rs} (i k m : Nat) (hi : i < b.length) (hk : k < (b.getD i default).scopes.length) : (spAt b i k m).length ≤ (spansB b).length := by
  obtain ⟨t, h⟩ := spAt_pre (m := m) i k hi hk
  rw [h, List.length_append]; omega
theorem spAt_lenF {b : List Rs} (i k m : Nat) (hi : i < b.length) (hk : k < (b.getD i default).scopes.length) : ((spAt b i k m).flatMap lsS).length ≤ ((spansB b).flatMap lsS).length := by
  obtain ⟨t, h⟩ := spAt_pre (m := m) i k hi hk
  rw [h, List.flatMap_append, List.length_append]; omega
theorem spAt_mem {b : List Rs} (i k m : Nat) (hi : i < b.length) (hk : k < (b.getD i default).scopes.length) (hm : m < ((b.getD i default).scopes.getD k default).spans.length) : ((b.getD i default).scopes.getD k default).spans.getD m default ∈ spansB b := by
  obtain ⟨t, h⟩ := spAt_pre (m := m + 1) i k hi hk
  rw [h, spAt_m hm]
  exact List.mem_append_left _ (List.mem_append_right _ (List.mem_singleton.2 rfl))
abbrev sgC (b : List Rs) (acc : List Sp) : List O := [.cells [.list false 2 (b.map eRs)], .cells [.int .i64 acc.length], .cells [.list false 2 (b.map eRs)]]
theorem seq_count (b : List Rs) (hb : BtOK b) : SeqOK (cx []) 34 [.ptr 2 0] (sgC b []) yCount (sgC b (spansB b)) [] := by
  refine seqOK_of_vc (C := cx []) (Γ := fun f => lkS [] f) (fun l => goody trivial) (fn := Tryz.f34) rfl rfl rfl rfl rfl fun l hw hs => ?_
  have hb0 : (b.map eRs).length = b.length := List.length_map _
  have hr := hb.r
  have hn := hb.n
  repeat' ((conv => whnf); first | with_reducible (first | refine go1 (fun j q h => ?_) fun h => ?_ | refine go2 ⟨rfl, rfl⟩ (fun h => ?_) fun j h => ?_ | refine go2 ?_ (fun h => ?_) fun j h => ?_ | refine goQ ?_ (fun h => ?_) fun h => ?_) | apply go3 | apply go4 | apply go5 | ((first | apply go6 | apply go7 | apply go8 | apply go9 | apply goA) <;> intro h) | with_reducible (first | refine IdxK.mk _ rfl ?_ | refine idx_encL ?_ ?_ | refine idx_encM ?_ ?_ | refine goB ?_ fun hc => ?_ | refine goC ?_ fun hc => ?_ | refine goD ?_ fun hc => ?_ | refine goE ?_ fun hc => ?_ | apply goF | apply goG | refine goH ?_ fun b hb => ?_) | apply goI | apply goJ | apply goK | apply goL | apply goM | apply goN | apply goO | with_reducible refine goP ?_)
  all_goals try conv => whnf
  all_goals try (refine Side.mk ?_; try dsimp only)
  refine LoopP.mk Nat (fun i => i ≤ b.length) (fun i => ⟨51, [(0, .func (.yield l) [] []), (1, .ptr 2 0), (9, .int .i64 b.length), (10, .int .i64 i)], sgC b (spAt b i 0 0), []⟩) (fun i => b.length - i) [] 0 (Nat.zero_le _) ?_ (fun i hi _ _ => ?_)
  · refine Go.VG.Sub.mk rfl ?_ ?_ ?_ ?_ <;> (repeat' first | trivial | rfl | exact eqS _ _ | apply andI | apply eqA | apply eqB | apply eqC | apply eqD | apply eqE | apply eqF | apply eqG | apply eqH | apply eqI)
    all_goals (first | (rw [hb0]; done))
  repeat' ((conv => whnf); first | with_reducible (first | refine go1 (fun j q h => ?_) fun h => ?_ | refine go2 ⟨rfl, rfl⟩ (fun h => ?_) fun j h => ?_ | refine go2 ?_ (fun h => ?_) fun j h => ?_ | refine goQ ?_ (fun h => ?_) fun h => ?_) | apply go3 | apply go4 | apply go5 | ((first | apply go6 | apply go7 | apply go8 | apply go9 | apply goA) <;> intro h) | with_reducible (first | refine IdxK.mk _ rfl ?_ | refine idx_encL ?_ ?_ | refine idx_encM ?_ ?_ | refine goB ?_ fun hc => ?_ | refine goC ?_ fun hc => ?_ | refine goD ?_ fun hc => ?_ | refine goE ?_ fun hc => ?_ | apply goF | apply goG | refine goH ?_ fun b hb => ?_) | apply goI | apply goJ | apply goK | apply goL | apply goM | apply goN | apply goO | with_reducible refine goP ?_)
  all_goals try conv => whnf
  all_goals try (refine Side.mk ?_; try dsimp only)
  all_goals first | refine stay ?_ | trivial | omega | (simp (discharger := omega) only [wR]; omega) | (simp only [lnS]; omega) | (simp (discharger := omega) [-List.getD_eq_getElem?_getD, wR] <;> omega) | skip
  all_goals (try simp only [hb0] at *)
  · have hs0 : ((b.getD i default).scopes.map eSc).length = (b.getD i default).scopes.length := List.length_map _
    have hsc := hb.sc (i := i) (by omega)
    refine LoopP.mk Nat (fun k => k ≤ (b.getD i default).scopes.length) (fun k => ⟨51, [(0, .func (.yield l) [] []), (1, .ptr 2 0), (9, .int .i64 b.length), (10, .int .i64 i), (3, .int .i64 i), (4, .list false 3 ((b.getD i default).scopes.map eSc)), (20, .int .i64 (b.getD i default).scopes.length), (21, .int .i64 k)], sgC b (spAt b i k 0), []⟩) (fun k => (b.getD i default).scopes.length - k) [] 0 (Nat.zero_le _) ?_ (fun k hk _ _ => ?_)
    · refine Go.VG.Sub.mk rfl ?_ ?_ ?_ ?_ <;> (repeat' first | trivial | rfl | exact eqS _ _ | apply andI | apply eqA | apply eqB | apply eqC | apply eqD | apply eqE | apply eqF | apply eqG | apply eqH | apply eqI)
      all_goals (first | (rw [hs0]; done))
    repeat' ((conv => whnf); first | with_reducible (first | refine go1 (fun j q h => ?_) fun h => ?_ | refine go2 ⟨rfl, rfl⟩ (fun h => ?_) fun j h => ?_ | refine go2 ?_ (fun h => ?_) fun j h => ?_ | refine goQ ?_ (fun h => ?_) fun h => ?_) | apply go3 | apply go4 | apply go5 | ((first | apply go6 | apply go7 | apply go8 | apply go9 | apply goA) <;> intro h) | with_reducible (first | refine IdxK.mk _ rfl ?_ | refine idx_encL ?_ ?_ | refine idx_encM ?_ ?_ | refine goB ?_ fun hc => ?_ | refine goC ?_ fun hc => ?_ | refine goD ?_ fun hc => ?_ | refine goE ?_ fun hc => ?_ | apply goF | apply goG | refine goH ?_ fun b hb => ?_) | apply goI | apply goJ | apply goK | apply goL | apply goM | apply goN | apply goO | with_reducible refine goP ?_)
    all_goals try conv => whnf
    all_goals try (refine Side.mk ?_; try dsimp only)
    all_goals first | refine stay ?_ | trivial | omega | (simp (discharger := omega) only [wR]; omega) | (simp only [lnS]; omega) | (simp (discharger := omega) [-List.getD_eq_getElem?_getD, wR] <;> omega) | skip
    all_goals (try simp only [hs0] at *)
    · have hm0 : (((b.getD i default).scopes.getD k default).spans.map eSp).length = ((b.getD i default).scopes.getD k default).spans.length := List.length_map _
      have hsp := hb.sp (i := i) (k := k) (by omega) (by omega)
      refine LoopP.mk Nat (fun m => m ≤ ((b.getD i default).scopes.getD k default).spans.length) (fun m => ⟨51, [(0, .func (.yield l) [] []), (1, .ptr 2 0), (9, .int .i64 b.length), (10, .int .i64 i), (3, .int .i64 i), (4, .list false 3 ((b.getD i default).scopes.map eSc)), (20, .int .i64 (b.getD i default).scopes.length), (21, .int .i64 k), (5, .int .i64 k), (29, .int .i64 ((b.getD i default).scopes.getD k default).spans.length), (30, .int .i64 m)], sgC b (spAt b i k m), []⟩) (fun m => ((b.getD i default).scopes.getD k default).spans.length - m) [] 0 (Nat.zero_le _) ?_ (fun m hm _ _ => ?_)
      · refine Go.VG.Sub.mk rfl ?_ ?_ ?_ ?_ <;> (repeat' first | trivial | rfl | exact eqS _ _ | apply andI | apply eqA | apply eqB | apply eqC | apply eqD | apply eqE | apply eqF | apply eqG | apply eqH | apply eqI)
        all_goals (first | (rw [hm0]; done))
      have hl := spAt_len (b := b) i k m (by omega) (by omega)
      repeat' ((conv => whnf); first | with_reducible (first | refine go1 (fun j q h => ?_) fun h => ?_ | refine go2 ⟨rfl, rfl⟩ (fun h => ?_) fun j h => ?_ | refine go2 ?_ (fun h => ?_) fun j h => ?_ | refine goQ ?_ (fun h => ?_) fun h => ?_) | apply go3 | apply go4 | apply go5 | ((first | apply go6 | apply go7 | apply go8 | apply go9 | apply goA) <;> intro h) | with_reducible (first | refine IdxK.mk _ rfl ?_ | refine idx_encL ?_ ?_ | refine idx_encM ?_ ?_ | refine goB ?_ fun hc => ?_ | refine goC ?_ fun hc => ?_ | refine goD ?_ fun hc => ?_ | refine goE ?_ fun hc => ?_ | apply goF | apply goG | refine goH ?_ fun b hb => ?_) | apply goI | apply goJ | apply goK | apply goL | apply goM | apply goN | apply goO | with_reducible refine goP ?_)
      all_goals try conv => whnf
      all_goals try (refine Side.mk ?_; try dsimp only)
      all_goals first | refine stay ?_ | trivial | omega | (simp (discharger := omega) only [wR]; omega) | (simp only [lnS]; omega) | (simp (discharger := omega) [-List.getD_eq_getElem?_getD, wR] <;> omega) | skip
      all_goals (try simp only [hm0] at *)
      · have e := spAt_m (b := b) (i := i) (k := k) (m := m) (by omega)
        refine ⟨[], m + 1, by omega, ?_, by omega⟩
        rw [e]
        refine Go.VG.Sub.mk rfl ?_ ?_ ?_ ?_ <;> (repeat' first | trivial | rfl | exact eqS _ _ | apply andI | apply eqA | apply eqB | apply eqC | apply eqD | apply eqE | apply eqF | apply eqG | apply eqH | apply eqI)
        all_goals (first | (rw [List.length_append]; rfl) | (rw [wi64]; omega))
      · obtain rfl : m = ((b.getD i default).scopes.getD k default).spans.length := by omega
        have e := spAt_k (b := b) (i := i) (k := k) (by omega)
        refine ⟨[], k + 1, by omega, ?_, by omega⟩
        rw [e]
        refine Go.VG.Sub.mk rfl ?_ ?_ ?_ ?_ <;> (repeat' first | trivial | rfl | exact eqS _ _ | apply andI | apply eqA | apply eqB | apply eqC | apply eqD | apply eqE | apply eqF | apply eqG | apply eqH | apply eqI)
        all_goals (first | (rw [wi64]; omega))
    · obtain rfl : k = (b.getD i default).scopes.length := by omega
      have e := spAt_i (b := b) (i := i) (by omega)
      refine ⟨[], i + 1, by omega, ?_, by omega⟩
      rw [e]
      refine Go.VG.Sub.mk rfl ?_ ?_ ?_ ?_ <;> (repeat' first | trivial | rfl | exact eqS _ _ | apply andI | apply eqA | apply eqB | apply eqC | apply eqD | apply eqE | apply eqF | apply eqG | apply eqH | apply eqI)
      all_goals (first | (rw [wi64]; omega))
  · obtain rfl : i = b.length := by omega
    rw [spAt_end]
    refine EndP.mk [] ?_ <;> (repeat' first | trivial | rfl | exact eqS _ _ | apply andI | apply eqA | apply eqB | apply eqC | apply eqD | apply eqE | apply eqF | apply eqG | apply eqH | apply eqI)
-- #name batCount batch.Count
noncomputable def sm_batCount : Sm := fun args σ => match args, σ with
  | [x], [] => some ((∃ b, x = eBt b) ∧ BtOK (unE eBt x), .int .i64 (spansB (unE eBt x)).length, none)
  | _, _ => none
theorem f_batCount (b : List Rs) (hb : BtOK b) : OK 17 [eBt b] [] (.int .i64 (spansB b).length) none := by
  refine funOK_of_vc (C := cx [(28, sm_batAll)]) (good ⟨k_batAll, trivial⟩) (fn := Tryz.f17) rfl rfl rfl rfl fun hw _ => ?_
  have hseq := seq_count b hb
  repeat' ((conv => whnf); first | with_reducible (first | refine go1 (fun j q h => ?_) fun h => ?_ | refine go2 ⟨rfl, rfl⟩ (fun h => ?_) fun j h => ?_ | refine go2 ?_ (fun h => ?_) fun j h => ?_ | refine goQ ?_ (fun h => ?_) fun h => ?_) | apply go3 | apply go4 | apply go5 | ((first | apply go6 | apply go7 | apply go8 | apply go9 | apply goA) <;> intro h) | with_reducible (first | refine IdxK.mk _ rfl ?_ | refine idx_encL ?_ ?_ | refine idx_encM ?_ ?_ | refine goB ?_ fun hc => ?_ | refine goC ?_ fun hc => ?_ | refine goD ?_ fun hc => ?_ | refine goE ?_ fun hc => ?_ | apply goF | apply goG | refine goH ?_ fun b hb => ?_) | apply goI | apply goJ | apply goK | apply goL | apply goM | apply goN | apply goO | with_reducible refine goP ?_)
  all_goals try conv => whnf
  all_goals try (refine Side.mk ?_; try dsimp only)
  refine RangeP.mk [] 34 [.ptr 2 0] yCount [(3, .ptr 1 0)] [(3, .ptr 1 0)] _ [] rfl rfl rfl hseq (fun args s' pre y sg' ks' hy hpre hwa hws => ?_) ⟨?_, ?_⟩
  · unfold yCount at hy
    split at hy
    · rename_i e1 e2
      cases hy
      obtain ⟨nt', tm', sg', kl'⟩ := s'
      dsimp only at e1 e2 hws ⊢
      subst e1
      refine ⟨rfl, rfl, ⟨⟨rfl, ?_⟩, trivial⟩, ?_⟩
      · simp [V.kill, e2]
      repeat' ((conv => whnf); first | with_reducible (first | refine go1 (fun j q h => ?_) fun h => ?_ | refine go2 ⟨rfl, rfl⟩ (fun h => ?_) fun j h => ?_ | refine go2 ?_ (fun h => ?_) fun j h => ?_ | refine goQ ?_ (fun h => ?_) fun h => ?_) | apply go3 | apply go4 | apply go5 | ((first | apply go6 | apply go7 | apply go8 | apply go9 | apply goA) <;> intro h) | with_reducible (first | refine IdxK.mk _ rfl ?_ | refine idx_encL ?_ ?_ | refine idx_encM ?_ ?_ | refine goB ?_ fun hc => ?_ | refine goC ?_ fun hc => ?_ | refine goD ?_ fun hc => ?_ | refine goE ?_ fun hc => ?_ | apply goF | apply goG | refine goH ?_ fun b hb => ?_) | apply goI | apply goJ | apply goK | apply goL | apply goM | apply goN | apply goO | with_reducible refine goP ?_)
      all_goals try conv => whnf
      all_goals try (refine Side.mk ?_; try dsimp only)
      all_goals first | refine stay ?_ | trivial | omega | (simp (discharger := omega) only [wR]; omega) | (simp only [lnS]; omega) | (simp (discharger := omega) [-List.getD_eq_getElem?_getD, wR] <;> omega) | skip
      refine ⟨[], ⟨⟨rfl, rfl⟩, ⟨?_, rfl⟩, ⟨rfl, rfl⟩, trivial⟩, rfl, Nat.le_refl 3⟩
      rw [wr9 (by omega)]
    · cases hy
  · exact ⟨⟨rfl, rfl⟩, trivial⟩
  repeat' ((conv => whnf); first | with_reducible (first | refine go1 (fun j q h => ?_) fun h => ?_ | refine go2 ⟨rfl, rfl⟩ (fun h => ?_) fun j h => ?_ | refine go2 ?_ (fun h => ?_) fun j h => ?_ | refine goQ ?_ (fun h => ?_) fun h => ?_) | apply go3 | apply go4 | apply go5 | ((first | apply go6 | apply go7 | apply go8 | apply go9 | apply goA) <;> intro h) | with_reducible (first | refine IdxK.mk _ rfl ?_ | refine idx_encL ?_ ?_ | refine idx_encM ?_ ?_ | refine goB ?_ fun hc => ?_ | refine goC ?_ fun hc => ?_ | refine goD ?_ fun hc => ?_ | refine goE ?_ fun hc => ?_ | apply goF | apply goG | refine goH ?_ fun b hb => ?_) | apply goI | apply goJ | apply goK | apply goL | apply goM | apply goN | apply goO | with_reducible refine goP ?_)
  all_goals try conv => whnf
  all_goals try (refine Side.mk ?_; try dsimp only)
  refine EndP.mk [] ?_ <;> (repeat' first | trivial | rfl | exact eqS _ _ | apply andI | apply eqA | apply eqB | apply eqC | apply eqD | apply eqE | apply eqF | apply eqG | apply eqH | apply eqI)
theorem k_batCount : SOK 17 sm_batCount := by
  intro args sg pre x r he hp
  unfold sm_batCount at he
  split at he <;> cases he
  obtain ⟨⟨s, rfl⟩, hp⟩ := hp
  rw [un_bt] at hp ⊢
  exact f_batCount s hp
end Go.Proofs.YtafgmmfbhpbogaaGreatDoor
