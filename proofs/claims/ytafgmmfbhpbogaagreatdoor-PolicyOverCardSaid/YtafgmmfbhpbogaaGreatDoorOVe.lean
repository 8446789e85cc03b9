/-
  A batch's lists of attributes.
-/
import Derived.Test.YtafgmmfbhpbogaaGreatDoorOVd
set_option linter.unusedSimpArgs false
set_option linter.unusedVariables false
set_option maxHeartbeats 4000000
namespace Go.Proofs.YtafgmmfbhpbogaaGreatDoor
open Go Go.VG
set_option maxRecDepth 100000
abbrev eLs (l : List Att) : V := .list false 7 (encM l)
/-- what is listed of some resources, and of some spans -/
def lsO (b : List Rs) (acc : List Sp) : List V := (b.map (·.attrs) ++ acc.flatMap lsS).map eLs
abbrev sgL (b : List Rs) (acc : List Sp) : List O := [.cells [.list false 2 (b.map eRs)], .cells [.buf 2], .buf 1 0 (lsO b acc), .cells [.list false 2 (b.map eRs)]]
/-- the lists of a span, as they stand in a run -/
noncomputable def lsV (x : V) : List V := (lsS (unE eSp x)).map eLs
noncomputable def yLists : YT := fun args sg kl => match args, sg, memN 1 kl with
  | [.agg [.int .i64 p1, .int .i64 p2, .int .i64 p3], .agg cs], [.cells [.list c1 z1 x], .cells [.buf 2], .buf 1 0 l, .cells [.list c2 z2 z]], false =>
    some ((∃ q, V.agg cs = eSp q ∧ q.evs.length ≤ 6000 ∧ q.lks.length ≤ 6000) ∧ l.length ≤ 1000000, .bool true, [.cells [.list c1 z1 x], .cells [.buf 2], .buf 1 0 (l ++ lsV (.agg cs)), .cells [.list c2 z2 z]], [2])
  | _, _, _ => none
theorem lsO_snoc (b : List Rs) (acc : List Sp) (s : Sp) : lsO b (acc ++ [s]) = lsO b acc ++ (lsS s).map eLs := by
  unfold lsO
  rw [List.flatMap_append, List.flatMap_cons, List.flatMap_nil, List.append_nil, ← List.append_assoc, List.map_append]
theorem lsO_len (b : List Rs) (acc : List Sp) : (lsO b acc).length = b.length + (acc.flatMap lsS).length := by unfold lsO; simp
theorem seq_lists (b : List Rs) (hb : BtOK b) : SeqOK (cx []) 34 [.ptr 3 0] (sgL b []) yLists (sgL b (spansB b)) [2] := by
  refine seqOK_of_vc (C := cx []) (Γ := fun f => lkS [] f) (fun l => goody trivial) (fn := Tryz.f34) rfl rfl rfl rfl rfl fun l hw hs => ?_
  have hb0 : (b.map eRs).length = b.length := List.length_map _
  have hr := hb.r
  have hn := hb.n
  have hf := hb.f
  repeat' ((conv => whnf); first | with_reducible (first | refine go1 (fun j q h => ?_) fun h => ?_ | refine go2 ⟨rfl, rfl⟩ (fun h => ?_) fun j h => ?_ | refine go2 ?_ (fun h => ?_) fun j h => ?_ | refine goQ ?_ (fun h => ?_) fun h => ?_) | apply go3 | apply go4 | apply go5 | ((first | apply go6 | apply go7 | apply go8 | apply go9 | apply goA) <;> intro h) | with_reducible (first | refine IdxK.mk _ rfl ?_ | refine idx_encL ?_ ?_ | refine idx_encM ?_ ?_ | refine goB ?_ fun hc => ?_ | refine goC ?_ fun hc => ?_ | refine goD ?_ fun hc => ?_ | refine goE ?_ fun hc => ?_ | apply goF | apply goG | refine goH ?_ fun b hb => ?_) | apply goI | apply goJ | apply goK | apply goL | apply goM | apply goN | apply goO | with_reducible refine goP ?_)
  all_goals try conv => whnf
  all_goals try (refine Side.mk ?_; try dsimp only)
  refine LoopP.mk Nat (fun i => i ≤ b.length) (fun i => ⟨51, [(0, .func (.yield l) [] []), (1, .ptr 3 0), (9, .int .i64 b.length), (10, .int .i64 i)], sgL b (spAt b i 0 0), [2]⟩) (fun i => b.length - i) [] 0 (Nat.zero_le _) ?_ (fun i hi _ _ => ?_)
  · refine Go.VG.Sub.mk rfl ?_ ?_ ?_ ?_ <;> (repeat' first | trivial | rfl | exact eqS _ _ | apply andI | apply eqA | apply eqB | apply eqC | apply eqD | apply eqE | apply eqF | apply eqG | apply eqH | apply eqI)
    all_goals (first | (rw [hb0]; done))
  repeat' ((conv => whnf); first | with_reducible (first | refine go1 (fun j q h => ?_) fun h => ?_ | refine go2 ⟨rfl, rfl⟩ (fun h => ?_) fun j h => ?_ | refine go2 ?_ (fun h => ?_) fun j h => ?_ | refine goQ ?_ (fun h => ?_) fun h => ?_) | apply go3 | apply go4 | apply go5 | ((first | apply go6 | apply go7 | apply go8 | apply go9 | apply goA) <;> intro h) | with_reducible (first | refine IdxK.mk _ rfl ?_ | refine idx_encL ?_ ?_ | refine idx_encM ?_ ?_ | refine goB ?_ fun hc => ?_ | refine goC ?_ fun hc => ?_ | refine goD ?_ fun hc => ?_ | refine goE ?_ fun hc => ?_ | apply goF | apply goG | refine goH ?_ fun b hb => ?_) | apply goI | apply goJ | apply goK | apply goL | apply goM | apply goN | apply goO | with_reducible refine goP ?_)
  all_goals try conv => whnf
  all_goals try (refine Side.mk ?_; try dsimp only)
  all_goals first | refine stay ?_ | trivial | omega | (simp (discharger := omega) only [wR]; omega) | (simp only [lnS]; omega) | (simp (discharger := omega) [-List.getD_eq_getElem?_getD, wR] <;> omega) | skip
  all_goals (try simp only [hb0] at *)
  · have hs0 : ((b.getD i default).scopes.map eSc).length = (b.getD i default).scopes.length := List.length_map _
    have hsc := hb.sc (i := i) (by omega)
    refine LoopP.mk Nat (fun k => k ≤ (b.getD i default).scopes.length) (fun k => ⟨51, [(0, .func (.yield l) [] []), (1, .ptr 3 0), (9, .int .i64 b.length), (10, .int .i64 i), (3, .int .i64 i), (4, .list false 3 ((b.getD i default).scopes.map eSc)), (20, .int .i64 (b.getD i default).scopes.length), (21, .int .i64 k)], sgL b (spAt b i k 0), [2]⟩) (fun k => (b.getD i default).scopes.length - k) [] 0 (Nat.zero_le _) ?_ (fun k hk _ _ => ?_)
    · refine Go.VG.Sub.mk rfl ?_ ?_ ?_ ?_ <;> (repeat' first | trivial | rfl | exact eqS _ _ | apply andI | apply eqA | apply eqB | apply eqC | apply eqD | apply eqE | apply eqF | apply eqG | apply eqH | apply eqI)
      all_goals (first | (rw [hs0]; done))
    repeat' ((conv => whnf); first | with_reducible (first | refine go1 (fun j q h => ?_) fun h => ?_ | refine go2 ⟨rfl, rfl⟩ (fun h => ?_) fun j h => ?_ | refine go2 ?_ (fun h => ?_) fun j h => ?_ | refine goQ ?_ (fun h => ?_) fun h => ?_) | apply go3 | apply go4 | apply go5 | ((first | apply go6 | apply go7 | apply go8 | apply go9 | apply goA) <;> intro h) | with_reducible (first | refine IdxK.mk _ rfl ?_ | refine idx_encL ?_ ?_ | refine idx_encM ?_ ?_ | refine goB ?_ fun hc => ?_ | refine goC ?_ fun hc => ?_ | refine goD ?_ fun hc => ?_ | refine goE ?_ fun hc => ?_ | apply goF | apply goG | refine goH ?_ fun b hb => ?_) | apply goI | apply goJ | apply goK | apply goL | apply goM | apply goN | apply goO | with_reducible refine goP ?_)
    all_goals try conv => whnf
    all_goals try (refine Side.mk ?_; try dsimp only)
    all_goals first | refine stay ?_ | trivial | omega | (simp (discharger := omega) only [wR]; omega) | (simp only [lnS]; omega) | (simp (discharger := omega) [-List.getD_eq_getElem?_getD, wR] <;> omega) | skip
    all_goals (try simp only [hs0] at *)
    · have hm0 : (((b.getD i default).scopes.getD k default).spans.map eSp).length = ((b.getD i default).scopes.getD k default).spans.length := List.length_map _
      have hsp := hb.sp (i := i) (k := k) (by omega) (by omega)
      refine LoopP.mk Nat (fun m => m ≤ ((b.getD i default).scopes.getD k default).spans.length) (fun m => ⟨51, [(0, .func (.yield l) [] []), (1, .ptr 3 0), (9, .int .i64 b.length), (10, .int .i64 i), (3, .int .i64 i), (4, .list false 3 ((b.getD i default).scopes.map eSc)), (20, .int .i64 (b.getD i default).scopes.length), (21, .int .i64 k), (5, .int .i64 k), (29, .int .i64 ((b.getD i default).scopes.getD k default).spans.length), (30, .int .i64 m)], sgL b (spAt b i k m), [2]⟩) (fun m => ((b.getD i default).scopes.getD k default).spans.length - m) [] 0 (Nat.zero_le _) ?_ (fun m hm _ _ => ?_)
      · refine Go.VG.Sub.mk rfl ?_ ?_ ?_ ?_ <;> (repeat' first | trivial | rfl | exact eqS _ _ | apply andI | apply eqA | apply eqB | apply eqC | apply eqD | apply eqE | apply eqF | apply eqG | apply eqH | apply eqI)
        all_goals (first | (rw [hm0]; done))
      have hl := spAt_lenF (b := b) i k m (by omega) (by omega)
      have hmem := fun h => spAt_mem (b := b) i k m (by omega) (by omega) h
      repeat' ((conv => whnf); first | with_reducible (first | refine go1 (fun j q h => ?_) fun h => ?_ | refine go2 ⟨rfl, rfl⟩ (fun h => ?_) fun j h => ?_ | refine go2 ?_ (fun h => ?_) fun j h => ?_ | refine goQ ?_ (fun h => ?_) fun h => ?_) | apply go3 | apply go4 | apply go5 | ((first | apply go6 | apply go7 | apply go8 | apply go9 | apply goA) <;> intro h) | with_reducible (first | refine IdxK.mk _ rfl ?_ | refine idx_encL ?_ ?_ | refine idx_encM ?_ ?_ | refine goB ?_ fun hc => ?_ | refine goC ?_ fun hc => ?_ | refine goD ?_ fun hc => ?_ | refine goE ?_ fun hc => ?_ | apply goF | apply goG | refine goH ?_ fun b hb => ?_) | apply goI | apply goJ | apply goK | apply goL | apply goM | apply goN | apply goO | with_reducible refine goP ?_)
      all_goals try conv => whnf
      all_goals try (refine Side.mk ?_; try dsimp only)
      all_goals first | refine stay ?_ | trivial | omega | (simp (discharger := omega) only [wR]; omega) | (simp only [lnS]; omega) | (simp (discharger := omega) [-List.getD_eq_getElem?_getD, wR] <;> omega) | skip
      all_goals (try simp only [hm0] at *)
      · exact ⟨trivial, ⟨_, rfl, hb.e _ (hmem (by omega))⟩, by rw [lsO_len]; omega⟩
      · have e := spAt_m (b := b) (i := i) (k := k) (m := m) (by omega)
        refine ⟨[], m + 1, by omega, ?_, by omega⟩
        rw [e]
        refine Go.VG.Sub.mk rfl ?_ ?_ ?_ ?_ <;> (repeat' first | trivial | rfl | exact eqS _ _ | apply andI | apply eqA | apply eqB | apply eqC | apply eqD | apply eqE | apply eqF | apply eqG | apply eqH | apply eqI)
        all_goals (first | (unfold lsV; rw [un_sp, lsO_snoc]; done) | (rw [wi64]; omega))
      · obtain rfl : m = ((b.getD i default).scopes.getD k default).spans.length := by omega
        have e := spAt_k (b := b) (i := i) (k := k) (by omega)
        refine ⟨[], k + 1, by omega, ?_, by omega⟩
        rw [e]
        refine Go.VG.Sub.mk rfl ?_ ?_ ?_ ?_ <;> (repeat' first | trivial | rfl | exact eqS _ _ | apply andI | apply eqA | apply eqB | apply eqC | apply eqD | apply eqE | apply eqF | apply eqG | apply eqH | apply eqI)
        all_goals (first | (rw [wi64]; omega))
    · obtain rfl : k = (b.getD i default).scopes.length := by omega
      have e := spAt_i (b := b) (i := i) (by omega)
      refine ⟨[], i + 1, by omega, ?_, by omega⟩
      rw [e]
      refine Go.VG.Sub.mk rfl ?_ ?_ ?_ ?_ <;> (repeat' first | trivial | rfl | exact eqS _ _ | apply andI | apply eqA | apply eqB | apply eqC | apply eqD | apply eqE | apply eqF | apply eqG | apply eqH | apply eqI)
      all_goals (first | (rw [wi64]; omega))
  · obtain rfl : i = b.length := by omega
    rw [spAt_end]
    refine EndP.mk [] ?_ <;> (repeat' first | trivial | rfl | exact eqS _ _ | apply andI | apply eqA | apply eqB | apply eqC | apply eqD | apply eqE | apply eqF | apply eqG | apply eqH | apply eqI)
end Go.Proofs.YtafgmmfbhpbogaaGreatDoor
