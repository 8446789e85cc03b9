/-
  A batch's lists of attributes, as the program lists them.
-/
import Derived.Test.YtafgmmfbhpbogaaGreatDoorOVe
set_option linter.unusedSimpArgs false
set_option linter.unusedVariables false
set_option maxHeartbeats 4000000
namespace Go.Proofs.YtafgmmfbhpbogaaGreatDoor
open Go Go.VG
set_option maxRecDepth 100000
theorem evs_next {s : Sp} {i : Nat} (h : i < s.evs.length) : (s.evs.take (i + 1)).map (fun e => eLs e.attrs) = (s.evs.take i).map (fun e => eLs e.attrs) ++ [eLs (s.evs.getD i default).attrs] := by rw [take_nextV h, List.map_append]; rfl
theorem lks_next {s : Sp} {i : Nat} (h : i < s.lks.length) : (s.lks.take (i + 1)).map (fun e => eLs e.attrs) = (s.lks.take i).map (fun e => eLs e.attrs) ++ [eLs (s.lks.getD i default).attrs] := by rw [take_nextV h, List.map_append]; rfl
theorem rss_next {b : List Rs} {i : Nat} (h : i < b.length) : (b.take (i + 1)).map (fun e => eLs e.attrs) = (b.take i).map (fun e => eLs e.attrs) ++ [eLs (b.getD i default).attrs] := by rw [take_nextV h, List.map_append]; rfl
theorem lsV_eq (q : Sp) : lsV (.agg (eSpc q)) = eLs q.attrs :: (q.evs.map (fun e => eLs e.attrs) ++ q.lks.map (fun e => eLs e.attrs)) := by
  unfold lsV
  rw [un_sp]
  unfold lsS
  rw [List.map_cons, List.map_append, List.map_map, List.map_map]
  rfl
-- #name polLists policy.lists
noncomputable def sm_polLists : Sm := fun args σ => match args, σ with
  | [x], [] => some ((∃ b, x = eBt b) ∧ BtOK (unE eBt x), .buf 0, some [.buf 1 0 ((lsB (unE eBt x)).map eLs)])
  | _, _ => none
theorem f_polLists (b : List Rs) (hb : BtOK b) : OK 18 [eBt b] [] (.buf 0) (some [.buf 1 0 ((lsB b).map eLs)]) := by
  refine funOK_of_vc (C := cx [(28, sm_batAll)]) (good ⟨k_batAll, trivial⟩) (fn := Tryz.f18) rfl rfl rfl rfl fun hw _ => ?_
  have hseq := seq_lists b hb
  have hr := hb.r
  have hb0 : (b.map eRs).length = b.length := List.length_map _
  repeat' ((conv => whnf); first | with_reducible (first | refine go1 (fun j q h => ?_) fun h => ?_ | refine go2 ⟨rfl, rfl⟩ (fun h => ?_) fun j h => ?_ | refine go2 ?_ (fun h => ?_) fun j h => ?_ | refine goQ ?_ (fun h => ?_) fun h => ?_) | apply go3 | apply go4 | apply go5 | ((first | apply go6 | apply go7 | apply go8 | apply go9 | apply goA) <;> intro h) | with_reducible (first | refine IdxK.mk _ rfl ?_ | refine idx_encL ?_ ?_ | refine idx_encM ?_ ?_ | refine goB ?_ fun hc => ?_ | refine goC ?_ fun hc => ?_ | refine goD ?_ fun hc => ?_ | refine goE ?_ fun hc => ?_ | apply goF | apply goG | refine goH ?_ fun b hb => ?_) | apply goI | apply goJ | apply goK | apply goL | apply goM | apply goN | apply goO | with_reducible refine goP ?_)
  all_goals try conv => whnf
  all_goals try (refine Side.mk ?_; try dsimp only)
  refine LoopP.mk Nat (fun i => i ≤ b.length) (fun i => ⟨61, [(1, .ptr 0 0), (3, .ptr 1 0), (13, .list false 2 (b.map eRs)), (14, .int .i64 b.length), (15, .int .i64 i)], [.cells [.list false 2 (b.map eRs)], .cells [.buf 2], .buf 1 0 ((b.take i).map fun r => eLs r.attrs)], [2]⟩) (fun i => b.length - i) [.cell 1 0 1] 0 (Nat.zero_le _) ?_ (fun i hi _ _ => ?_)
  · refine Go.VG.Sub.mk rfl ?_ ?_ ?_ ?_ <;> (repeat' first | trivial | rfl | exact eqS _ _ | apply andI | apply eqA | apply eqB | apply eqC | apply eqD | apply eqE | apply eqF | apply eqG | apply eqH | apply eqI)
    all_goals (first | (rw [hb0]; done))
  have hml : ((b.take i).map fun r => eLs r.attrs).length = min i b.length := by rw [List.length_map, List.length_take]
  repeat' ((conv => whnf); first | with_reducible (first | refine go1 (fun j q h => ?_) fun h => ?_ | refine go2 ⟨rfl, rfl⟩ (fun h => ?_) fun j h => ?_ | refine go2 ?_ (fun h => ?_) fun j h => ?_ | refine goQ ?_ (fun h => ?_) fun h => ?_) | apply go3 | apply go4 | apply go5 | ((first | apply go6 | apply go7 | apply go8 | apply go9 | apply goA) <;> intro h) | with_reducible (first | refine IdxK.mk _ rfl ?_ | refine idx_encL ?_ ?_ | refine idx_encM ?_ ?_ | refine goB ?_ fun hc => ?_ | refine goC ?_ fun hc => ?_ | refine goD ?_ fun hc => ?_ | refine goE ?_ fun hc => ?_ | apply goF | apply goG | refine goH ?_ fun b hb => ?_) | apply goI | apply goJ | apply goK | apply goL | apply goM | apply goN | apply goO | with_reducible refine goP ?_)
  all_goals try conv => whnf
  all_goals try (refine Side.mk ?_; try dsimp only)
  all_goals first | refine stay ?_ | trivial | omega | (simp (discharger := omega) only [wR]; omega) | (simp only [lnS]; omega) | (simp (discharger := omega) [-List.getD_eq_getElem?_getD, wR] <;> omega) | skip
  all_goals (try simp only [hb0] at *)
  · have e := rss_next (b := b) (i := i) (by omega)
    refine ⟨[], i + 1, by omega, ?_, by omega⟩
    rw [e]
    refine Go.VG.Sub.mk rfl ?_ ?_ ?_ ?_ <;> (repeat' first | trivial | rfl | exact eqS _ _ | apply andI | apply eqA | apply eqB | apply eqC | apply eqD | apply eqE | apply eqF | apply eqG | apply eqH | apply eqI)
    rw [wi64]; omega
  obtain rfl : i = b.length := by omega
  have e0 : (b.take b.length).map (fun r => eLs r.attrs) = lsO b [] := by unfold lsO; simp
  rw [e0]
  refine RangeP.mk [] 34 [.ptr 3 0] yLists [(3, .ptr 1 0)] [(3, .ptr 1 0)] (sgL b (spansB b)) [2] rfl rfl rfl hseq (fun args s' pre y sg' ks' hy hpre hwa hws => ?_) ⟨?_, ?_⟩
  · unfold yLists at hy
    split at hy
    · rename_i p1 p2 p3 cs c1 z1 x l c2 z2 z e1 e2
      cases hy
      obtain ⟨⟨q, hq, hqe, hqk⟩, hll⟩ := hpre
      obtain rfl := V.agg.inj hq
      obtain ⟨nt', tm', sg', kl'⟩ := s'
      dsimp only at e1 e2 hws ⊢
      subst e1
      refine ⟨rfl, rfl, ⟨⟨rfl, ?_⟩, trivial⟩, ?_⟩
      · simp [V.kill, e2]
      have he0 : (q.evs.map eEv).length = q.evs.length := List.length_map _
      have hk0 : (q.lks.map eLk).length = q.lks.length := List.length_map _
      repeat' ((conv => whnf); first | with_reducible (first | refine go1 (fun j q h => ?_) fun h => ?_ | refine go2 ⟨rfl, rfl⟩ (fun h => ?_) fun j h => ?_ | refine go2 ?_ (fun h => ?_) fun j h => ?_ | refine goQ ?_ (fun h => ?_) fun h => ?_) | apply go3 | apply go4 | apply go5 | ((first | apply go6 | apply go7 | apply go8 | apply go9 | apply goA) <;> intro h) | with_reducible (first | refine IdxK.mk _ rfl ?_ | refine idx_encL ?_ ?_ | refine idx_encM ?_ ?_ | refine goB ?_ fun hc => ?_ | refine goC ?_ fun hc => ?_ | refine goD ?_ fun hc => ?_ | refine goE ?_ fun hc => ?_ | apply goF | apply goG | refine goH ?_ fun b hb => ?_) | apply goI | apply goJ | apply goK | apply goL | apply goM | apply goN | apply goO | with_reducible refine goP ?_)
      all_goals try conv => whnf
      all_goals try (refine Side.mk ?_; try dsimp only)
      all_goals first | refine stay ?_ | trivial | omega | (simp (discharger := omega) only [wR]; omega) | (simp only [lnS]; omega) | (simp (discharger := omega) [-List.getD_eq_getElem?_getD, wR] <;> omega) | skip
      all_goals (try simp only [he0] at *)
      refine LoopP.mk Nat (fun i => i ≤ q.evs.length) (fun i => ⟨61, [(3, .ptr 1 0), (7, .ptr 4 0), (35, .list false 3 (q.evs.map eEv)), (36, .int .i64 q.evs.length), (37, .int .i64 i)], [.cells [.list c1 z1 x], .cells [.buf 2], .buf 1 0 (l ++ eLs q.attrs :: (q.evs.take i).map fun e => eLs e.attrs), .cells [.list c2 z2 z], .cells (eSpc q)], [2]⟩) (fun i => q.evs.length - i) [] 0 (Nat.zero_le _) ?_ (fun i hi _ _ => ?_)
      · refine Go.VG.Sub.mk rfl ?_ ?_ ?_ ?_ <;> (repeat' first | trivial | rfl | exact eqS _ _ | apply andI | apply eqA | apply eqB | apply eqC | apply eqD | apply eqE | apply eqF | apply eqG | apply eqH | apply eqI)
      have hl1 : (l ++ eLs q.attrs :: (q.evs.take i).map fun e => eLs e.attrs).length = l.length + (1 + min i q.evs.length) := by rw [List.length_append, List.length_cons, List.length_map, List.length_take]; omega
      repeat' ((conv => whnf); first | with_reducible (first | refine go1 (fun j q h => ?_) fun h => ?_ | refine go2 ⟨rfl, rfl⟩ (fun h => ?_) fun j h => ?_ | refine go2 ?_ (fun h => ?_) fun j h => ?_ | refine goQ ?_ (fun h => ?_) fun h => ?_) | apply go3 | apply go4 | apply go5 | ((first | apply go6 | apply go7 | apply go8 | apply go9 | apply goA) <;> intro h) | with_reducible (first | refine IdxK.mk _ rfl ?_ | refine idx_encL ?_ ?_ | refine idx_encM ?_ ?_ | refine goB ?_ fun hc => ?_ | refine goC ?_ fun hc => ?_ | refine goD ?_ fun hc => ?_ | refine goE ?_ fun hc => ?_ | apply goF | apply goG | refine goH ?_ fun b hb => ?_) | apply goI | apply goJ | apply goK | apply goL | apply goM | apply goN | apply goO | with_reducible refine goP ?_)
      all_goals try conv => whnf
      all_goals try (refine Side.mk ?_; try dsimp only)
      all_goals first | refine stay ?_ | trivial | omega | (simp (discharger := omega) only [wR]; omega) | (simp only [lnS]; omega) | (simp (discharger := omega) [-List.getD_eq_getElem?_getD, wR] <;> omega) | skip
      all_goals (try simp only [he0] at *)
      · have e := evs_next (s := q) (i := i) (by omega)
        refine ⟨[], i + 1, by omega, ?_, by omega⟩
        rw [e]
        refine Go.VG.Sub.mk rfl ?_ ?_ ?_ ?_ <;> (repeat' first | trivial | rfl | exact eqS _ _ | apply andI | apply eqA | apply eqB | apply eqC | apply eqD | apply eqE | apply eqF | apply eqG | apply eqH | apply eqI)
        all_goals (first | (rw [List.append_assoc]; rfl) | (rw [wi64]; omega))
      obtain rfl : i = q.evs.length := by omega
      rw [List.take_length]
      refine LoopP.mk Nat (fun i => i ≤ q.lks.length) (fun i => ⟨61, [(3, .ptr 1 0), (7, .ptr 4 0), (48, .list false 26 (q.lks.map eLk)), (49, .int .i64 q.lks.length), (50, .int .i64 i)], [.cells [.list c1 z1 x], .cells [.buf 2], .buf 1 0 (l ++ eLs q.attrs :: ((q.evs.map fun e => eLs e.attrs) ++ (q.lks.take i).map fun e => eLs e.attrs)), .cells [.list c2 z2 z], .cells (eSpc q)], [2]⟩) (fun i => q.lks.length - i) [] 0 (Nat.zero_le _) ?_ (fun i hi _ _ => ?_)
      · refine Go.VG.Sub.mk rfl ?_ ?_ ?_ ?_ <;> (repeat' first | trivial | rfl | exact eqS _ _ | apply andI | apply eqA | apply eqB | apply eqC | apply eqD | apply eqE | apply eqF | apply eqG | apply eqH | apply eqI)
        all_goals (first | (rw [hk0]; done) | (rw [List.take_zero, List.map_nil, List.append_nil]; done))
      have hl2 : (l ++ eLs q.attrs :: ((q.evs.map fun e => eLs e.attrs) ++ (q.lks.take i).map fun e => eLs e.attrs)).length = l.length + (1 + (q.evs.length + min i q.lks.length)) := by rw [List.length_append, List.length_cons, List.length_append, List.length_map, List.length_map, List.length_take]; omega
      repeat' ((conv => whnf); first | with_reducible (first | refine go1 (fun j q h => ?_) fun h => ?_ | refine go2 ⟨rfl, rfl⟩ (fun h => ?_) fun j h => ?_ | refine go2 ?_ (fun h => ?_) fun j h => ?_ | refine goQ ?_ (fun h => ?_) fun h => ?_) | apply go3 | apply go4 | apply go5 | ((first | apply go6 | apply go7 | apply go8 | apply go9 | apply goA) <;> intro h) | with_reducible (first | refine IdxK.mk _ rfl ?_ | refine idx_encL ?_ ?_ | refine idx_encM ?_ ?_ | refine goB ?_ fun hc => ?_ | refine goC ?_ fun hc => ?_ | refine goD ?_ fun hc => ?_ | refine goE ?_ fun hc => ?_ | apply goF | apply goG | refine goH ?_ fun b hb => ?_) | apply goI | apply goJ | apply goK | apply goL | apply goM | apply goN | apply goO | with_reducible refine goP ?_)
      all_goals try conv => whnf
      all_goals try (refine Side.mk ?_; try dsimp only)
      all_goals first | refine stay ?_ | trivial | omega | (simp (discharger := omega) only [wR]; omega) | (simp only [lnS]; omega) | (simp (discharger := omega) [-List.getD_eq_getElem?_getD, wR] <;> omega) | skip
      all_goals (try simp only [hk0] at *)
      · have e := lks_next (s := q) (i := i) (by omega)
        refine ⟨[], i + 1, by omega, ?_, by omega⟩
        rw [e]
        refine Go.VG.Sub.mk rfl ?_ ?_ ?_ ?_ <;> (repeat' first | trivial | rfl | exact eqS _ _ | apply andI | apply eqA | apply eqB | apply eqC | apply eqD | apply eqE | apply eqF | apply eqG | apply eqH | apply eqI)
        all_goals (first | (simp only [List.append_assoc, List.cons_append]; done) | (rw [wi64]; omega))
      obtain rfl : i = q.lks.length := by omega
      rw [List.take_length, ← lsV_eq]
      exact ⟨[], ⟨⟨rfl, rfl⟩, ⟨rfl, rfl⟩, ⟨rfl, rfl⟩, ⟨rfl, rfl⟩, trivial⟩, rfl, Nat.le_refl 4⟩
    · cases hy
  · exact ⟨⟨rfl, rfl⟩, trivial⟩
  repeat' ((conv => whnf); first | with_reducible (first | refine go1 (fun j q h => ?_) fun h => ?_ | refine go2 ⟨rfl, rfl⟩ (fun h => ?_) fun j h => ?_ | refine go2 ?_ (fun h => ?_) fun j h => ?_ | refine goQ ?_ (fun h => ?_) fun h => ?_) | apply go3 | apply go4 | apply go5 | ((first | apply go6 | apply go7 | apply go8 | apply go9 | apply goA) <;> intro h) | with_reducible (first | refine IdxK.mk _ rfl ?_ | refine idx_encL ?_ ?_ | refine idx_encM ?_ ?_ | refine goB ?_ fun hc => ?_ | refine goC ?_ fun hc => ?_ | refine goD ?_ fun hc => ?_ | refine goE ?_ fun hc => ?_ | apply goF | apply goG | refine goH ?_ fun b hb => ?_) | apply goI | apply goJ | apply goK | apply goL | apply goM | apply goN | apply goO | with_reducible refine goP ?_)
  all_goals try conv => whnf
  all_goals try (refine Side.mk ?_; try dsimp only)
  refine EndP.mk [.swap 0 2] ?_ <;> (repeat' first | trivial | rfl | exact eqS _ _ | apply andI | apply eqA | apply eqB | apply eqC | apply eqD | apply eqE | apply eqF | apply eqG | apply eqH | apply eqI)
theorem k_polLists : SOK 18 sm_polLists := by
  intro args sg pre x r he hp
  unfold sm_polLists at he
  split at he <;> cases he
  obtain ⟨⟨s, rfl⟩, hp⟩ := hp
  rw [un_bt] at hp ⊢
  exact f_polLists s hp
end Go.Proofs.YtafgmmfbhpbogaaGreatDoor
