/-
  Which limit a batch is beyond, as the document tells it.
-/
import Derived.Test.YtafgmmfbhpbogaaGreatDoorOVj
set_option linter.unusedSimpArgs false
set_option linter.unusedVariables false
set_option maxHeartbeats 4000000
namespace Go.Proofs.YtafgmmfbhpbogaaGreatDoor
open Go Go.VG
set_option maxRecDepth 100000
theorem longL_snoc (L : List (List Att)) (l : List Att) (x : Int × Int) : longL (L ++ [l]) x = (longN l (longL L x).1, longT l (longL L x).2) := by rw [longL_app]; rfl
/-- what was told of the lists ahead -/
abbrev lg (L : List (List Att)) : Int × Int := longL L (0, -1)
theorem lgR {b : List Rs} {i : Nat} (h : i < b.length) : lg ((b.take (i + 1)).map (·.attrs)) = (longN (b.getD i default).attrs (lg ((b.take i).map (·.attrs))).1, longT (b.getD i default).attrs (lg ((b.take i).map (·.attrs))).2) := by
  rw [take_nextV h, List.map_append, ← longL_snoc]; rfl
theorem lgE {B : List (List Att)} {s : Sp} {i : Nat} (h : i < s.evs.length) : lg (B ++ s.attrs :: (s.evs.take (i + 1)).map (·.attrs)) = (longN (s.evs.getD i default).attrs (lg (B ++ s.attrs :: (s.evs.take i).map (·.attrs))).1, longT (s.evs.getD i default).attrs (lg (B ++ s.attrs :: (s.evs.take i).map (·.attrs))).2) := by
  rw [take_nextV h, List.map_append, ← longL_snoc, List.append_assoc]; rfl
theorem lgK {B : List (List Att)} {s : Sp} {i : Nat} (h : i < s.lks.length) : lg (B ++ s.attrs :: (s.evs.map (·.attrs) ++ (s.lks.take (i + 1)).map (·.attrs))) = (longN (s.lks.getD i default).attrs (lg (B ++ s.attrs :: (s.evs.map (·.attrs) ++ (s.lks.take i).map (·.attrs)))).1, longT (s.lks.getD i default).attrs (lg (B ++ s.attrs :: (s.evs.map (·.attrs) ++ (s.lks.take i).map (·.attrs)))).2) := by
  rw [take_nextV h, List.map_append, ← longL_snoc, List.append_assoc, List.cons_append, List.append_assoc]; rfl
/-- the lists ahead of a span -/
def lsP (b : List Rs) (j : Nat) : List (List Att) := b.map (·.attrs) ++ ((spansB b).take j).flatMap lsS
theorem lsP_next {b : List Rs} {j : Nat} (h : j < (spansB b).length) : lsP b (j + 1) = lsP b j ++ lsS ((spansB b).getD j default) := by
  unfold lsP
  rw [take_nextV h, List.flatMap_append, ← List.append_assoc]; simp
theorem lsP_end (b : List Rs) : lsP b (spansB b).length = lsB b := by unfold lsP lsB; rw [List.take_length]
theorem dOver_lg (p : Po) (b : List Rs) : dOver p b = if (b.length : Int) > p.res ∨ ((spansB b).length : Int) > p.spn ∨ (b.length > 0 ∧ (lg (lsP b (spansB b).length)).1 > p.att) then 34 else if (lg (lsP b (spansB b).length)).2 ≥ 0 ∧ (lg (lsP b (spansB b).length)).2 > p.txt then 35 else 0 := by rw [lsP_end]; rfl
structure SpV (s : Sp) : Prop where
  v : ∀ l ∈ lsS s, okM l ∧ sizeM l ≤ 6000
theorem BtV.s {b : List Rs} (h : BtV b) {j : Nat} (hj : j < (spansB b).length) : SpV ((spansB b).getD j default) :=
  ⟨fun l hl => h.v l (List.mem_append_right _ (List.mem_flatMap.2 ⟨_, getD_mem hj, hl⟩))⟩
theorem BtV.r {b : List Rs} (h : BtV b) {i : Nat} (hi : i < b.length) : okM (b.getD i default).attrs ∧ sizeM (b.getD i default).attrs ≤ 6000 := h.v _ (List.mem_append_left _ (List.mem_map.2 ⟨_, getD_mem hi, rfl⟩))
theorem SpV.a {s : Sp} (h : SpV s) : okM s.attrs ∧ sizeM s.attrs ≤ 6000 := h.v _ List.mem_cons_self
theorem SpV.e {s : Sp} (h : SpV s) {i : Nat} (hi : i < s.evs.length) : okM (s.evs.getD i default).attrs ∧ sizeM (s.evs.getD i default).attrs ≤ 6000 := h.v _ (List.mem_cons_of_mem _ (List.mem_append_left _ (List.mem_map.2 ⟨_, getD_mem hi, rfl⟩)))
theorem SpV.k {s : Sp} (h : SpV s) {i : Nat} (hi : i < s.lks.length) : okM (s.lks.getD i default).attrs ∧ sizeM (s.lks.getD i default).attrs ≤ 6000 := h.v _ (List.mem_cons_of_mem _ (List.mem_append_right _ (List.mem_map.2 ⟨_, getD_mem hi, rfl⟩)))
-- #name r48Over truchmanref48.Over
noncomputable def sm_r48Over : Sm := fun args σ => match args, σ with
  | [.agg [.int .i64 a, .int .i64 t, .int .i64 r, .int .i64 s, .int .i64 q], x], [] => some ((∃ b, x = eBt b) ∧ BtOK (unE eBt x) ∧ BtV (unE eBt x), .int .i64 (dOver ⟨a, t, r, s, q⟩ (unE eBt x)), none)
  | _, _ => none
theorem f_r48Over (p : Po) (b : List Rs) (hb : BtOK b) (hv : BtV b) : OK 8 [.agg (ePoc p), eBt b] [] (.int .i64 (dOver p b)) none := by
  refine funOK_of_vc (C := cx [(20, sm_r28Places), (22, sm_r28Span), (21, sm_ovLong)]) (good ⟨k_r28Places, k_r28Span, k_ovLong, trivial⟩) (fn := Tryz.f8) rfl rfl rfl rfl fun hw _ => ?_
  have hb0 : (b.map eRs).length = b.length := List.length_map _
  have hp0 : ((plB 0 b).map ePl).length = (spansB b).length := by rw [List.length_map, plB_len]
  have hr := hb.r
  have hn := hb.n
  repeat' ((conv => whnf); first | with_reducible (first | refine go1 (fun j q h => ?_) fun h => ?_ | refine go2 ⟨rfl, rfl⟩ (fun h => ?_) fun j h => ?_ | refine go2 ?_ (fun h => ?_) fun j h => ?_ | refine goQ ?_ (fun h => ?_) fun h => ?_) | apply go3 | apply go4 | apply go5 | ((first | apply go6 | apply go7 | apply go8 | apply go9 | apply goA) <;> intro h) | with_reducible (first | refine IdxK.mk _ rfl ?_ | refine idx_encL ?_ ?_ | refine idx_encM ?_ ?_ | refine goB ?_ fun hc => ?_ | refine goC ?_ fun hc => ?_ | refine goD ?_ fun hc => ?_ | refine goE ?_ fun hc => ?_ | apply goF | apply goG | refine goH ?_ fun b hb => ?_) | apply goI | apply goJ | apply goK | apply goL | apply goM | apply goN | apply goO | with_reducible refine goP ?_)
  all_goals try conv => whnf
  all_goals try (refine Side.mk ?_; try dsimp only)
  · exact ⟨⟨_, rfl⟩, by rw [un_bt]; exact hb⟩
  simp only [un_bt]
  refine LoopP.mk Nat (fun i => i ≤ b.length) (fun i => ⟨127, [(2, .ptr 0 0), (3, .ptr 1 0), (5, .buf 2), (6, .int .i64 (lg ((b.take i).map (·.attrs))).1), (7, .int .i64 (lg ((b.take i).map (·.attrs))).2), (8, .int .i64 i)], [.cells (ePoc p), .cells [.list false 2 (b.map eRs)], .buf 3 0 ((plB 0 b).map ePl)], []⟩) (fun i => b.length - i) [] 0 (Nat.zero_le _) ?_ (fun i hi _ _ => ?_)
  · refine Go.VG.Sub.mk rfl ?_ ?_ ?_ ?_ <;> (repeat' first | trivial | rfl | exact eqS _ _ | apply andI | apply eqA | apply eqB | apply eqC | apply eqD | apply eqE | apply eqF | apply eqG | apply eqH | apply eqI)
  have hlx := fun h => lgR (b := b) (i := i) h
  have hvr := fun h => hv.r (i := i) h
  repeat' ((conv => whnf); first | with_reducible (first | refine go1 (fun j q h => ?_) fun h => ?_ | refine go2 ⟨rfl, rfl⟩ (fun h => ?_) fun j h => ?_ | refine go2 ?_ (fun h => ?_) fun j h => ?_ | refine goQ ?_ (fun h => ?_) fun h => ?_) | apply go3 | apply go4 | apply go5 | ((first | apply go6 | apply go7 | apply go8 | apply go9 | apply goA) <;> intro h) | with_reducible (first | refine IdxK.mk _ rfl ?_ | refine idx_encL ?_ ?_ | refine idx_encM ?_ ?_ | refine goB ?_ fun hc => ?_ | refine goC ?_ fun hc => ?_ | refine goD ?_ fun hc => ?_ | refine goE ?_ fun hc => ?_ | apply goF | apply goG | refine goH ?_ fun b hb => ?_) | apply goI | apply goJ | apply goK | apply goL | apply goM | apply goN | apply goO | with_reducible refine goP ?_)
  all_goals try conv => whnf
  all_goals try (refine Side.mk ?_; try dsimp only)
  all_goals first | refine stay ?_ | trivial | omega | (simp (discharger := omega) only [wR]; omega) | (simp only [lnS]; omega) | (simp (discharger := omega) [-List.getD_eq_getElem?_getD, wR] <;> omega) | skip
  all_goals (try simp only [hb0, decMv_enc] at *)
  · exact ⟨isM_enc _, hvr (by omega)⟩
  · refine ⟨[], i + 1, by omega, ?_, by omega⟩
    rw [hlx (by omega)]
    refine Go.VG.Sub.mk rfl ?_ ?_ ?_ ?_ <;> (repeat' first | trivial | rfl | exact eqS _ _ | apply andI | apply eqA | apply eqB | apply eqC | apply eqD | apply eqE | apply eqF | apply eqG | apply eqH | apply eqI)
    (first | omega | (simp (discharger := omega) only [wR]; omega) | (simp only [lnS]; omega) | (simp (discharger := omega) [-List.getD_eq_getElem?_getD, wR] <;> omega))
  obtain rfl : i = b.length := by omega
  rw [show (b.take b.length).map (·.attrs) = lsP b 0 by unfold lsP; simp]
  refine LoopP.mk Nat (fun j => j ≤ (spansB b).length) (fun j => ⟨127, [(2, .ptr 0 0), (3, .ptr 1 0), (5, .buf 2), (6, .int .i64 (lg (lsP b j)).1), (7, .int .i64 (lg (lsP b j)).2), (9, .int .i64 j)], [.cells (ePoc p), .cells [.list false 2 (b.map eRs)], .buf 3 0 ((plB 0 b).map ePl)], []⟩) (fun j => (spansB b).length - j) [] 0 (Nat.zero_le _) ?_ (fun j hj _ _ => ?_)
  · refine Go.VG.Sub.mk rfl ?_ ?_ ?_ ?_ <;> (repeat' first | trivial | rfl | exact eqS _ _ | apply andI | apply eqA | apply eqB | apply eqC | apply eqD | apply eqE | apply eqF | apply eqG | apply eqH | apply eqI)
  have hpl := plB_len b 0
  have hpg := fun h => place_get (b := b) (j := j) h
  repeat' ((conv => whnf); first | with_reducible (first | refine go1 (fun j q h => ?_) fun h => ?_ | refine go2 ⟨rfl, rfl⟩ (fun h => ?_) fun j h => ?_ | refine go2 ?_ (fun h => ?_) fun j h => ?_ | refine goQ ?_ (fun h => ?_) fun h => ?_) | apply go3 | apply go4 | apply go5 | ((first | apply go6 | apply go7 | apply go8 | apply go9 | apply goA) <;> intro h) | with_reducible (first | refine IdxK.mk _ rfl ?_ | refine idx_encL ?_ ?_ | refine idx_encM ?_ ?_ | refine goB ?_ fun hc => ?_ | refine goC ?_ fun hc => ?_ | refine goD ?_ fun hc => ?_ | refine goE ?_ fun hc => ?_ | apply goF | apply goG | refine goH ?_ fun b hb => ?_) | apply goI | apply goJ | apply goK | apply goL | apply goM | apply goN | apply goO | with_reducible refine goP ?_)
  all_goals try conv => whnf
  all_goals try (refine Side.mk ?_; try dsimp only)
  all_goals first | refine stay ?_ | trivial | omega | (simp (discharger := omega) only [wR]; omega) | (simp only [lnS]; omega) | (simp (discharger := omega) [-List.getD_eq_getElem?_getD, wR] <;> omega) | skip
  all_goals (try simp only [hp0] at *)
  · obtain ⟨q1, q2⟩ := hpg (by omega)
    refine ⟨⟨_, rfl⟩, ⟨by omega, by omega, by omega⟩, ?_⟩
    rw [un_bt]; exact q2
  · have hjl : j < (spansB b).length := by omega
    have q1 : spOf b ⟨((plB 0 b).getD j default).r, ((plB 0 b).getD j default).k, ((plB 0 b).getD j default).m⟩ = (spansB b).getD j default := (hpg hjl).1
    simp only [un_bt, Int.toNat_natCast, q1, decMv_enc]
    exact ⟨isM_enc _, (hv.s hjl).a⟩
  · have hjl : j < (spansB b).length := by omega
    have q1 : spOf b ⟨((plB 0 b).getD j default).r, ((plB 0 b).getD j default).k, ((plB 0 b).getD j default).m⟩ = (spansB b).getD j default := (hpg hjl).1
    have hsv := hv.s hjl
    have hn2 := lsP_next hjl
    have hse := hb.e _ (getD_mem hjl)
    simp only [un_bt, Int.toNat_natCast, q1, decMv_enc]
    generalize hS : (spansB b).getD j default = s at *
    have he0 : (s.evs.map eEv).length = s.evs.length := List.length_map _
    have hk0 : (s.lks.map eLk).length = s.lks.length := List.length_map _
    refine LoopP.mk Nat (fun i => i ≤ s.evs.length) (fun i => ⟨127, [(2, .ptr 0 0), (3, .ptr 1 0), (5, .buf 2), (6, .int .i64 (lg (lsP b j ++ s.attrs :: (s.evs.take i).map (·.attrs))).1), (7, .int .i64 (lg (lsP b j ++ s.attrs :: (s.evs.take i).map (·.attrs))).2), (9, .int .i64 j), (10, .ptr 3 0), (11, .int .i64 i)], [.cells (ePoc p), .cells [.list false 2 (b.map eRs)], .buf 3 0 ((plB 0 b).map ePl), .cells (eSpc s)], []⟩) (fun i => s.evs.length - i) [] 0 (Nat.zero_le _) ?_ (fun i hi _ _ => ?_)
    · rw [List.take_zero, List.map_nil, show lg (lsP b j ++ s.attrs :: []) = _ from longL_snoc (lsP b j) s.attrs (0, -1)]
      refine Go.VG.Sub.mk rfl ?_ ?_ ?_ ?_ <;> (repeat' first | trivial | rfl | exact eqS _ _ | apply andI | apply eqA | apply eqB | apply eqC | apply eqD | apply eqE | apply eqF | apply eqG | apply eqH | apply eqI)
    have hlx := fun h => lgE (B := lsP b j) (s := s) (i := i) h
    have hvr := fun h => hsv.e (i := i) h
    repeat' ((conv => whnf); first | with_reducible (first | refine go1 (fun j q h => ?_) fun h => ?_ | refine go2 ⟨rfl, rfl⟩ (fun h => ?_) fun j h => ?_ | refine go2 ?_ (fun h => ?_) fun j h => ?_ | refine goQ ?_ (fun h => ?_) fun h => ?_) | apply go3 | apply go4 | apply go5 | ((first | apply go6 | apply go7 | apply go8 | apply go9 | apply goA) <;> intro h) | with_reducible (first | refine IdxK.mk _ rfl ?_ | refine idx_encL ?_ ?_ | refine idx_encM ?_ ?_ | refine goB ?_ fun hc => ?_ | refine goC ?_ fun hc => ?_ | refine goD ?_ fun hc => ?_ | refine goE ?_ fun hc => ?_ | apply goF | apply goG | refine goH ?_ fun b hb => ?_) | apply goI | apply goJ | apply goK | apply goL | apply goM | apply goN | apply goO | with_reducible refine goP ?_)
    all_goals try conv => whnf
    all_goals try (refine Side.mk ?_; try dsimp only)
    all_goals first | refine stay ?_ | trivial | omega | (simp (discharger := omega) only [wR]; omega) | (simp only [lnS]; omega) | (simp (discharger := omega) [-List.getD_eq_getElem?_getD, wR] <;> omega) | skip
    all_goals (try simp only [he0, decMv_enc] at *)
    · exact ⟨isM_enc _, hvr (by omega)⟩
    · refine ⟨[], i + 1, by omega, ?_, by omega⟩
      rw [hlx (by omega)]
      refine Go.VG.Sub.mk rfl ?_ ?_ ?_ ?_ <;> (repeat' first | trivial | rfl | exact eqS _ _ | apply andI | apply eqA | apply eqB | apply eqC | apply eqD | apply eqE | apply eqF | apply eqG | apply eqH | apply eqI)
      (first | omega | (simp (discharger := omega) only [wR]; omega) | (simp only [lnS]; omega) | (simp (discharger := omega) [-List.getD_eq_getElem?_getD, wR] <;> omega))
    obtain rfl : i = s.evs.length := by omega
    rw [List.take_length]
    refine LoopP.mk Nat (fun i => i ≤ s.lks.length) (fun i => ⟨127, [(2, .ptr 0 0), (3, .ptr 1 0), (5, .buf 2), (6, .int .i64 (lg (lsP b j ++ s.attrs :: (s.evs.map (·.attrs) ++ (s.lks.take i).map (·.attrs)))).1), (7, .int .i64 (lg (lsP b j ++ s.attrs :: (s.evs.map (·.attrs) ++ (s.lks.take i).map (·.attrs)))).2), (9, .int .i64 j), (10, .ptr 3 0), (12, .int .i64 i)], [.cells (ePoc p), .cells [.list false 2 (b.map eRs)], .buf 3 0 ((plB 0 b).map ePl), .cells (eSpc s)], []⟩) (fun i => s.lks.length - i) [] 0 (Nat.zero_le _) ?_ (fun i hi _ _ => ?_)
    · rw [List.take_zero, List.map_nil, List.append_nil]
      refine Go.VG.Sub.mk rfl ?_ ?_ ?_ ?_ <;> (repeat' first | trivial | rfl | exact eqS _ _ | apply andI | apply eqA | apply eqB | apply eqC | apply eqD | apply eqE | apply eqF | apply eqG | apply eqH | apply eqI)
    have hlx := fun h => lgK (B := lsP b j) (s := s) (i := i) h
    have hvr := fun h => hsv.k (i := i) h
    repeat' ((conv => whnf); first | with_reducible (first | refine go1 (fun j q h => ?_) fun h => ?_ | refine go2 ⟨rfl, rfl⟩ (fun h => ?_) fun j h => ?_ | refine go2 ?_ (fun h => ?_) fun j h => ?_ | refine goQ ?_ (fun h => ?_) fun h => ?_) | apply go3 | apply go4 | apply go5 | ((first | apply go6 | apply go7 | apply go8 | apply go9 | apply goA) <;> intro h) | with_reducible (first | refine IdxK.mk _ rfl ?_ | refine idx_encL ?_ ?_ | refine idx_encM ?_ ?_ | refine goB ?_ fun hc => ?_ | refine goC ?_ fun hc => ?_ | refine goD ?_ fun hc => ?_ | refine goE ?_ fun hc => ?_ | apply goF | apply goG | refine goH ?_ fun b hb => ?_) | apply goI | apply goJ | apply goK | apply goL | apply goM | apply goN | apply goO | with_reducible refine goP ?_)
    all_goals try conv => whnf
    all_goals try (refine Side.mk ?_; try dsimp only)
    all_goals first | refine stay ?_ | trivial | omega | (simp (discharger := omega) only [wR]; omega) | (simp only [lnS]; omega) | (simp (discharger := omega) [-List.getD_eq_getElem?_getD, wR] <;> omega) | skip
    all_goals (try simp only [hk0, decMv_enc] at *)
    · exact ⟨isM_enc _, hvr (by omega)⟩
    · refine ⟨[], i + 1, by omega, ?_, by omega⟩
      rw [hlx (by omega)]
      refine Go.VG.Sub.mk rfl ?_ ?_ ?_ ?_ <;> (repeat' first | trivial | rfl | exact eqS _ _ | apply andI | apply eqA | apply eqB | apply eqC | apply eqD | apply eqE | apply eqF | apply eqG | apply eqH | apply eqI)
      (first | omega | (simp (discharger := omega) only [wR]; omega) | (simp only [lnS]; omega) | (simp (discharger := omega) [-List.getD_eq_getElem?_getD, wR] <;> omega))
    obtain rfl : i = s.lks.length := by omega
    rw [List.take_length]
    refine ⟨[], j + 1, hjl, ?_, by omega⟩
    rw [hn2]
    refine Go.VG.Sub.mk rfl ?_ ?_ ?_ ?_ <;> (repeat' first | trivial | rfl | exact eqS _ _ | apply andI | apply eqA | apply eqB | apply eqC | apply eqD | apply eqE | apply eqF | apply eqG | apply eqH | apply eqI)
    (first | omega | (simp (discharger := omega) only [wR]; omega) | (simp only [lnS]; omega) | (simp (discharger := omega) [-List.getD_eq_getElem?_getD, wR] <;> omega))
  all_goals
    obtain rfl : j = (spansB b).length := by omega
    have he := dOver_lg p b
    try simp only [List.length_map] at *
    repeat (first | rw [if_pos (by omega)] at he | rw [if_neg (by omega)] at he)
    rw [he]
    refine EndP.mk [] ?_ <;> (repeat' first | trivial | rfl | exact eqS _ _ | apply andI | apply eqA | apply eqB | apply eqC | apply eqD | apply eqE | apply eqF | apply eqG | apply eqH | apply eqI)
theorem k_r48Over : SOK 8 sm_r48Over := by
  intro args sg pre x r he hp
  unfold sm_r48Over at he
  split at he <;> cases he
  obtain ⟨⟨s, rfl⟩, hp⟩ := hp
  rw [un_bt] at hp ⊢
  exact f_r48Over ⟨_, _, _, _, _⟩ s hp.1 hp.2
end Go.Proofs.YtafgmmfbhpbogaaGreatDoor
