/-
  The document's places of a batch; policies.
-/
import Derived.Test.YtafgmmfbhpbogaaGreatDoorOVg
import Derived.Test.YtafgmmfbhpbogaaGreatDoorPRef
set_option linter.unusedSimpArgs false
set_option linter.unusedVariables false
set_option maxHeartbeats 4000000
namespace Go.Proofs.YtafgmmfbhpbogaaGreatDoor
open Go Go.VG
set_option maxRecDepth 100000
def mn (a b : Int) : Int := if b < a then b else a
def tight (p q : Po) : Po := ⟨mn p.inp q.inp, mn p.txt q.txt, mn p.res q.res, mn p.spn q.spn, mn p.att q.att⟩
abbrev ePoc (p : Po) : List V := [.int .i64 p.inp, .int .i64 p.txt, .int .i64 p.res, .int .i64 p.spn, .int .i64 p.att]
theorem viewPo {a t r s q : Int} (_ : True) : [V.int .i64 a, .int .i64 t, .int .i64 r, .int .i64 s, .int .i64 q] = ePoc ⟨a, t, r, s, q⟩ := rfl
theorem f_ovOwn_1 (p : Po) (hp : True) : OK 6 ([.agg (ePoc p)]) ([]) (.agg (ePoc p)) (none) := by
  refine funOK_of_vc (C := cx []) (good trivial) (fn := Tryz.f6) rfl rfl rfl rfl fun hw hs => ?_
  repeat' ((conv => whnf); first | with_reducible (first | refine go1 (fun j q h => ?_) fun h => ?_ | refine go2 ⟨rfl, rfl⟩ (fun h => ?_) fun j h => ?_ | refine go2 ?_ (fun h => ?_) fun j h => ?_ | refine goQ ?_ (fun h => ?_) fun h => ?_) | apply go3 | apply go4 | apply go5 | ((first | apply go6 | apply go7 | apply go8 | apply go9 | apply goA) <;> intro h) | with_reducible (first | refine IdxK.mk _ rfl ?_ | refine idx_encL ?_ ?_ | refine idx_encM ?_ ?_ | refine goB ?_ fun hc => ?_ | refine goC ?_ fun hc => ?_ | refine goD ?_ fun hc => ?_ | refine goE ?_ fun hc => ?_ | apply goF | apply goG | refine goH ?_ fun b hb => ?_) | apply goI | apply goJ | apply goK | apply goL | apply goM | apply goN | apply goO | with_reducible refine goP ?_)
  all_goals try conv => whnf
  all_goals try (refine Side.mk ?_; try dsimp only)
  all_goals first | refine stay ?_ | trivial | omega | (simp (discharger := omega) only [wR]; omega) | (simp only [lnS]; omega) | (simp (discharger := omega) [-List.getD_eq_getElem?_getD, wR] <;> omega) | skip
  refine EndP.mk [] ?_ <;> (repeat' first | trivial | rfl | exact eqS _ _ | apply andI | apply eqA | apply eqB | apply eqC | apply eqD | apply eqE | apply eqF | apply eqG | apply eqH | apply eqI)
def sm_ovOwn : Sm := fun args σ => match args, σ with
  | [.agg ([.int .i64 a_p, .int .i64 t_p, .int .i64 r_p, .int .i64 s_p, .int .i64 q_p])], [] => some (True ∧ (True), .agg (ePoc (Po.mk a_p t_p r_p s_p q_p)), none)
  | _, _ => none
theorem k_ovOwn : SOK 6 sm_ovOwn := by
  intro args sg pre x r he hp
  unfold sm_ovOwn at he
  split at he <;> cases he
  · rw [viewPo (hp).1]; exact f_ovOwn_1 (hp := hp.2) ..
theorem f_ovBack_1 (p : Po) (hp : True) : OK 9 ([.agg (ePoc p)]) ([]) (.agg (ePoc p)) (none) := by
  refine funOK_of_vc (C := cx []) (good trivial) (fn := Tryz.f9) rfl rfl rfl rfl fun hw hs => ?_
  repeat' ((conv => whnf); first | with_reducible (first | refine go1 (fun j q h => ?_) fun h => ?_ | refine go2 ⟨rfl, rfl⟩ (fun h => ?_) fun j h => ?_ | refine go2 ?_ (fun h => ?_) fun j h => ?_ | refine goQ ?_ (fun h => ?_) fun h => ?_) | apply go3 | apply go4 | apply go5 | ((first | apply go6 | apply go7 | apply go8 | apply go9 | apply goA) <;> intro h) | with_reducible (first | refine IdxK.mk _ rfl ?_ | refine idx_encL ?_ ?_ | refine idx_encM ?_ ?_ | refine goB ?_ fun hc => ?_ | refine goC ?_ fun hc => ?_ | refine goD ?_ fun hc => ?_ | refine goE ?_ fun hc => ?_ | apply goF | apply goG | refine goH ?_ fun b hb => ?_) | apply goI | apply goJ | apply goK | apply goL | apply goM | apply goN | apply goO | with_reducible refine goP ?_)
  all_goals try conv => whnf
  all_goals try (refine Side.mk ?_; try dsimp only)
  all_goals first | refine stay ?_ | trivial | omega | (simp (discharger := omega) only [wR]; omega) | (simp only [lnS]; omega) | (simp (discharger := omega) [-List.getD_eq_getElem?_getD, wR] <;> omega) | skip
  refine EndP.mk [] ?_ <;> (repeat' first | trivial | rfl | exact eqS _ _ | apply andI | apply eqA | apply eqB | apply eqC | apply eqD | apply eqE | apply eqF | apply eqG | apply eqH | apply eqI)
def sm_ovBack : Sm := fun args σ => match args, σ with
  | [.agg ([.int .i64 a_p, .int .i64 t_p, .int .i64 r_p, .int .i64 s_p, .int .i64 q_p])], [] => some (True ∧ (True), .agg (ePoc (Po.mk a_p t_p r_p s_p q_p)), none)
  | _, _ => none
theorem k_ovBack : SOK 9 sm_ovBack := by
  intro args sg pre x r he hp
  unfold sm_ovBack at he
  split at he <;> cases he
  · rw [viewPo (hp).1]; exact f_ovBack_1 (hp := hp.2) ..
theorem f_ovTight_1 (p q : Po) (hp : True) : OK 10 ([.agg (ePoc p), .agg (ePoc q)]) ([]) (.agg (ePoc (tight p q))) (none) := by
  refine funOK_of_vc (C := cx []) (good trivial) (fn := Tryz.f10) rfl rfl rfl rfl fun hw hs => ?_
  repeat' ((conv => whnf); first | with_reducible (first | refine go1 (fun j q h => ?_) fun h => ?_ | refine go2 ⟨rfl, rfl⟩ (fun h => ?_) fun j h => ?_ | refine go2 ?_ (fun h => ?_) fun j h => ?_ | refine goQ ?_ (fun h => ?_) fun h => ?_) | apply go3 | apply go4 | apply go5 | ((first | apply go6 | apply go7 | apply go8 | apply go9 | apply goA) <;> intro h) | with_reducible (first | refine IdxK.mk _ rfl ?_ | refine idx_encL ?_ ?_ | refine idx_encM ?_ ?_ | refine goB ?_ fun hc => ?_ | refine goC ?_ fun hc => ?_ | refine goD ?_ fun hc => ?_ | refine goE ?_ fun hc => ?_ | apply goF | apply goG | refine goH ?_ fun b hb => ?_) | apply goI | apply goJ | apply goK | apply goL | apply goM | apply goN | apply goO | with_reducible refine goP ?_)
  all_goals try conv => whnf
  all_goals try (refine Side.mk ?_; try dsimp only)
  all_goals first | refine stay ?_ | trivial | omega | (simp (discharger := omega) only [wR]; omega) | (simp only [lnS]; omega) | (simp (discharger := omega) [-List.getD_eq_getElem?_getD, wR] <;> omega) | skip
  refine EndP.mk [] ?_ <;> (repeat' first | trivial | rfl | exact eqS _ _ | apply andI | apply eqA | apply eqB | apply eqC | apply eqD | apply eqE | apply eqF | apply eqG | apply eqH | apply eqI)
def sm_ovTight : Sm := fun args σ => match args, σ with
  | [.agg ([.int .i64 a_p, .int .i64 t_p, .int .i64 r_p, .int .i64 s_p, .int .i64 q_p]), .agg ([.int .i64 a_q, .int .i64 t_q, .int .i64 r_q, .int .i64 s_q, .int .i64 q_q])], [] => some (True ∧ (True ∧ (True)), .agg (ePoc (tight (Po.mk a_p t_p r_p s_p q_p) (Po.mk a_q t_q r_q s_q q_q))), none)
  | _, _ => none
theorem k_ovTight : SOK 10 sm_ovTight := by
  intro args sg pre x r he hp
  unfold sm_ovTight at he
  split at he <;> cases he
  · rw [viewPo (hp).1]; rw [viewPo (hp.2).1]; exact f_ovTight_1 (hp := hp.2.2) ..
theorem f_ovTightD_1 (p q : Po) (hp : True) : OK 11 ([.agg (ePoc p), .agg (ePoc q)]) ([]) (.agg (ePoc (tight p q))) (none) := by
  refine funOK_of_vc (C := cx []) (good trivial) (fn := Tryz.f11) rfl rfl rfl rfl fun hw hs => ?_
  repeat' ((conv => whnf); first | with_reducible (first | refine go1 (fun j q h => ?_) fun h => ?_ | refine go2 ⟨rfl, rfl⟩ (fun h => ?_) fun j h => ?_ | refine go2 ?_ (fun h => ?_) fun j h => ?_ | refine goQ ?_ (fun h => ?_) fun h => ?_) | apply go3 | apply go4 | apply go5 | ((first | apply go6 | apply go7 | apply go8 | apply go9 | apply goA) <;> intro h) | with_reducible (first | refine IdxK.mk _ rfl ?_ | refine idx_encL ?_ ?_ | refine idx_encM ?_ ?_ | refine goB ?_ fun hc => ?_ | refine goC ?_ fun hc => ?_ | refine goD ?_ fun hc => ?_ | refine goE ?_ fun hc => ?_ | apply goF | apply goG | refine goH ?_ fun b hb => ?_) | apply goI | apply goJ | apply goK | apply goL | apply goM | apply goN | apply goO | with_reducible refine goP ?_)
  all_goals try conv => whnf
  all_goals try (refine Side.mk ?_; try dsimp only)
  all_goals first | refine stay ?_ | trivial | omega | (simp (discharger := omega) only [wR]; omega) | (simp only [lnS]; omega) | (simp (discharger := omega) [-List.getD_eq_getElem?_getD, wR] <;> omega) | skip
  refine EndP.mk [] ?_ <;> (repeat' first | trivial | rfl | exact eqS _ _ | apply andI | apply eqA | apply eqB | apply eqC | apply eqD | apply eqE | apply eqF | apply eqG | apply eqH | apply eqI)
def sm_ovTightD : Sm := fun args σ => match args, σ with
  | [.agg ([.int .i64 a_p, .int .i64 t_p, .int .i64 r_p, .int .i64 s_p, .int .i64 q_p]), .agg ([.int .i64 a_q, .int .i64 t_q, .int .i64 r_q, .int .i64 s_q, .int .i64 q_q])], [] => some (True ∧ (True ∧ (True)), .agg (ePoc (tight (Po.mk a_p t_p r_p s_p q_p) (Po.mk a_q t_q r_q s_q q_q))), none)
  | _, _ => none
theorem k_ovTightD : SOK 11 sm_ovTightD := by
  intro args sg pre x r he hp
  unfold sm_ovTightD at he
  split at he <;> cases he
  · rw [viewPo (hp).1]; rw [viewPo (hp.2).1]; exact f_ovTightD_1 (hp := hp.2.2) ..
/-! the document's longest list and text -/
-- #name ovLong truchmanref48.longest
def sm_ovLong : Sm := fun args σ => match args, σ with
  | [x, .int .i64 n, .int .i64 t], [] => some (isM x ∧ okM (decMv x) ∧ sizeM (decMv x) ≤ 6000, .tuple [.int .i64 (longN (decMv x) n), .int .i64 (longT (decMv x) t)], none)
  | _, _ => none
theorem longT_next {l : List Att} {i : Nat} (h : i < l.length) (t : Int) : longT (l.take (i + 1)) t = if (text (l.getD i default).value).length > longT (l.take i) t then ((text (l.getD i default).value).length : Int) else longT (l.take i) t := by
  unfold longT
  rw [take_nextV h, List.foldl_append]; rfl
theorem f_ovLong (l : List Att) (n t : Int) (hv : okM l) (hs : sizeM l ≤ 6000) : OK 21 [.list false 7 (encM l), .int .i64 n, .int .i64 t] [] (.tuple [.int .i64 (longN l n), .int .i64 (longT l t)]) none := by
  refine funOK_of_vc (C := cx [(31, sm_RText)]) (good ⟨k_RText, trivial⟩) (fn := Tryz.f21) rfl rfl rfl rfl fun hw _ => ?_
  have hm := encM_length l
  have hsl := sizeM_len l
  repeat' ((conv => whnf); first | with_reducible (first | refine go1 (fun j q h => ?_) fun h => ?_ | refine go2 ⟨rfl, rfl⟩ (fun h => ?_) fun j h => ?_ | refine go2 ?_ (fun h => ?_) fun j h => ?_ | refine goQ ?_ (fun h => ?_) fun h => ?_) | apply go3 | apply go4 | apply go5 | ((first | apply go6 | apply go7 | apply go8 | apply go9 | apply goA) <;> intro h) | with_reducible (first | refine IdxK.mk _ rfl ?_ | refine idx_encL ?_ ?_ | refine idx_encM ?_ ?_ | refine goB ?_ fun hc => ?_ | refine goC ?_ fun hc => ?_ | refine goD ?_ fun hc => ?_ | refine goE ?_ fun hc => ?_ | apply goF | apply goG | refine goH ?_ fun b hb => ?_) | apply goI | apply goJ | apply goK | apply goL | apply goM | apply goN | apply goO | with_reducible refine goP ?_)
  all_goals try conv => whnf
  all_goals try (refine Side.mk ?_; try dsimp only)
  refine LoopP.mk Nat (fun i => i ≤ l.length) (fun i => ⟨29, [(0, .list false 7 (encM l)), (1, .int .i64 n), (2, .int .i64 (longT (l.take i) t)), (8, .int .i64 i)], [], []⟩) (fun i => l.length - i) [] 0 (Nat.zero_le _) ?_ (fun i hi _ _ => ?_)
  · refine Go.VG.Sub.mk rfl ?_ ?_ ?_ ?_ <;> (repeat' first | trivial | rfl | exact eqS _ _ | apply andI | apply eqA | apply eqB | apply eqC | apply eqD | apply eqE | apply eqF | apply eqG | apply eqH | apply eqI)
  have hok := fun h => okM_get hv (i := i) h
  have hsz := fun h => sizeM_get (l := l) (i := i) h
  have hnx := fun h => longT_next (l := l) (i := i) h t
  repeat' ((conv => whnf); first | with_reducible (first | refine go1 (fun j q h => ?_) fun h => ?_ | refine go2 ⟨rfl, rfl⟩ (fun h => ?_) fun j h => ?_ | refine go2 ?_ (fun h => ?_) fun j h => ?_ | refine goQ ?_ (fun h => ?_) fun h => ?_) | apply go3 | apply go4 | apply go5 | ((first | apply go6 | apply go7 | apply go8 | apply go9 | apply goA) <;> intro h) | with_reducible (first | refine IdxK.mk _ rfl ?_ | refine idx_encL ?_ ?_ | refine idx_encM ?_ ?_ | refine goB ?_ fun hc => ?_ | refine goC ?_ fun hc => ?_ | refine goD ?_ fun hc => ?_ | refine goE ?_ fun hc => ?_ | apply goF | apply goG | refine goH ?_ fun b hb => ?_) | apply goI | apply goJ | apply goK | apply goL | apply goM | apply goN | apply goO | with_reducible refine goP ?_)
  all_goals try conv => whnf
  all_goals try (refine Side.mk ?_; try dsimp only)
  all_goals first | refine stay ?_ | trivial | omega | (simp (discharger := omega) only [wR]; omega) | (simp only [lnS]; omega) | (simp (discharger := omega) [-List.getD_eq_getElem?_getD, wR] <;> omega) | skip
  all_goals (try simp only [hm, decV_ev] at *)
  · have hlt : i < l.length := by omega
    refine ⟨isV_ev _, ?_, ?_⟩
    · exact hok hlt
    · have := hsz hlt; omega
  · have hlt : i < l.length := by omega
    refine ⟨[], i + 1, hlt, ?_, by omega⟩
    rw [hnx hlt]
    refine Go.VG.Sub.mk rfl ?_ ?_ ?_ ?_ <;> (repeat' first | trivial | rfl | exact eqS _ _ | apply andI | apply eqA | apply eqB | apply eqC | apply eqD | apply eqE | apply eqF | apply eqG | apply eqH | apply eqI)
    all_goals (first | (rw [wi64]; omega) | (split <;> split <;> omega))
  · obtain rfl : i = l.length := by omega
    rw [List.take_length]
    refine EndP.mk [] ?_ <;> (repeat' first | trivial | rfl | exact eqS _ _ | apply andI | apply eqA | apply eqB | apply eqC | apply eqD | apply eqE | apply eqF | apply eqG | apply eqH | apply eqI)
theorem k_ovLong : SOK 21 sm_ovLong := by
  intro args sg pre x r he hp
  unfold sm_ovLong at he
  split at he <;> cases he
  exact (f_ovLong _ _ _ hp.2.1 hp.2.2).args (WkL.cons hp.1 (WkL.refl _))
end Go.Proofs.YtafgmmfbhpbogaaGreatDoor
