/-
  Values of Protobuf: the document's reader of a value.
-/
import Derived.Test.YtkkfdkfopdjomaaDoorOD
set_option linter.unusedSimpArgs false
set_option linter.unusedVariables false
set_option maxHeartbeats 4000000
namespace Go.Proofs.YtkkfdkfopdjomaaDoor
open Go Go.VG
set_option maxRecDepth 100000
theorem Pf_eta (f : Pf) : Pf.mk f.no f.wi f.num f.text = f := rfl
/-- the place ahead of so many -/
def ahead : Nat → Int
  | 0 => -1
  | m + 1 => m
theorem ahead_eq (n : Nat) : ahead n = (n : Int) - 1 := by
  cases n with
  | zero => rfl
  | succ n => show (n : Int) = ((n + 1 : Nat) : Int) - 1; omega
theorem rdB_y {g6 g7 : RV} {s : List UInt8} (h0 : aFine s = 0) : rdB g6 g7 s = if selF (inT T7) (aFds s) = [] then (0, vz)
    else if kdF (lastF (selF (inT T7) (aFds s))) = 6 then g6 (lastF (selF (inT T7) (aFds s))).text
    else if kdF (lastF (selF (inT T7) (aFds s))) = 7 then g7 (lastF (selF (inT T7) (aFds s))).text
    else (0, oneV (lastF (selF (inT T7) (aFds s)))) := if_neg fun q => q h0
theorem f_orReadO (v : RV) (K : Nat) (hv : SOK 6 (sm_orR v K)) (g6 g7 : RV) (s : List UInt8) (d : Int) (hs : s.length ≤ 9000) (hp : RdOk v K g6 g7 d) (h6 : ∀ t, shV (g6 t).2) (h7 : ∀ t, shV (g7 t).2) (h0 : aFine s = 0)
    (hH : selF (inT T7) (aFds s) ≠ [] → kdF (lastF (selF (inT T7) (aFds s))) ≠ 6 ∧ kdF (lastF (selF (inT T7) (aFds s))) ≠ 7) : OK 6 [.str s, .int .i64 d] [] (rX (rdB g6 g7 s)) none := by
  refine funOK_of_vc (C := cxv [(19, sm_r17All), (20, sm_orKind), (21, sm_orH v K g6 g7 d)] [(9, [.res, .res])] [(9, 2), (10, 3)]) (goodv ⟨k_r17All, k_orKind, k_orH v K hv g6 g7 d hp h6 h7, trivial⟩) (fn := Tryd.f6) rfl rfl rfl rfl fun hw _ => ?_
  have hrB := rdB_y (g6 := g6) (g7 := g7) h0
  have hos := ov_short hs
  have hfl := (fits s).l
  have hsel := @sel_last (inT T7) (aFds s)
  have hsd := @sel_drop (inT T7) (aFds s)
  repeat' ((conv => whnf); first | with_reducible (first | refine go1 (fun j q h => ?_) fun h => ?_ | refine go2 ⟨rfl, rfl⟩ (fun h => ?_) fun j h => ?_ | refine go2 ?_ (fun h => ?_) fun j h => ?_ | refine goQ ?_ (fun h => ?_) fun h => ?_) | apply go3 | apply go4 | apply go5 | ((first | apply go6 | apply go7 | apply go8 | apply go9 | apply goA) <;> intro h) | with_reducible (first | refine IdxK.mk _ rfl ?_ | refine call_ite (fun h => ?_) fun h => ?_ | refine goB ?_ fun hc => ?_ | refine goC ?_ fun hc => ?_ | refine goD ?_ fun hc => ?_ | refine goE ?_ fun hc => ?_ | apply goF | apply goG | refine goH ?_ fun b hb => ?_) | apply goI | apply goJ | apply goK | apply goL | apply goM | apply goN | apply goO | with_reducible refine goP ?_)
  all_goals try conv => whnf
  all_goals try (refine Side.mk ?_; try dsimp only)
  · omega
  rotate_left 1
  · exact absurd h0 (by assumption)
  have htx := (fits s).s
  rw [hrB]
  clear hrB
  generalize aFds s = L at *
  have e1 : (L.map ePf).length = L.length := by simp
  refine LoopP.mk Nat (fun j => j ≤ L.length ∧ selF (inT T7) (L.drop j) = []) (fun j => ⟨103, [(1, .int .i64 d), (4, .ptr 0 0), (6, .buf 1), (8, .int .i64 (ahead j))], [.cells [.int .u8 0, .str [], .int .i64 0, .int .u64 0, .list true 0 [], .list true 0 []], .buf 4 0 (L.map ePf)], [0, 1]⟩) (fun j => j) [] L.length ⟨Nat.le_refl _, by rw [List.drop_length]; rfl⟩ ?_ (fun j ⟨hj, hn⟩ _ hwS => ?_)
  · refine Go.VG.Sub.mk rfl ?_ ?_ ?_ ?_ <;> (repeat' first | trivial | rfl | exact eqS _ _ | apply andI | apply eqA | apply eqB | apply eqC | apply eqD | apply eqE | apply eqF | apply eqG | apply eqH | apply eqI)
    rw [ahead_eq, e1, wi64]; omega
  cases j with
  | zero =>
    rw [List.drop_zero] at hn
    rw [if_pos hn]
    repeat' ((conv => whnf); first | with_reducible (first | refine go1 (fun j q h => ?_) fun h => ?_ | refine go2 ⟨rfl, rfl⟩ (fun h => ?_) fun j h => ?_ | refine go2 ?_ (fun h => ?_) fun j h => ?_ | refine goQ ?_ (fun h => ?_) fun h => ?_) | apply go3 | apply go4 | apply go5 | ((first | apply go6 | apply go7 | apply go8 | apply go9 | apply goA) <;> intro h) | with_reducible (first | refine IdxK.mk _ rfl ?_ | refine call_ite (fun h => ?_) fun h => ?_ | refine goB ?_ fun hc => ?_ | refine goC ?_ fun hc => ?_ | refine goD ?_ fun hc => ?_ | refine goE ?_ fun hc => ?_ | apply goF | apply goG | refine goH ?_ fun b hb => ?_) | apply goI | apply goJ | apply goK | apply goL | apply goM | apply goN | apply goO | with_reducible refine goP ?_)
    all_goals try conv => whnf
    all_goals try (refine Side.mk ?_; try dsimp only)
    refine EndP.mk [] ?_ <;> (repeat' first | trivial | rfl | exact eqS _ _ | apply andI | apply eqA | apply eqB | apply eqC | apply eqD | apply eqE | apply eqF | apply eqG | apply eqH | apply eqI)
  | succ m =>
    have hnum := wfL_iff.1 hwS.2.1.2 (ePf (L.getD m default)) (List.mem_map.2 ⟨L.getD m default, by rw [List.getD_eq_getElem?_getD, List.getElem?_eq_getElem (show m < L.length by omega)]; exact List.getElem_mem _, rfl⟩)
    have hnum : 0 ≤ (L.getD m default).num := hnum.2.2.1.1
    have htx := htx (L.getD m default) (by rw [List.getD_eq_getElem?_getD, List.getElem?_eq_getElem (show m < L.length by omega)]; exact List.getElem_mem _)
    have hsel := fun h => hsel (j := m) (by omega) h hn
    have hsd := hsd (j := m) (by omega)
    rw [hn, List.append_nil] at hsd
    have hin := inT7 (L.getD m default)
    rw [show ahead (m + 1) = (m : Int) from rfl]
    have hE : kdF (L.getD m default) ≠ 0 → selF (inT T7) L ≠ [] ∧ lastF (selF (inT T7) L) = L.getD m default := fun q => hsel (hin.2 q)
    have hz : kdF (L.getD m default) = 0 → selF (inT T7) (L.drop m) = [] := fun q => by
      rw [hsd, if_neg]
      intro q2
      exact hin.1 q2 q
    clear hsel hsd hin
    have hH2 : kdF (L.getD m default) ≠ 0 → kdF (L.getD m default) ≠ 6 ∧ kdF (L.getD m default) ≠ 7 := fun q => by have h := hH (hE q).1; rw [(hE q).2] at h; exact h
    repeat' ((conv => whnf); first | with_reducible (first | refine go1 (fun j q h => ?_) fun h => ?_ | refine go2 ⟨rfl, rfl⟩ (fun h => ?_) fun j h => ?_ | refine go2 ?_ (fun h => ?_) fun j h => ?_ | refine goQ ?_ (fun h => ?_) fun h => ?_) | apply go3 | apply go4 | apply go5 | ((first | apply go6 | apply go7 | apply go8 | apply go9 | apply goA) <;> intro h) | with_reducible (first | refine IdxK.mk _ rfl ?_ | refine call_ite (fun h => ?_) fun h => ?_ | refine goB ?_ fun hc => ?_ | refine goC ?_ fun hc => ?_ | refine goD ?_ fun hc => ?_ | refine goE ?_ fun hc => ?_ | apply goF | apply goG | refine goH ?_ fun b hb => ?_) | apply goI | apply goJ | apply goK | apply goL | apply goM | apply goN | apply goO | with_reducible refine goP ?_)
    all_goals try conv => whnf
    all_goals try (refine Side.mk ?_; try dsimp only)
    all_goals (try simp only [Cu_eta, Pf_eta] at *)
    all_goals first | refine stay ?_ | trivial | omega | (simp (discharger := omega) only [wR]; omega) | (simp only [lnS]; omega) | (simp (discharger := omega) [-List.getD_eq_getElem?_getD, wR] <;> omega) | skip
    all_goals (try generalize L.getD m default = f at *)
    all_goals try (exfalso; omega)
    all_goals try
      (refine ⟨[], m, ⟨by omega, hz (by assumption)⟩, ?_, by omega⟩
       refine Go.VG.Sub.mk rfl ?_ ?_ ?_ ?_ <;> (repeat' first | trivial | rfl | exact eqS _ _ | apply andI | apply eqA | apply eqB | apply eqC | apply eqD | apply eqE | apply eqF | apply eqG | apply eqH | apply eqI)
       all_goals (rw [ahead_eq, wi64]; omega)
       done)
    all_goals (try rw [if_neg (hE (by first | assumption | omega)).1, (hE (by first | assumption | omega)).2, if_neg (by omega), if_neg (by omega)])
    · rw [oneV_1 (by assumption)]
      refine EndP.mk [] ?_ <;> (repeat' first | trivial | rfl | exact eqS _ _ | apply andI | apply eqA | apply eqB | apply eqC | apply eqD | apply eqE | apply eqF | apply eqG | apply eqH | apply eqI)
    · rw [oneV_5 (by assumption)]
      refine EndP.mk [] ?_ <;> (repeat' first | trivial | rfl | exact eqS _ _ | apply andI | apply eqA | apply eqB | apply eqC | apply eqD | apply eqE | apply eqF | apply eqG | apply eqH | apply eqI)
    · rw [oneV_4 (by assumption)]
      refine EndP.mk [] ?_ <;> (repeat' first | trivial | rfl | exact eqS _ _ | apply andI | apply eqA | apply eqB | apply eqC | apply eqD | apply eqE | apply eqF | apply eqG | apply eqH | apply eqI)
    · rw [oneV_3 (by assumption)]
      refine EndP.mk [] ?_ <;> (repeat' first | trivial | rfl | exact eqS _ _ | apply andI | apply eqA | apply eqB | apply eqC | apply eqD | apply eqE | apply eqF | apply eqG | apply eqH | apply eqI)
    · have := kd_no (by assumption)
      have e2 : kdF f = 2 := by omega
      rw [oneV_2 e2, if_neg (by omega)]
      refine EndP.mk [] ?_ <;> (repeat' first | trivial | rfl | exact eqS _ _ | apply andI | apply eqA | apply eqB | apply eqC | apply eqD | apply eqE | apply eqF | apply eqG | apply eqH | apply eqI)
    · rw [oneV_2 (by assumption), if_pos (by omega)]
      refine EndP.mk [] ?_ <;> (repeat' first | trivial | rfl | exact eqS _ _ | apply andI | apply eqA | apply eqB | apply eqC | apply eqD | apply eqE | apply eqF | apply eqG | apply eqH | apply eqI)
    · rw [oneV_2 (by assumption), if_neg (by omega), show f.num = 0 by omega]
      refine EndP.mk [] ?_ <;> (repeat' first | trivial | rfl | exact eqS _ _ | apply andI | apply eqA | apply eqB | apply eqC | apply eqD | apply eqE | apply eqF | apply eqG | apply eqH | apply eqI)
    · exfalso
      have := kd_no (by assumption)
      omega
theorem f_orReadH (v : RV) (K : Nat) (hv : SOK 6 (sm_orR v K)) (g6 g7 : RV) (s : List UInt8) (d : Int) (hs : s.length ≤ 9000) (hp : RdOk v K g6 g7 d) (h6 : ∀ t, shV (g6 t).2) (h7 : ∀ t, shV (g7 t).2) (h0 : aFine s = 0)
    (hE0 : selF (inT T7) (aFds s) ≠ []) (hH : kdF (lastF (selF (inT T7) (aFds s))) = 6 ∨ kdF (lastF (selF (inT T7) (aFds s))) = 7) : OK 6 [.str s, .int .i64 d] [] (.tuple [ev (rdB g6 g7 s).2, .int .i64 (rdB g6 g7 s).1]) none := by
  refine funOK_of_vc (C := cxv [(19, sm_r17All), (20, sm_orKind), (21, sm_orH v K g6 g7 d)] [(9, [.res, .res])] [(9, 2), (10, 3)]) (goodv ⟨k_r17All, k_orKind, k_orH v K hv g6 g7 d hp h6 h7, trivial⟩) (fn := Tryd.f6) rfl rfl rfl rfl fun hw _ => ?_
  have hrB := rdB_y (g6 := g6) (g7 := g7) h0
  have hos := ov_short hs
  have hfl := (fits s).l
  have hsel := @sel_last (inT T7) (aFds s)
  have hsd := @sel_drop (inT T7) (aFds s)
  repeat' ((conv => whnf); first | with_reducible (first | refine go1 (fun j q h => ?_) fun h => ?_ | refine go2 ⟨rfl, rfl⟩ (fun h => ?_) fun j h => ?_ | refine go2 ?_ (fun h => ?_) fun j h => ?_ | refine goQ ?_ (fun h => ?_) fun h => ?_) | apply go3 | apply go4 | apply go5 | ((first | apply go6 | apply go7 | apply go8 | apply go9 | apply goA) <;> intro h) | with_reducible (first | refine IdxK.mk _ rfl ?_ | refine call_ite (fun h => ?_) fun h => ?_ | refine goB ?_ fun hc => ?_ | refine goC ?_ fun hc => ?_ | refine goD ?_ fun hc => ?_ | refine goE ?_ fun hc => ?_ | apply goF | apply goG | refine goH ?_ fun b hb => ?_) | apply goI | apply goJ | apply goK | apply goL | apply goM | apply goN | apply goO | with_reducible refine goP ?_)
  all_goals try conv => whnf
  all_goals try (refine Side.mk ?_; try dsimp only)
  · omega
  rotate_left 1
  · exact absurd h0 (by assumption)
  have htx := (fits s).s
  rw [hrB]
  clear hrB
  generalize aFds s = L at *
  have e1 : (L.map ePf).length = L.length := by simp
  refine LoopP.mk Nat (fun j => j ≤ L.length ∧ selF (inT T7) (L.drop j) = []) (fun j => ⟨103, [(1, .int .i64 d), (4, .ptr 0 0), (6, .buf 1), (8, .int .i64 (ahead j))], [.cells [.int .u8 0, .str [], .int .i64 0, .int .u64 0, .list true 0 [], .list true 0 []], .buf 4 0 (L.map ePf)], [0, 1]⟩) (fun j => j) [] L.length ⟨Nat.le_refl _, by rw [List.drop_length]; rfl⟩ ?_ (fun j ⟨hj, hn⟩ _ hwS => ?_)
  · refine Go.VG.Sub.mk rfl ?_ ?_ ?_ ?_ <;> (repeat' first | trivial | rfl | exact eqS _ _ | apply andI | apply eqA | apply eqB | apply eqC | apply eqD | apply eqE | apply eqF | apply eqG | apply eqH | apply eqI)
    rw [ahead_eq, e1, wi64]; omega
  cases j with
  | zero =>
    rw [List.drop_zero] at hn
    rw [if_pos hn]
    repeat' ((conv => whnf); first | with_reducible (first | refine go1 (fun j q h => ?_) fun h => ?_ | refine go2 ⟨rfl, rfl⟩ (fun h => ?_) fun j h => ?_ | refine go2 ?_ (fun h => ?_) fun j h => ?_ | refine goQ ?_ (fun h => ?_) fun h => ?_) | apply go3 | apply go4 | apply go5 | ((first | apply go6 | apply go7 | apply go8 | apply go9 | apply goA) <;> intro h) | with_reducible (first | refine IdxK.mk _ rfl ?_ | refine call_ite (fun h => ?_) fun h => ?_ | refine goB ?_ fun hc => ?_ | refine goC ?_ fun hc => ?_ | refine goD ?_ fun hc => ?_ | refine goE ?_ fun hc => ?_ | apply goF | apply goG | refine goH ?_ fun b hb => ?_) | apply goI | apply goJ | apply goK | apply goL | apply goM | apply goN | apply goO | with_reducible refine goP ?_)
    all_goals try conv => whnf
    all_goals try (refine Side.mk ?_; try dsimp only)
    refine EndP.mk [] ?_ <;> (repeat' first | trivial | rfl | exact eqS _ _ | apply andI | apply eqA | apply eqB | apply eqC | apply eqD | apply eqE | apply eqF | apply eqG | apply eqH | apply eqI)
  | succ m =>
    have hnum := wfL_iff.1 hwS.2.1.2 (ePf (L.getD m default)) (List.mem_map.2 ⟨L.getD m default, by rw [List.getD_eq_getElem?_getD, List.getElem?_eq_getElem (show m < L.length by omega)]; exact List.getElem_mem _, rfl⟩)
    have hnum : 0 ≤ (L.getD m default).num := hnum.2.2.1.1
    have htx := htx (L.getD m default) (by rw [List.getD_eq_getElem?_getD, List.getElem?_eq_getElem (show m < L.length by omega)]; exact List.getElem_mem _)
    have hsel := fun h => hsel (j := m) (by omega) h hn
    have hsd := hsd (j := m) (by omega)
    rw [hn, List.append_nil] at hsd
    have hin := inT7 (L.getD m default)
    rw [show ahead (m + 1) = (m : Int) from rfl]
    have hE : kdF (L.getD m default) ≠ 0 → selF (inT T7) L ≠ [] ∧ lastF (selF (inT T7) L) = L.getD m default := fun q => hsel (hin.2 q)
    have hz : kdF (L.getD m default) = 0 → selF (inT T7) (L.drop m) = [] := fun q => by
      rw [hsd, if_neg]
      intro q2
      exact hin.1 q2 q
    clear hsel hsd hin
    have hH2 : kdF (L.getD m default) ≠ 0 → kdF (L.getD m default) = 6 ∨ kdF (L.getD m default) = 7 := fun q => by have h := hH; rw [(hE q).2] at h; exact h
    repeat' ((conv => whnf); first | with_reducible (first | refine go1 (fun j q h => ?_) fun h => ?_ | refine go2 ⟨rfl, rfl⟩ (fun h => ?_) fun j h => ?_ | refine go2 ?_ (fun h => ?_) fun j h => ?_ | refine goQ ?_ (fun h => ?_) fun h => ?_) | apply go3 | apply go4 | apply go5 | ((first | apply go6 | apply go7 | apply go8 | apply go9 | apply goA) <;> intro h) | with_reducible (first | refine IdxK.mk _ rfl ?_ | refine call_ite (fun h => ?_) fun h => ?_ | refine goB ?_ fun hc => ?_ | refine goC ?_ fun hc => ?_ | refine goD ?_ fun hc => ?_ | refine goE ?_ fun hc => ?_ | apply goF | apply goG | refine goH ?_ fun b hb => ?_) | apply goI | apply goJ | apply goK | apply goL | apply goM | apply goN | apply goO | with_reducible refine goP ?_)
    all_goals try conv => whnf
    all_goals try (refine Side.mk ?_; try dsimp only)
    all_goals (try simp only [Cu_eta, Pf_eta] at *)
    all_goals first | refine stay ?_ | trivial | omega | (simp (discharger := omega) only [wR]; omega) | (simp only [lnS]; omega) | (simp (discharger := omega) [-List.getD_eq_getElem?_getD, wR] <;> omega) | skip
    all_goals (try generalize L.getD m default = f at *)
    all_goals try (exfalso; omega)
    all_goals try
      (refine ⟨[], m, ⟨by omega, hz (by assumption)⟩, ?_, by omega⟩
       refine Go.VG.Sub.mk rfl ?_ ?_ ?_ ?_ <;> (repeat' first | trivial | rfl | exact eqS _ _ | apply andI | apply eqA | apply eqB | apply eqC | apply eqD | apply eqE | apply eqF | apply eqG | apply eqH | apply eqI)
       all_goals (rw [ahead_eq, wi64]; omega)
       done)
    all_goals rw [if_neg (hE (by assumption)).1, (hE (by assumption)).2]
    · rw [if_pos (by assumption), show g6 f.text = hlF g6 g7 (kdF f) f.text from (if_pos (by assumption)).symm]
      refine EndP.mk [] ?_ <;> (repeat' first | trivial | rfl | exact eqS _ _ | apply andI | apply eqA | apply eqB | apply eqC | apply eqD | apply eqE | apply eqF | apply eqG | apply eqH | apply eqI)
    · rw [if_neg (by assumption), if_pos (by assumption), show g7 f.text = hlF g6 g7 (kdF f) f.text from (if_neg (by assumption)).symm]
      refine EndP.mk [] ?_ <;> (repeat' first | trivial | rfl | exact eqS _ _ | apply andI | apply eqA | apply eqB | apply eqC | apply eqD | apply eqE | apply eqF | apply eqG | apply eqH | apply eqI)
    · rw [if_pos (by assumption), show g6 f.text = hlF g6 g7 (kdF f) f.text from (if_pos (by assumption)).symm]
      refine EndP.mk [] ?_ <;> (repeat' first | trivial | rfl | exact eqS _ _ | apply andI | apply eqA | apply eqB | apply eqC | apply eqD | apply eqE | apply eqF | apply eqG | apply eqH | apply eqI)
    · rw [if_neg (by assumption), if_pos (by assumption), show g7 f.text = hlF g6 g7 (kdF f) f.text from (if_neg (by assumption)).symm]
      refine EndP.mk [] ?_ <;> (repeat' first | trivial | rfl | exact eqS _ _ | apply andI | apply eqA | apply eqB | apply eqC | apply eqD | apply eqE | apply eqF | apply eqG | apply eqH | apply eqI)
theorem f_orReadN (g6 g7 : RV) (s : List UInt8) (d : Int) (hs : s.length ≤ 9000) (h0 : aFine s ≠ 0) : OK 6 [.str s, .int .i64 d] [] (rX (rdB g6 g7 s)) none := by
  refine funOK_of_vc (C := cx [(19, sm_r17All)]) (good ⟨k_r17All, trivial⟩) (fn := Tryd.f6) rfl rfl rfl rfl fun hw _ => ?_
  rw [show rdB g6 g7 s = (aFine s, vz) from if_pos h0]
  repeat' ((conv => whnf); first | with_reducible (first | refine go1 (fun j q h => ?_) fun h => ?_ | refine go2 ⟨rfl, rfl⟩ (fun h => ?_) fun j h => ?_ | refine go2 ?_ (fun h => ?_) fun j h => ?_ | refine goQ ?_ (fun h => ?_) fun h => ?_) | apply go3 | apply go4 | apply go5 | ((first | apply go6 | apply go7 | apply go8 | apply go9 | apply goA) <;> intro h) | with_reducible (first | refine IdxK.mk _ rfl ?_ | refine call_ite (fun h => ?_) fun h => ?_ | refine goB ?_ fun hc => ?_ | refine goC ?_ fun hc => ?_ | refine goD ?_ fun hc => ?_ | refine goE ?_ fun hc => ?_ | apply goF | apply goG | refine goH ?_ fun b hb => ?_) | apply goI | apply goJ | apply goK | apply goL | apply goM | apply goN | apply goO | with_reducible refine goP ?_)
  all_goals try conv => whnf
  all_goals try (refine Side.mk ?_; try dsimp only)
  · omega
  · exact absurd (by assumption) h0
  · refine EndP.mk [] ?_ <;> (repeat' first | trivial | rfl | exact eqS _ _ | apply andI | apply eqA | apply eqB | apply eqC | apply eqD | apply eqE | apply eqF | apply eqG | apply eqH | apply eqI)
theorem or_vac (v : RV) : SOK 6 (sm_orR v 1000) := by
  intro args sg pre x r he hp
  unfold sm_orR at he
  split at he <;> cases he
  obtain ⟨_, h1, h2, h3⟩ := hp
  omega
theorem f_orRead (v : RV) (K : Nat) (hv : SOK 6 (sm_orR v K)) (g6 g7 : RV) (s : List UInt8) (d : Int) (hs : s.length ≤ 9000) (hp : RdOk v K g6 g7 d) (h6 : ∀ t, shV (g6 t).2) (h7 : ∀ t, shV (g7 t).2) : OK 6 [.str s, .int .i64 d] [] (.tuple [ev (rdB g6 g7 s).2, .int .i64 (rdB g6 g7 s).1]) none := by
  have hw := rX_wk (shV_B h6 h7 s)
  by_cases h : aFine s = 0
  · by_cases hE : selF (inT T7) (aFds s) ≠ []
    · by_cases hH : kdF (lastF (selF (inT T7) (aFds s))) = 6 ∨ kdF (lastF (selF (inT T7) (aFds s))) = 7
      · exact f_orReadH v K hv g6 g7 s d hs hp h6 h7 h hE hH
      · exact (f_orReadO v K hv g6 g7 s d hs hp h6 h7 h fun _ => by omega).res hw
    · exact (f_orReadO v K hv g6 g7 s d hs hp h6 h7 h fun q => absurd q hE).res hw
  · exact (f_orReadN g6 g7 s d hs h).res hw
-- #name orR truchmanref35.Read
theorem k_orR : ∀ k, SOK 6 (sm_orR (rdV k) k)
  | 0 => by
    intro args sg pre x r he hp
    unfold sm_orR at he
    split at he <;> cases he
    rename_i s d
    obtain ⟨h1, h2, h3, h4⟩ := hp
    exact f_orRead (fun _ => (0, vz)) 1000 (or_vac _) _ _ s d h1 ⟨h2, h3, fun _ _ => ⟨rfl, rfl⟩, fun q => by omega⟩ (fun _ => shV_z) (fun _ => shV_z)
  | k + 1 => by
    intro args sg pre x r he hp
    unfold sm_orR at he
    split at he <;> cases he
    rename_i s d
    obtain ⟨h1, h2, h3, h4⟩ := hp
    exact f_orRead (rdV k) k (k_orR k) _ _ s d h1 ⟨h2, h3, fun q => by omega, fun _ => ⟨fun _ => ⟨rfl, rfl⟩, h4⟩⟩ (fun _ => shV_ls _) (fun _ => shV_mp _)
end Go.Proofs.YtkkfdkfopdjomaaDoor
