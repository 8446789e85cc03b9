/-
  A writer of structs: its words.
-/
import Derived.Test.YtcgjkjabcdeagaaDoorCWp
set_option linter.unusedSimpArgs false
set_option linter.unusedVariables false
set_option maxHeartbeats 4000000
namespace Go.Proofs.YtcgjkjabcdeagaaDoor
open Go Go.VG
set_option maxRecDepth 100000
theorem pfield_len {last id : Int} {k : UInt8} : (pfield last id k).length ≤ 11 := by
  unfold pfield
  split
  · simp
  · split
    · simp
    · rename_i h1 _
      have := vput_len (u := zigN id) (by have := zigN_lt (n := id) (by omega); omega)
      simp; omega
theorem plist_len {n : Int} {k : UInt8} : (plist n k).length ≤ 11 := by
  unfold plist
  split
  · simp
  · split
    · simp
    · rename_i h1 _
      have := vput_len (u := n.toNat) (by omega)
      simp; omega
theorem may_len (w : CS) (id k : Int) : (w.may id k).1.out.length ≤ w.out.length + 11 ∧ (w.may id k).1.l.length = w.l.length := by
  have := @pfield_len w.top.last id (byte k)
  unfold CS.may CS.setTop
  repeat' split
  all_goals (constructor <;> simp)
  all_goals omega
theorem may_pos {w : CS} {id k : Int} (h : (w.may id k).2 = true) : (w.may id k).1.code = 0 ∧ ¬ (w.may id k).1.l.length = 0 ∧ w.code = 0 := by
  rw [(may_len w id k).2]
  revert h
  unfold CS.may CS.setTop
  repeat' split
  all_goals simp_all
theorem f_cwBegin_1 (w : CS) (p : Pl) (hp : w.out.length ≤ 1900000000 ∧ w.l.length ≤ 900) : OK 37 ([.ptr 0 0, eP p]) (eCw w) (.tuple []) (some (eCw (w.begin p))) := by
  refine funOK_of_vc (C := cx []) (good trivial) (fn := Tryd.f37) rfl rfl rfl rfl fun hw hs => ?_
  have e1 : (w.l.map eP).length = w.l.length := by simp
  repeat' ((conv => whnf); first | with_reducible (first | refine go1 (fun j q h => ?_) fun h => ?_ | refine go2 ⟨rfl, rfl⟩ (fun h => ?_) fun j h => ?_ | refine go2 ?_ (fun h => ?_) fun j h => ?_ | refine goQ ?_ (fun h => ?_) fun h => ?_) | apply go3 | apply go4 | apply go5 | ((first | apply go6 | apply go7 | apply go8 | apply go9 | apply goA) <;> intro h) | with_reducible (first | refine IdxK.mk _ rfl ?_ | refine call_ite (fun h => ?_) fun h => ?_ | refine idx_topC ?_ ?_ | refine goB ?_ fun hc => ?_ | refine goC ?_ fun hc => ?_ | refine goD ?_ fun hc => ?_ | refine goE ?_ fun hc => ?_ | apply goF | apply goG | refine goH ?_ fun b hb => ?_) | apply goI | apply goJ | apply goK | apply goL | apply goM | apply goN | apply goO | with_reducible refine goP ?_)
  all_goals try conv => whnf
  all_goals try (refine Side.mk ?_; try dsimp only)
  all_goals first | refine stay ?_ | trivial | omega | (simp (discharger := omega) only [wR]; omega) | (simp only [lnS]; omega) | (simp (discharger := omega) [-List.getD_eq_getElem?_getD, wR] <;> omega) | skip
  all_goals first
    | (show EndP _ _ _ _ _ _
       refine EndP.mk [.swap 2 4] ?_ <;> (repeat' first | trivial | rfl | exact eqS _ _ | apply andI | apply eqA | apply eqB | apply eqC | apply eqD | apply eqE | apply eqF | apply eqG | apply eqH | apply eqI)
       all_goals simp [CS.begin])
    | skip
def sm_cwBegin : Sm := fun args σ => match args, σ with
  | [.ptr 0 0, .agg [.bool b_p, .int .i64 m_p, .int .i64 n_p, .int .u8 k_p]], [.cells [.buf 1, .buf 2, .int .i64 c_w], .buf 1 0 o_w, .buf 4 0 l_w] => some (True ∧ (okC o_w l_w ∧ ((deC o_w l_w c_w).out.length ≤ 1900000000 ∧ (deC o_w l_w c_w).l.length ≤ 900)), .tuple [], some (eCw ((deC o_w l_w c_w).begin (Pl.mk b_p m_p n_p k_p))))
  | _, _ => none
theorem k_cwBegin : SOK 37 sm_cwBegin := by
  intro args sg pre x r he hp
  unfold sm_cwBegin at he
  split at he <;> cases he
  · rw [viewP (hp).1]; rw [viewCw (hp.2).1]; exact f_cwBegin_1 (hp := hp.2.2) ..
theorem f_cwFlag_1 (w : CS) (id : Int) (b : Bool) (hp : w.out.length ≤ 1800000000 ∧ w.l.length ≤ 900) : OK 17 ([.ptr 0 0, .int .i64 id, .bool b]) (eCw w) (.tuple []) (some (eCw (w.flag id b))) := by
  refine funOK_of_vc (C := cx [(36, sm_cwMay), (42, sm_cwTop)]) (good ⟨k_cwMay, k_cwTop, trivial⟩) (fn := Tryd.f17) rfl rfl rfl rfl fun hw hs => ?_
  have e1 : (w.l.map eP).length = w.l.length := by simp
  have m1 := may_len w id 1
  have m2 := may_len w id 2
  repeat' ((conv => whnf); first | with_reducible (first | refine go1 (fun j q h => ?_) fun h => ?_ | refine go2 ⟨rfl, rfl⟩ (fun h => ?_) fun j h => ?_ | refine go2 ?_ (fun h => ?_) fun j h => ?_ | refine goQ ?_ (fun h => ?_) fun h => ?_) | apply go3 | apply go4 | apply go5 | ((first | apply go6 | apply go7 | apply go8 | apply go9 | apply goA) <;> intro h) | with_reducible (first | refine IdxK.mk _ rfl ?_ | refine call_ite (fun h => ?_) fun h => ?_ | refine idx_topC ?_ ?_ | refine goB ?_ fun hc => ?_ | refine goC ?_ fun hc => ?_ | refine goD ?_ fun hc => ?_ | refine goE ?_ fun hc => ?_ | apply goF | apply goG | refine goH ?_ fun b hb => ?_) | apply goI | apply goJ | apply goK | apply goL | apply goM | apply goN | apply goO | with_reducible refine goP ?_)
  all_goals try conv => whnf
  all_goals try (refine Side.mk ?_; try dsimp only)
  all_goals first | refine stay ?_ | trivial | omega | (simp (discharger := omega) only [wR]; omega) | (simp only [lnS]; omega) | (simp (discharger := omega) [-List.getD_eq_getElem?_getD, wR] <;> omega) | skip
  all_goals (try simp only [deC_e, bl_length, cond_true, Int.toNat_natCast, List.length_append, List.length_map, List.length_singleton] at *)
  all_goals first
    | (show EndP _ _ _ _ _ _
       skip)
    | exact ⟨okC_e (by omega) (by omega), trivial⟩
    | exact ⟨okC_e (by omega) (by omega), by omega, by omega⟩
    | exact ⟨okC_e (by omega) (by omega), by omega⟩
    | omega
    | exact ⟨by omega, by omega⟩
    | exact (may_pos (by assumption)).2.1 (by assumption)
    | (have := (may_pos (by assumption)).2.1; omega)
    | skip
  all_goals
    show EndP _ _ _ _ _ _
    unfold CS.flag
    repeat (first | rw [if_pos (by first | assumption | omega)] | rw [if_neg (by first | assumption | omega | exact li_f (by assumption))])
  all_goals
    show EndP _ _ _ _ _ _
    unfold CS.flagK
    repeat (first | rw [if_pos (by first | assumption | omega)] | rw [if_neg (by first | assumption | omega | exact li_f (by assumption))])
  all_goals
    refine EndP.mk [] ?_ <;> (repeat' first | trivial | rfl | exact eqS _ _ | apply andI | apply eqA | apply eqB | apply eqC | apply eqD | apply eqE | apply eqF | apply eqG | apply eqH | apply eqI)
  all_goals (first | rfl | simp [bl_append, bl, bv, byte])
def sm_cwFlag : Sm := fun args σ => match args, σ with
  | [.ptr 0 0, .int .i64 id, .bool b], [.cells [.buf 1, .buf 2, .int .i64 c_w], .buf 1 0 o_w, .buf 4 0 l_w] => some (okC o_w l_w ∧ ((deC o_w l_w c_w).out.length ≤ 1800000000 ∧ (deC o_w l_w c_w).l.length ≤ 900), .tuple [], some (eCw ((deC o_w l_w c_w).flag id b)))
  | _, _ => none
theorem k_cwFlag : SOK 17 sm_cwFlag := by
  intro args sg pre x r he hp
  unfold sm_cwFlag at he
  split at he <;> cases he
  · rw [viewCw (hp).1]; exact f_cwFlag_1 (hp := hp.2) ..
theorem f_cwDouble_1 (id b : Int) (hp : True) : OK 15 ([.nilptr, .int .i64 id, .int .u64 b]) ([]) (.tuple []) (none) := by
  refine funOK_of_vc (C := cx [(36, sm_cwMay), (41, sm_wLow64)]) (good ⟨k_cwMay, k_wLow64, trivial⟩) (fn := Tryd.f15) rfl rfl rfl rfl fun hw hs => ?_
  repeat' ((conv => whnf); first | with_reducible (first | refine go1 (fun j q h => ?_) fun h => ?_ | refine go2 ⟨rfl, rfl⟩ (fun h => ?_) fun j h => ?_ | refine go2 ?_ (fun h => ?_) fun j h => ?_ | refine goQ ?_ (fun h => ?_) fun h => ?_) | apply go3 | apply go4 | apply go5 | ((first | apply go6 | apply go7 | apply go8 | apply go9 | apply goA) <;> intro h) | with_reducible (first | refine IdxK.mk _ rfl ?_ | refine call_ite (fun h => ?_) fun h => ?_ | refine idx_topC ?_ ?_ | refine goB ?_ fun hc => ?_ | refine goC ?_ fun hc => ?_ | refine goD ?_ fun hc => ?_ | refine goE ?_ fun hc => ?_ | apply goF | apply goG | refine goH ?_ fun b hb => ?_) | apply goI | apply goJ | apply goK | apply goL | apply goM | apply goN | apply goO | with_reducible refine goP ?_)
  all_goals try conv => whnf
  all_goals try (refine Side.mk ?_; try dsimp only)
  all_goals first | refine stay ?_ | trivial | omega | (simp (discharger := omega) only [wR]; omega) | (simp only [lnS]; omega) | (simp (discharger := omega) [-List.getD_eq_getElem?_getD, wR] <;> omega) | skip
  refine EndP.mk [] ?_ <;> (repeat' first | trivial | rfl | exact eqS _ _ | apply andI | apply eqA | apply eqB | apply eqC | apply eqD | apply eqE | apply eqF | apply eqG | apply eqH | apply eqI)
theorem f_cwDouble_2 (w : CS) (id b : Int) (hp : w.out.length ≤ 1800000000 ∧ w.l.length ≤ 900) : OK 15 ([.ptr 0 0, .int .i64 id, .int .u64 b]) (eCw w) (.tuple []) (some (eCw (w.put id 7 (low 8 b.toNat)))) := by
  refine funOK_of_vc (C := cx [(36, sm_cwMay), (41, sm_wLow64)]) (good ⟨k_cwMay, k_wLow64, trivial⟩) (fn := Tryd.f15) rfl rfl rfl rfl fun hw hs => ?_
  have e1 : (w.l.map eP).length = w.l.length := by simp
  have m1 := may_len w id 7
  have hb : 0 ≤ b ∧ b ≤ 18446744073709551615 := hw.2.2.1
  repeat' ((conv => whnf); first | with_reducible (first | refine go1 (fun j q h => ?_) fun h => ?_ | refine go2 ⟨rfl, rfl⟩ (fun h => ?_) fun j h => ?_ | refine go2 ?_ (fun h => ?_) fun j h => ?_ | refine goQ ?_ (fun h => ?_) fun h => ?_) | apply go3 | apply go4 | apply go5 | ((first | apply go6 | apply go7 | apply go8 | apply go9 | apply goA) <;> intro h) | with_reducible (first | refine IdxK.mk _ rfl ?_ | refine call_ite (fun h => ?_) fun h => ?_ | refine idx_topC ?_ ?_ | refine goB ?_ fun hc => ?_ | refine goC ?_ fun hc => ?_ | refine goD ?_ fun hc => ?_ | refine goE ?_ fun hc => ?_ | apply goF | apply goG | refine goH ?_ fun b hb => ?_) | apply goI | apply goJ | apply goK | apply goL | apply goM | apply goN | apply goO | with_reducible refine goP ?_)
  all_goals try conv => whnf
  all_goals try (refine Side.mk ?_; try dsimp only)
  all_goals first | refine stay ?_ | trivial | omega | (simp (discharger := omega) only [wR]; omega) | (simp only [lnS]; omega) | (simp (discharger := omega) [-List.getD_eq_getElem?_getD, wR] <;> omega) | skip
  all_goals (try simp only [deC_e, bl_length, cond_true, Int.toNat_natCast, List.length_append, List.length_map, List.length_singleton] at *)
  all_goals first
    | (show EndP _ _ _ _ _ _
       skip)
    | exact ⟨okC_e (by omega) (by omega), trivial⟩
    | exact ⟨okC_e (by omega) (by omega), by omega, by omega⟩
    | exact ⟨okC_e (by omega) (by omega), by omega⟩
    | omega
    | exact ⟨by omega, by omega⟩
    | exact (may_pos (by assumption)).2.1 (by assumption)
    | (have := (may_pos (by assumption)).2.1; omega)
    | skip
  all_goals
    show EndP _ _ _ _ _ _
    unfold CS.put
    repeat (first | rw [if_pos (by first | assumption | omega)] | rw [if_neg (by first | assumption | omega | exact li_f (by assumption))])
  all_goals first
    | (refine EndP.mk [] ?_ <;> (repeat' first | trivial | rfl | exact eqS _ _ | apply andI | apply eqA | apply eqB | apply eqC | apply eqD | apply eqE | apply eqF | apply eqG | apply eqH | apply eqI)
       all_goals (first | rfl | simp [bl_append]; done))
    | (refine EndP.mk [.swap 1 3] ?_ <;> (repeat' first | trivial | rfl | exact eqS _ _ | apply andI | apply eqA | apply eqB | apply eqC | apply eqD | apply eqE | apply eqF | apply eqG | apply eqH | apply eqI)
       all_goals (first | rfl | simp [bl_append]))
def sm_cwDouble : Sm := fun args σ => match args, σ with
  | [.nilptr, .int .i64 id, .int .u64 b], [] => some (True, .tuple [], none)
  | [.ptr 0 0, .int .i64 id, .int .u64 b], [.cells [.buf 1, .buf 2, .int .i64 c_w], .buf 1 0 o_w, .buf 4 0 l_w] => some (okC o_w l_w ∧ ((deC o_w l_w c_w).out.length ≤ 1800000000 ∧ (deC o_w l_w c_w).l.length ≤ 900), .tuple [], some (eCw ((deC o_w l_w c_w).put id 7 (low 8 b.toNat))))
  | _, _ => none
theorem k_cwDouble : SOK 15 sm_cwDouble := by
  intro args sg pre x r he hp
  unfold sm_cwDouble at he
  split at he <;> cases he
  · exact f_cwDouble_1 (hp := hp) ..
  · rw [viewCw (hp).1]; exact f_cwDouble_2 (hp := hp.2) ..
theorem f_cwText_1 (w : CS) (id : Int) (s : List UInt8) (hp : (w.out.length ≤ 1800000000 ∧ w.l.length ≤ 900) ∧ s.length ≤ 90000000) : OK 16 ([.ptr 0 0, .int .i64 id, .str s]) (eCw w) (.tuple []) (some (eCw (w.put id 8 (vput s.length ++ s)))) := by
  refine funOK_of_vc (C := cx [(36, sm_cwMay), (39, sm_vPut)]) (good ⟨k_cwMay, k_vPut, trivial⟩) (fn := Tryd.f16) rfl rfl rfl rfl fun hw hs => ?_
  have e1 : (w.l.map eP).length = w.l.length := by simp
  have m1 := may_len w id 8
  have hu : IntKind.u64.wrap s.length = s.length := by (first | omega | (simp (discharger := omega) only [wR]; omega) | (simp only [lnS]; omega) | (simp (discharger := omega) [-List.getD_eq_getElem?_getD, wR] <;> omega))
  have hv := vput_len (u := s.length) (by omega)
  repeat' ((conv => whnf); first | with_reducible (first | refine go1 (fun j q h => ?_) fun h => ?_ | refine go2 ⟨rfl, rfl⟩ (fun h => ?_) fun j h => ?_ | refine go2 ?_ (fun h => ?_) fun j h => ?_ | refine goQ ?_ (fun h => ?_) fun h => ?_) | apply go3 | apply go4 | apply go5 | ((first | apply go6 | apply go7 | apply go8 | apply go9 | apply goA) <;> intro h) | with_reducible (first | refine IdxK.mk _ rfl ?_ | refine call_ite (fun h => ?_) fun h => ?_ | refine idx_topC ?_ ?_ | refine goB ?_ fun hc => ?_ | refine goC ?_ fun hc => ?_ | refine goD ?_ fun hc => ?_ | refine goE ?_ fun hc => ?_ | apply goF | apply goG | refine goH ?_ fun b hb => ?_) | apply goI | apply goJ | apply goK | apply goL | apply goM | apply goN | apply goO | with_reducible refine goP ?_)
  all_goals try conv => whnf
  all_goals try (refine Side.mk ?_; try dsimp only)
  all_goals (try simp only [hu] at *)
  all_goals first | refine stay ?_ | trivial | omega | (simp (discharger := omega) only [wR]; omega) | (simp only [lnS]; omega) | (simp (discharger := omega) [-List.getD_eq_getElem?_getD, wR] <;> omega) | skip
  all_goals (try simp only [deC_e, bl_length, cond_true, Int.toNat_natCast, List.length_append, List.length_map, List.length_singleton] at *)
  all_goals first
    | (show EndP _ _ _ _ _ _
       skip)
    | exact ⟨okC_e (by omega) (by omega), trivial⟩
    | exact ⟨okC_e (by omega) (by omega), by omega, by omega⟩
    | exact ⟨okC_e (by omega) (by omega), by omega⟩
    | omega
    | exact ⟨by omega, by omega⟩
    | exact (may_pos (by assumption)).2.1 (by assumption)
    | (have := (may_pos (by assumption)).2.1; omega)
    | skip
  all_goals
    show EndP _ _ _ _ _ _
    unfold CS.put
    repeat (first | rw [if_pos (by first | assumption | omega)] | rw [if_neg (by first | assumption | omega | exact li_f (by assumption))])
  all_goals first
    | (refine EndP.mk [] ?_ <;> (repeat' first | trivial | rfl | exact eqS _ _ | apply andI | apply eqA | apply eqB | apply eqC | apply eqD | apply eqE | apply eqF | apply eqG | apply eqH | apply eqI)
       all_goals (first | rfl | simp [bl_append]; done))
    | (refine EndP.mk [.swap 1 3] ?_ <;> (repeat' first | trivial | rfl | exact eqS _ _ | apply andI | apply eqA | apply eqB | apply eqC | apply eqD | apply eqE | apply eqF | apply eqG | apply eqH | apply eqI)
       all_goals (first | rfl | simp [bl_append]))
def sm_cwText : Sm := fun args σ => match args, σ with
  | [.ptr 0 0, .int .i64 id, .str s], [.cells [.buf 1, .buf 2, .int .i64 c_w], .buf 1 0 o_w, .buf 4 0 l_w] => some (okC o_w l_w ∧ (((deC o_w l_w c_w).out.length ≤ 1800000000 ∧ (deC o_w l_w c_w).l.length ≤ 900) ∧ s.length ≤ 90000000), .tuple [], some (eCw ((deC o_w l_w c_w).put id 8 (vput s.length ++ s))))
  | _, _ => none
theorem k_cwText : SOK 16 sm_cwText := by
  intro args sg pre x r he hp
  unfold sm_cwText at he
  split at he <;> cases he
  · rw [viewCw (hp).1]; exact f_cwText_1 (hp := hp.2) ..
end Go.Proofs.YtcgjkjabcdeagaaDoor
