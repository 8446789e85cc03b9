/-
  A writer of structs is told a script: the law.
-/
import Derived.Test.YtcgjkjabcdeagaaDoorCWu
set_option linter.unusedSimpArgs false
set_option linter.unusedVariables false
set_option maxHeartbeats 4000000
namespace Go.Proofs.YtcgjkjabcdeagaaDoor
open Go Go.VG
set_option maxRecDepth 100000
theorem okC_lit (o : List UInt8) (l : List Pl) (h : o.length ≤ 1800000000 ∧ l.length ≤ 800) : okC (bl o) (l.map eP) := okC_e (by omega) (by omega)
theorem x1 : CS.struct ⟨[], [], 0⟩ 0 = ⟨[], [⟨false, 0, 0, 0⟩], 0⟩ := rfl
theorem x2 : CS.whole ⟨[], [⟨false, 0, 0, 0⟩], 0⟩ 1 6 5 = ⟨[0x16, 0x0a], [⟨false, 1, 0, 0⟩], 0⟩ := rfl
theorem x3 : CS.list ⟨[0x16, 0x0a], [⟨false, 1, 0, 0⟩], 0⟩ 2 1 1 = ⟨[0x16, 0x0a, 0x19, 0x11], [⟨false, 2, 0, 0⟩, ⟨true, 0, 1, 1⟩], 0⟩ := rfl
theorem x4 : CS.flag ⟨[0x16, 0x0a, 0x19, 0x11], [⟨false, 2, 0, 0⟩, ⟨true, 0, 1, 1⟩], 0⟩ 0 true = ⟨[0x16, 0x0a, 0x19, 0x11, 1], [⟨false, 2, 0, 0⟩, ⟨true, 0, 0, 1⟩], 0⟩ := rfl
theorem x5 : CS.fin ⟨[0x16, 0x0a, 0x19, 0x11, 1], [⟨false, 2, 0, 0⟩, ⟨true, 0, 0, 1⟩], 0⟩ = ⟨[0x16, 0x0a, 0x19, 0x11, 1], [⟨false, 2, 0, 0⟩], 0⟩ := rfl
theorem x6 : CS.done ⟨[0x16, 0x0a, 0x19, 0x11, 1], [⟨false, 2, 0, 0⟩], 0⟩ = ([], 1) := rfl
theorem x7 : CS.fin ⟨[0x16, 0x0a, 0x19, 0x11, 1], [⟨false, 2, 0, 0⟩], 0⟩ = ⟨[0x16, 0x0a, 0x19, 0x11, 1, 0], [], 0⟩ := rfl
theorem x8 : CS.done ⟨[0x16, 0x0a, 0x19, 0x11, 1, 0], [], 0⟩ = ([0x16, 0x0a, 0x19, 0x11, 1, 0], 0) := rfl
theorem x9 : CS.put ⟨[0x16, 0x0a, 0x19, 0x11, 1, 0], [], 0⟩ 1 8 (vput 1 ++ [97]) = ⟨[0x16, 0x0a, 0x19, 0x11, 1, 0], [], 12⟩ := rfl
theorem x10 : CS.done ⟨[0x16, 0x0a, 0x19, 0x11, 1, 0], [], 12⟩ = ([], 12) := rfl
theorem x9' : CS.put ⟨[0x16, 0x0a, 0x19, 0x11, 1, 0], [], 0⟩ 1 8 (vput [(97 : UInt8)].length ++ [97]) = ⟨[0x16, 0x0a, 0x19, 0x11, 1, 0], [], 12⟩ := rfl
theorem f_cwWorks_1  (hp : True) : OK 6 ([]) ([]) (.bool true) (none) := by
  refine funOK_of_vc (C := cx [(7, sm_cwNew), (13, sm_cwStruct), (14, sm_cwWhole), (19, sm_cwList), (17, sm_cwFlag), (18, sm_cwEnd), (10, sm_cwDone), (16, sm_cwText), (15, sm_cwDouble)]) (good ⟨k_cwNew, k_cwStruct, k_cwWhole, k_cwList, k_cwFlag, k_cwEnd, k_cwDone, k_cwText, k_cwDouble, trivial⟩) (fn := Tryd.f6) rfl rfl rfl rfl fun hw hs => ?_
  conv => whnf
  refine go3 ⟨?_⟩ ?_
  · first
    | trivial
    | exact ⟨okC_lit _ _ (by decide), by rw [deC_lit]; decide⟩
    | exact ⟨okC_lit _ _ (by decide), trivial⟩
    | exact ⟨okC_lit _ _ (by decide), by rw [deC_lit]; decide, by decide⟩
  simp only [CS.new, deC_lit, x1, x2, x3, x4, x5, x6, x7, x8, x9, x9', x10]
  conv => whnf
  refine go3 ⟨?_⟩ ?_
  · first
    | trivial
    | exact ⟨okC_lit _ _ (by decide), by rw [deC_lit]; decide⟩
    | exact ⟨okC_lit _ _ (by decide), trivial⟩
    | exact ⟨okC_lit _ _ (by decide), by rw [deC_lit]; decide, by decide⟩
  simp only [CS.new, deC_lit, x1, x2, x3, x4, x5, x6, x7, x8, x9, x9', x10]
  conv => whnf
  refine go3 ⟨?_⟩ ?_
  · first
    | trivial
    | exact ⟨okC_lit _ _ (by decide), by rw [deC_lit]; decide⟩
    | exact ⟨okC_lit _ _ (by decide), trivial⟩
    | exact ⟨okC_lit _ _ (by decide), by rw [deC_lit]; decide, by decide⟩
  simp only [CS.new, deC_lit, x1, x2, x3, x4, x5, x6, x7, x8, x9, x9', x10]
  conv => whnf
  refine go3 ⟨?_⟩ ?_
  · first
    | trivial
    | exact ⟨okC_lit _ _ (by decide), by rw [deC_lit]; decide⟩
    | exact ⟨okC_lit _ _ (by decide), trivial⟩
    | exact ⟨okC_lit _ _ (by decide), by rw [deC_lit]; decide, by decide⟩
  simp only [CS.new, deC_lit, x1, x2, x3, x4, x5, x6, x7, x8, x9, x9', x10]
  conv => whnf
  refine go3 ⟨?_⟩ ?_
  · first
    | trivial
    | exact ⟨okC_lit _ _ (by decide), by rw [deC_lit]; decide⟩
    | exact ⟨okC_lit _ _ (by decide), trivial⟩
    | exact ⟨okC_lit _ _ (by decide), by rw [deC_lit]; decide, by decide⟩
  simp only [CS.new, deC_lit, x1, x2, x3, x4, x5, x6, x7, x8, x9, x9', x10]
  conv => whnf
  refine go3 ⟨?_⟩ ?_
  · first
    | trivial
    | exact ⟨okC_lit _ _ (by decide), by rw [deC_lit]; decide⟩
    | exact ⟨okC_lit _ _ (by decide), trivial⟩
    | exact ⟨okC_lit _ _ (by decide), by rw [deC_lit]; decide, by decide⟩
  simp only [CS.new, deC_lit, x1, x2, x3, x4, x5, x6, x7, x8, x9, x9', x10]
  conv => whnf
  refine go3 ⟨?_⟩ ?_
  · first
    | trivial
    | exact ⟨okC_lit _ _ (by decide), by rw [deC_lit]; decide⟩
    | exact ⟨okC_lit _ _ (by decide), trivial⟩
    | exact ⟨okC_lit _ _ (by decide), by rw [deC_lit]; decide, by decide⟩
  simp only [CS.new, deC_lit, x1, x2, x3, x4, x5, x6, x7, x8, x9, x9', x10]
  conv => whnf
  refine go3 ⟨?_⟩ ?_
  · first
    | trivial
    | exact ⟨okC_lit _ _ (by decide), by rw [deC_lit]; decide⟩
    | exact ⟨okC_lit _ _ (by decide), trivial⟩
    | exact ⟨okC_lit _ _ (by decide), by rw [deC_lit]; decide, by decide⟩
  simp only [CS.new, deC_lit, x1, x2, x3, x4, x5, x6, x7, x8, x9, x9', x10]
  conv => whnf
  refine go3 ⟨?_⟩ ?_
  · first
    | trivial
    | exact ⟨okC_lit _ _ (by decide), by rw [deC_lit]; decide⟩
    | exact ⟨okC_lit _ _ (by decide), trivial⟩
    | exact ⟨okC_lit _ _ (by decide), by rw [deC_lit]; decide, by decide⟩
  simp only [CS.new, deC_lit, x1, x2, x3, x4, x5, x6, x7, x8, x9, x9', x10]
  conv => whnf
  refine go3 ⟨?_⟩ ?_
  · first
    | trivial
    | exact ⟨okC_lit _ _ (by decide), by rw [deC_lit]; decide⟩
    | exact ⟨okC_lit _ _ (by decide), trivial⟩
    | exact ⟨okC_lit _ _ (by decide), by rw [deC_lit]; decide, by decide⟩
  simp only [CS.new, deC_lit, x1, x2, x3, x4, x5, x6, x7, x8, x9, x9', x10]
  conv => whnf
  refine go3 ⟨?_⟩ ?_
  · first
    | trivial
    | exact ⟨okC_lit _ _ (by decide), by rw [deC_lit]; decide⟩
    | exact ⟨okC_lit _ _ (by decide), trivial⟩
    | exact ⟨okC_lit _ _ (by decide), by rw [deC_lit]; decide, by decide⟩
  simp only [CS.new, deC_lit, x1, x2, x3, x4, x5, x6, x7, x8, x9, x9', x10]
  conv => whnf
  refine go3 ⟨?_⟩ ?_
  · first
    | trivial
    | exact ⟨okC_lit _ _ (by decide), by rw [deC_lit]; decide⟩
    | exact ⟨okC_lit _ _ (by decide), trivial⟩
    | exact ⟨okC_lit _ _ (by decide), by rw [deC_lit]; decide, by decide⟩
  simp only [CS.new, deC_lit, x1, x2, x3, x4, x5, x6, x7, x8, x9, x9', x10]
  conv => whnf
  refine go3 ⟨?_⟩ ?_
  · first
    | trivial
    | exact ⟨okC_lit _ _ (by decide), by rw [deC_lit]; decide⟩
    | exact ⟨okC_lit _ _ (by decide), trivial⟩
    | exact ⟨okC_lit _ _ (by decide), by rw [deC_lit]; decide, by decide⟩
  simp only [CS.new, deC_lit, x1, x2, x3, x4, x5, x6, x7, x8, x9, x9', x10]
  conv => whnf
  refine EndP.mk [] ?_ <;> (repeat' first | trivial | rfl | exact eqS _ _ | apply andI | apply eqA | apply eqB | apply eqC | apply eqD | apply eqE | apply eqF | apply eqG | apply eqH | apply eqI)
def sm_cwWorks : Sm := fun args σ => match args, σ with
  | [], [] => some (True, .bool true, none)
  | _, _ => none
theorem k_cwWorks : SOK 6 sm_cwWorks := by
  intro args sg pre x r he hp
  unfold sm_cwWorks at he
  split at he <;> cases he
  · exact f_cwWorks_1 (hp := hp) ..
/-! the script -/
def six (k : Int) : Prop := k = 123 ∨ k = 91 ∨ k = 101 ∨ k = 102 ∨ k = 110 ∨ k = 100
instance (k : Int) : Decidable (six k) := by unfold six; infer_instance
def normO (o : COp) : COp := if six o.kind then o else ⟨115, o.id, o.n, o.what, o.bits, o.text⟩
def wS (l : List COp) (i : Nat) : CS := (l.take i).foldl (fun s o => s.op (normO o)) .new
theorem take_nextC {α : Type} [Inhabited α] {l : List α} {i : Nat} (h : i < l.length) : l.take (i + 1) = l.take i ++ [l.getD i default] := by
  rw [List.take_add_one, List.getD_eq_getElem?_getD, List.getElem?_eq_getElem h]; rfl
theorem wS_next {l : List COp} {i : Nat} (h : i < l.length) : wS l (i + 1) = (wS l i).op (normO (l.getD i default)) := by
  unfold wS; rw [take_nextC h, List.foldl_append]; rfl
theorem wf_co {l : List COp} (h : V.wfL (l.map eCo)) {i : Nat} (hi : i < l.length) : -9223372036854775808 ≤ (l.getD i default).n ∧ (l.getD i default).n ≤ 9223372036854775807 := by
  have := wfL_iff.1 h (eCo (l.getD i default)) (List.mem_map.2 ⟨l.getD i default, by rw [List.getD_eq_getElem?_getD, List.getElem?_eq_getElem hi]; exact List.getElem_mem hi, rfl⟩)
  exact this.2.2.1
theorem okL_w {L : List Pl} (h : L.length ≤ 900) : okL (L.map eP) ∧ (L.map eP).length ≤ 900 := ⟨okL_map (by omega), by simpa using h⟩
theorem f_cwScript (l : List COp) : OK 3 [.list false 6 (l.map eCo)] [] (.bool true) none := by
  refine funOK_of_vc (C := cx [(6, sm_cwWorks), (7, sm_cwNew), (8, sm_cwDo), (9, sm_r23Do), (10, sm_cwDone), (11, sm_r23Done)]) (good ⟨k_cwWorks, k_cwNew, k_cwDo, k_r23Do, k_cwDone, k_r23Done, trivial⟩) (fn := Tryd.f3) rfl rfl rfl rfl fun hw hs => ?_
  have hwf := fun {i : Nat} => @wf_co l hw.1.2 i
  have e1 : (l.map eCo).length = l.length := by simp
  repeat' ((conv => whnf); first | with_reducible (first | refine go1 (fun j q h => ?_) fun h => ?_ | refine go2 ⟨rfl, rfl⟩ (fun h => ?_) fun j h => ?_ | refine go2 ?_ (fun h => ?_) fun j h => ?_ | refine goQ ?_ (fun h => ?_) fun h => ?_) | apply go3 | apply go4 | apply go5 | ((first | apply go6 | apply go7 | apply go8 | apply go9 | apply goA) <;> intro h) | with_reducible (first | refine IdxK.mk _ rfl ?_ | refine goB ?_ fun hc => ?_ | refine goC ?_ fun hc => ?_ | refine goD ?_ fun hc => ?_ | refine goE ?_ fun hc => ?_ | apply goF | apply goG | refine goH ?_ fun b hb => ?_) | apply goI | apply goJ | apply goK | apply goL | apply goM | apply goN | apply goO | with_reducible refine goP ?_)
  all_goals try conv => whnf
  all_goals try (refine Side.mk ?_; try dsimp only)
  all_goals (try simp only [COp_eta, CS_eta, dC_w] at *)
  all_goals first | refine stay ?_ | trivial | omega | (simp (discharger := omega) only [wR]; omega) | (simp only [lnS]; omega) | (simp (discharger := omega) [-List.getD_eq_getElem?_getD, wR] <;> omega) | skip
  · refine EndP.mk [] ?_ <;> (repeat' first | trivial | rfl | exact eqS _ _ | apply andI | apply eqA | apply eqB | apply eqC | apply eqD | apply eqE | apply eqF | apply eqG | apply eqH | apply eqI)
  refine LoopP.mk Nat (fun i => i ≤ l.length ∧ (wS l i).out.length ≤ i * 300 ∧ (wS l i).l.length ≤ i) (fun i => ⟨85, [(0, .list false 6 (l.map eCo)), (3, .ptr 0 0), (4, .ptr 3 0), (5, .int .i64 i)], [.cells [.buf 1, .buf 2, .int .i64 (wS l i).code], .buf 1 0 (bl (wS l i).out), .buf 4 0 ((wS l i).l.map eP), .cells [.str (wS l i).out, .buf 4, .int .i64 (wS l i).code], .buf 4 0 ((wS l i).l.map eP)], [1, 2, 4]⟩) (fun i => l.length - i) [.cell 3 1 4] 0 ⟨Nat.zero_le _, by simp [wS, CS.new], by simp [wS, CS.new]⟩ ?_ (fun i ⟨hi, ho, hl⟩ _ _ => ?_)
  · refine Go.VG.Sub.mk rfl ?_ ?_ ?_ ?_ <;> (repeat' first | trivial | rfl | exact eqS _ _ | apply andI | apply eqA | apply eqB | apply eqC | apply eqD | apply eqE | apply eqF | apply eqG | apply eqH | apply eqI)
  have hn := fun h => wS_next (l := l) (i := i) h
  generalize hw' : wS l i = w at *
  have hwf := @hwf i
  generalize hO : l.getD i default = o at *
  have hk1 := fun h => does_op w o h
  have hk2 : w.does ⟨115, o.id, o.n, o.what, o.bits, o.text⟩ = w.op ⟨115, o.id, o.n, o.what, o.bits, o.text⟩ := does_op _ _ (by simp [okKind])
  repeat' ((conv => whnf); first | with_reducible (first | refine go1 (fun j q h => ?_) fun h => ?_ | refine go2 ⟨rfl, rfl⟩ (fun h => ?_) fun j h => ?_ | refine go2 ?_ (fun h => ?_) fun j h => ?_ | refine goQ ?_ (fun h => ?_) fun h => ?_) | apply go3 | apply go4 | apply go5 | ((first | apply go6 | apply go7 | apply go8 | apply go9 | apply goA) <;> intro h) | with_reducible (first | refine IdxK.mk _ rfl ?_ | refine goB ?_ fun hc => ?_ | refine goC ?_ fun hc => ?_ | refine goD ?_ fun hc => ?_ | refine goE ?_ fun hc => ?_ | apply goF | apply goG | refine goH ?_ fun b hb => ?_) | apply goI | apply goJ | apply goK | apply goL | apply goM | apply goN | apply goO | with_reducible refine goP ?_)
  all_goals try conv => whnf
  all_goals try (refine Side.mk ?_; try dsimp only)
  all_goals (try simp only [COp_eta, CS_eta, dC_w] at *)
  all_goals first | refine stay ?_ | trivial | omega | (simp (discharger := omega) only [wR]; omega) | (simp only [lnS]; omega) | (simp (discharger := omega) [-List.getD_eq_getElem?_getD, wR] <;> omega) | skip
  all_goals (try simp only [hO, deC_e, List.length_map] at *)
  all_goals try (show EndP _ _ _ _ _ _; (refine EndP.mk [] ?_ <;> (repeat' first | trivial | rfl | exact eqS _ _ | apply andI | apply eqA | apply eqB | apply eqC | apply eqD | apply eqE | apply eqF | apply eqG | apply eqH | apply eqI)); done)
  all_goals
    have hlt : i < l.length := by omega
    first
    | (have h6 : six o.kind := by unfold six; omega
       have hno : normO o = o := if_pos h6
       have hd := hk1 (by unfold okKind; omega)
       have hln := op_len w o (by omega) (hwf hlt)
       have hn := hn hlt
       rw [hno] at hn
       simp only [hd, ← hn] at *
       clear hk1 hk2 hd)
    | (have h6 : ¬ six o.kind := by unfold six; omega
       have hno : normO o = ⟨115, o.id, o.n, o.what, o.bits, o.text⟩ := if_neg h6
       have hln := op_len w ⟨115, o.id, o.n, o.what, o.bits, o.text⟩ (show o.text.length ≤ 90000000 by omega) (hwf hlt)
       have hn := hn hlt
       rw [hno] at hn
       simp only [hk2, ← hn] at *
       clear hk1 hk2)
  all_goals first
    | exact ⟨trivial, okC_e (by omega) (by omega), ⟨by omega, by omega⟩, by omega⟩
    | exact ⟨trivial, okL_map (by omega), by omega, by omega, by omega⟩
    | exact ⟨okC_e (by omega) (by omega), trivial⟩
    | exact okL_map (by omega)
    | (show EndP _ _ _ _ _ _
       exfalso
       first | exact absurd True.intro ‹¬ True› | exact absurd rfl (by assumption))
    | skip
  all_goals (refine ⟨[], i + 1, ⟨by omega, by omega, by omega⟩, ?_, by omega⟩)
  all_goals
    refine Go.VG.Sub.mk rfl ?_ ?_ ?_ ?_ <;> (repeat' first | trivial | rfl | exact eqS _ _ | apply andI | apply eqA | apply eqB | apply eqC | apply eqD | apply eqE | apply eqF | apply eqG | apply eqH | apply eqI)
  all_goals (first | omega | (simp (discharger := omega) only [wR]; omega) | (simp only [lnS]; omega) | (simp (discharger := omega) [-List.getD_eq_getElem?_getD, wR] <;> omega))
end Go.Proofs.YtcgjkjabcdeagaaDoor
