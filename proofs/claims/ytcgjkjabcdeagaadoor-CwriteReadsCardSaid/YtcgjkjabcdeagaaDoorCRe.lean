/-
  Reading of a struct: all its fields.
-/
import Derived.Test.YtcgjkjabcdeagaaDoorCRd
set_option linter.unusedSimpArgs false
set_option linter.unusedVariables false
set_option maxHeartbeats 4000000
namespace Go.Proofs.YtcgjkjabcdeagaaDoor
open Go Go.VG
set_option maxRecDepth 100000
theorem text_ok {c : Cu} (h : c.ok) : c.text.2.ok ∧ c.text.2.s = c.s := by
  have hv := vread_ok h
  have hf := fail_ok hv.1 1
  have hq := pass_ok hv.1 c.vread.1
  unfold Cu.text
  dsimp only
  split
  · exact ⟨hf.1, hf.2.1.trans hv.2.1⟩
  · exact ⟨hq.1, hq.2.1.trans hv.2.1⟩
theorem valC_ok {c : Cu} (h : c.ok) (f : Fd) : (valC f c).ok ∧ (valC f c).s = c.s := by
  have hv := vread_ok h
  have ht := text_ok h
  have hq := pass_ok h 8
  unfold valC
  repeat' split
  · exact ⟨hv.1, hv.2.1⟩
  · exact ⟨hq.1, hq.2.1⟩
  · exact ht
  · exact ⟨h, rfl⟩
theorem new_ok (s : List UInt8) : (Cu.new s).ok := ⟨Nat.zero_le _, Nat.le_refl _⟩
def sRun (s : List UInt8) : Option (List Fd × Cu) := sGo (s.length + 1) (Cu.new s) 0 []
def sFds (s : List UInt8) : List Fd := match sRun s with
  | some r => r.1
  | none => []
def sAt (s : List UInt8) : Nat := match sRun s with
  | some r => r.2.p
  | none => 0
def sFine (s : List UInt8) : Prop := ∃ r, sRun s = some r ∧ r.2.c = 0
theorem f_rStruct_1 (s : List UInt8) (hp : sFine s ∧ s.length ≤ 2000000000) : OK 12 ([.str s, .int .i64 0]) ([]) (.tuple [.buf 0, .int .i64 (sAt s), .int .i64 0]) (some [.buf 6 0 ((sFds s).map eFd)]) := by
  refine funOK_of_vc (C := cx [(29, sm_rOpen), (30, sm_hField), (31, sm_rValue), (32, sm_cErr), (33, sm_cAt)]) (good ⟨k_rOpen, k_hField, k_rValue, k_cErr, k_cAt, trivial⟩) (fn := Tryd.f12) rfl rfl rfl rfl fun hw hs => ?_
  obtain ⟨⟨r, hr, hc⟩, hl⟩ := hp
  have hf : sFds s = r.1 := by unfold sFds; rw [hr]
  have ha : sAt s = r.2.p := by unfold sAt; rw [hr]
  rw [hf, ha]
  repeat' ((conv => whnf); first | with_reducible (first | refine go1 (fun j q h => ?_) fun h => ?_ | refine go2 ⟨rfl, rfl⟩ (fun h => ?_) fun j h => ?_ | refine go2 ?_ (fun h => ?_) fun j h => ?_ | refine goQ ?_ (fun h => ?_) fun h => ?_) | apply go3 | apply go4 | apply go5 | ((first | apply go6 | apply go7 | apply go8 | apply go9 | apply goA) <;> intro h) | with_reducible (first | refine IdxK.mk _ rfl ?_ | refine goB ?_ fun hc => ?_ | refine goC ?_ fun hc => ?_ | refine goD ?_ fun hc => ?_ | refine goE ?_ fun hc => ?_ | apply goF | apply goG | refine goH ?_ fun b hb => ?_) | apply goI | apply goJ | apply goK | apply goL | apply goM | apply goN | apply goO | with_reducible refine goP ?_)
  all_goals try conv => whnf
  all_goals try (refine Side.mk ?_; try dsimp only)
  refine LoopP.mk (Nat × Cu × Int × List Fd) (fun (n, c, last, acc) => c.ok ∧ c.s = s ∧ acc.length + n ≤ s.length + 1 ∧ sGo n c last acc = some r) (fun (n, c, last, acc) => ⟨56, [(1, .int .i64 0), (4, .buf 2), (7, .ptr 1 0), (8, .int .i64 last)], [.cells (eC c), .cells [.str s, .ptr 0 0], .buf 6 0 (acc.map eFd)], [2]⟩) (fun x => x.1) [.tm 4 6] (s.length + 1, .new s, 0, []) ⟨new_ok s, rfl, by simp, hr⟩ ?_ (fun ⟨n, c, last, acc⟩ ⟨h1, h2, h3, h4⟩ _ _ => ?_)
  · refine Go.VG.Sub.mk rfl ?_ ?_ ?_ ?_ <;> (repeat' first | trivial | rfl | exact eqS _ _ | apply andI | apply eqA | apply eqB | apply eqC | apply eqD | apply eqE | apply eqF | apply eqG | apply eqH | apply eqI)
  cases n with
  | zero => rw [sGo] at h4; cases h4
  | succ n =>
  rw [sGo] at h4
  have hfo := fld_ok h1 last
  have hvo := valC_ok hfo.1 ⟨(c.fld last).1.1, (c.fld last).1.2, 0, 0, [], []⟩
  repeat' ((conv => whnf); first | with_reducible (first | refine go1 (fun j q h => ?_) fun h => ?_ | refine go2 ⟨rfl, rfl⟩ (fun h => ?_) fun j h => ?_ | refine go2 ?_ (fun h => ?_) fun j h => ?_ | refine goQ ?_ (fun h => ?_) fun h => ?_) | apply go3 | apply go4 | apply go5 | ((first | apply go6 | apply go7 | apply go8 | apply go9 | apply goA) <;> intro h) | with_reducible (first | refine IdxK.mk _ rfl ?_ | refine goB ?_ fun hc => ?_ | refine goC ?_ fun hc => ?_ | refine goD ?_ fun hc => ?_ | refine goE ?_ fun hc => ?_ | apply goF | apply goG | refine goH ?_ fun b hb => ?_) | apply goI | apply goJ | apply goK | apply goL | apply goM | apply goN | apply goO | with_reducible refine goP ?_)
  all_goals try conv => whnf
  all_goals try (refine Side.mk ?_; try dsimp only)
  all_goals (try simp only [Cu_eta] at *)
  all_goals first | refine stay ?_ | trivial | omega | (simp (discharger := omega) only [wR]; omega) | (simp only [lnS]; omega) | (simp (discharger := omega) [-List.getD_eq_getElem?_getD, wR] <;> omega) | skip
  · rw [if_pos (by assumption)] at h4
    cases h4
    refine EndP.mk [.swap 0 2] ?_ <;> (repeat' first | trivial | rfl | exact eqS _ _ | apply andI | apply eqA | apply eqB | apply eqC | apply eqD | apply eqE | apply eqF | apply eqG | apply eqH | apply eqI)
  · rw [if_pos (by assumption)] at h4
    cases h4
    exact absurd hc (by assumption)
  · rw [if_neg (by assumption)] at h4
    by_cases hk : kOk (c.fld last).1.2
    · exact ⟨trivial, trivial, ⟨hfo.1, by rw [hfo.2.1, h2]; omega⟩, hk⟩
    · rw [if_neg hk] at h4; cases h4
  · rw [if_neg (by assumption)] at h4
    by_cases hk : kOk (c.fld last).1.2
    · rw [if_pos hk] at h4
      refine ⟨[], (n, _, _, _), ⟨hvo.1, hvo.2.trans (hfo.2.1.trans h2), by simp; omega, h4⟩, ?_, by show n < n + 1; omega⟩
      refine Go.VG.Sub.mk rfl ?_ ?_ ?_ ?_ <;> (repeat' first | trivial | rfl | exact eqS _ _ | apply andI | apply eqA | apply eqB | apply eqC | apply eqD | apply eqE | apply eqF | apply eqG | apply eqH | apply eqI)
      all_goals (first | rfl | (simp; done))
    · rw [if_neg hk] at h4; cases h4
def sm_rStruct : Sm := fun args σ => match args, σ with
  | [.str s, .int .i64 0], [] => some (sFine s ∧ s.length ≤ 2000000000, .tuple [.buf 0, .int .i64 (sAt s), .int .i64 0], some [.buf 6 0 ((sFds s).map eFd)])
  | _, _ => none
theorem k_rStruct : SOK 12 sm_rStruct := by
  intro args sg pre x r he hp
  unfold sm_rStruct at he
  split at he <;> cases he
  · exact f_rStruct_1 (hp := hp) ..
end Go.Proofs.YtcgjkjabcdeagaaDoor
