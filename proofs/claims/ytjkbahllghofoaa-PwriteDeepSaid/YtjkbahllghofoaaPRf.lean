/-
  Tags and fields as the document reads them.
-/
import Derived.Test.YtjkbahllghofoaaPRe
import Derived.Test.YtjkbahllghofoaaPRc
set_option linter.unusedSimpArgs false
set_option linter.unusedVariables false
set_option maxHeartbeats 4000000
namespace Go.Proofs.Ytjkbahllghofoaa
open Go Go.VG
set_option maxRecDepth 100000
def mayU (u : Nat) : Bool := mayT (tagN u) (tagW u)
theorem mayU_eq (u : Nat) : mayU u = true ↔ u / 8 ≤ 536870911 ∧ mayT ((u / 8 : Nat) : Int) ((u % 8 : Nat) : Int) = true := by
  unfold mayU tagN tagW
  by_cases h : u / 4294967296 = 0
  · rw [if_neg (by omega), if_neg (by omega)]
    exact ⟨fun q => ⟨by omega, q⟩, fun q => q.2⟩
  · rw [if_pos h, if_pos h]
    exact ⟨fun q => absurd q (by decide), fun q => absurd q.1 (by omega)⟩
theorem mayU_tag {u : Nat} (h : mayU u = true) : tagN u = ((u / 8 : Nat) : Int) ∧ tagW u = ((u % 8 : Nat) : Int) := by
  have := (mayU_eq u).mp h
  unfold tagN tagW
  rw [if_neg (by omega), if_neg (by omega)]
  exact ⟨rfl, rfl⟩
def Cu.dtag (c : Cu) : (Int × Int) × Cu := if c.dread.2.c ≠ 0 then ((0, 0), c.dread.2) else if mayU c.dread.1 = true then ((tagN c.dread.1, tagW c.dread.1), c.dread.2) else ((0, 0), c.dread.2.fail 14)
def dxC (f : Pf) (c : Cu) : Cu := if f.wi = 0 then c.dread.2 else if f.wi = 1 then c.low64.2 else if f.wi = 5 then c.low32.2 else c.dtext.2
def dxV (f : Pf) (c : Cu) : Pf := if f.wi = 0 then { f with num := c.dread.1 } else if f.wi = 1 then { f with num := c.low64.1 } else if f.wi = 5 then { f with num := c.low32.1 } else if c.dread.2.c = 0 ∧ (c.dread.1 : Int) > c.dread.2.left then f else { f with text := c.dtext.1 }
theorem dtag_0 {c : Cu} (h : c.dread.2.c = 0) : c.dtag = c.tag := by
  rw [dread_c] at h
  have h2 := dread_0 h
  unfold Cu.dtag Cu.tag mayU
  rw [h2, if_neg (show ¬ c.vread.2.c ≠ 0 from fun q => q h)]
theorem dtag_c (c : Cu) : c.dtag.2.c = c.tag.2.c := by
  by_cases h : c.dread.2.c = 0
  · rw [dtag_0 h]
  · have h1 : ¬ c.vread.2.c = 0 := by rw [← dread_c]; exact h
    unfold Cu.dtag Cu.tag
    rw [if_pos h, if_pos h1]
    exact dread_c c
theorem dtag_eq {c : Cu} (h : c.tag.2.c = 0) : c.dtag = c.tag := by
  refine dtag_0 ?_
  rw [dread_c]
  unfold Cu.tag at h
  split at h
  · rename_i q; exact absurd h q
  · rename_i q; simpa using q
theorem dx_c (f : Pf) (c : Cu) (hw : f.wi = 0 ∨ f.wi = 1 ∨ f.wi = 2 ∨ f.wi = 5) : (dxC f c).c = (nxC f c).c ∧ ((nxC f c).c = 0 → dxC f c = nxC f c ∧ dxV f c = nxV f c) := by
  have ht := dtext_c c
  unfold dxC nxC dxV nxV
  by_cases h0 : f.wi = 0
  · rw [if_pos h0, if_pos h0, if_pos h0, if_pos h0]
    refine ⟨dread_c c, fun q => ?_⟩
    rw [dread_0 q]; exact ⟨rfl, rfl⟩
  rw [if_neg h0, if_neg h0, if_neg h0, if_neg h0]
  by_cases h1 : f.wi = 1
  · rw [if_pos h1, if_pos h1, if_pos h1, if_pos h1]
    exact ⟨rfl, fun q => ⟨rfl, rfl⟩⟩
  rw [if_neg h1, if_neg h1, if_neg h1, if_neg h1]
  by_cases h5 : f.wi = 5
  · rw [if_pos h5, if_pos h5, if_pos h5, if_pos h5]
    exact ⟨rfl, fun q => ⟨rfl, rfl⟩⟩
  have h2 : f.wi = 2 := by omega
  rw [if_neg h5, if_neg h5, if_neg h5, if_neg h5, if_pos h2, if_pos h2]
  refine ⟨ht.1, fun q => ?_⟩
  rw [ht.2 q]
  refine ⟨rfl, ?_⟩
  split
  · rename_i g
    have hd := ht.2 q
    have : c.dtext.2.c = 1 := by
      unfold Cu.dtext
      rw [if_pos g]
      unfold Cu.fail
      rw [if_pos g.1]
    rw [ht.1, q] at this; cases this
  · rfl
def Cu.dnxtC (c : Cu) : Cu := if c.dtag.2.c ≠ 0 then c.dtag.2 else dxC ⟨c.dtag.1.1, c.dtag.1.2, 0, []⟩ c.dtag.2
def Cu.dnxt (c : Cu) : Pf := if c.dnxtC.c ≠ 0 then default else dxV ⟨c.dtag.1.1, c.dtag.1.2, 0, []⟩ c.dtag.2
theorem tag_wi {c : Cu} (h : c.tag.2.c = 0) : (c.tag.1.2 = 0 ∨ c.tag.1.2 = 1 ∨ c.tag.1.2 = 2 ∨ c.tag.1.2 = 5) ∧ mayT c.tag.1.1 c.tag.1.2 = true := by
  unfold Cu.tag at h ⊢
  split at h
  · rename_i q; exact absurd h q
  · rename_i q
    rw [if_neg q]
    split at h
    · rename_i q2
      rw [if_pos q2]
      exact ⟨(of_decide_eq_true q2).2, q2⟩
    · have h0 : c.vread.2.c = 0 := by simpa using q
      unfold Cu.fail at h
      rw [if_pos h0] at h
      cases h
theorem dnxt_eq (c : Cu) : c.dnxtC.c = c.nxtC.c ∧ c.dnxt = c.nxt ∧ (c.nxtC.c = 0 → c.dnxtC = c.nxtC) := by
  have hc : c.dnxtC.c = c.nxtC.c ∧ (c.nxtC.c = 0 → c.dnxtC = c.nxtC ∧ dxV ⟨c.dtag.1.1, c.dtag.1.2, 0, []⟩ c.dtag.2 = nxV ⟨c.tag.1.1, c.tag.1.2, 0, []⟩ c.tag.2) := by
    unfold Cu.dnxtC Cu.nxtC
    by_cases h : c.tag.2.c = 0
    · have he := dtag_eq h
      rw [he, if_neg (fun q => q h)]
      have hd := dx_c ⟨c.tag.1.1, c.tag.1.2, 0, []⟩ c.tag.2 (tag_wi h).1
      exact ⟨hd.1, hd.2⟩
    · have h1 : ¬ c.dtag.2.c = 0 := by rw [dtag_c]; exact h
      rw [if_pos h1, nxC_err h]
      exact ⟨dtag_c c, fun q => absurd q h⟩
  refine ⟨hc.1, ?_, fun q => (hc.2 q).1⟩
  unfold Cu.dnxt Cu.nxt
  rw [hc.1]
  by_cases h : c.nxtC.c = 0
  · rw [if_neg (fun q => q h), if_neg (fun q => q h), (hc.2 h).2]
  · rw [if_pos h, if_pos h]
theorem dtag_ok {c : Cu} (h : c.ok) : c.dtag.2.ok ∧ c.dtag.2.s = c.s ∧ c.dtag.2.e = c.e := by
  have hd := dread_ok h
  have hf := fail_ok hd.1 14
  unfold Cu.dtag
  repeat' split
  · exact hd
  · exact hd
  · exact ⟨hf.1, hf.2.1.trans hd.2.1, hf.2.2.1.trans hd.2.2⟩
theorem f_r16May_1 (n w : Int) (hp : True) : OK 18 ([.int .i64 n, .int .i64 w]) ([]) (.bool (mayT n w)) (none) := by
  refine funOK_of_vc (C := cx []) (good trivial) (fn := Try.f18) rfl rfl rfl rfl fun hw hs => ?_
  repeat' ((conv => whnf); first | with_reducible (first | refine go1 (fun j q h => ?_) fun h => ?_ | refine go2 ⟨rfl, rfl⟩ (fun h => ?_) fun j h => ?_ | refine go2 ?_ (fun h => ?_) fun j h => ?_ | refine goQ ?_ (fun h => ?_) fun h => ?_) | apply go3 | apply go4 | apply go5 | ((first | apply go6 | apply go7 | apply go8 | apply go9 | apply goA) <;> intro h) | with_reducible (first | refine IdxK.mk _ rfl ?_ | refine goB ?_ fun hc => ?_ | refine goC ?_ fun hc => ?_ | refine goD ?_ fun hc => ?_ | refine goE ?_ fun hc => ?_ | apply goF | apply goG | refine goH ?_ fun b hb => ?_) | apply goI | apply goJ | apply goK | apply goL | apply goM | apply goN | apply goO | with_reducible refine goP ?_)
  all_goals try conv => whnf
  all_goals try (refine Side.mk ?_; try dsimp only)
  all_goals (try simp only [Cu_eta] at *)
  all_goals first | refine stay ?_ | trivial | omega | (simp (discharger := omega) only [wR]; omega) | (simp only [lnS]; omega) | (simp (discharger := omega) [-List.getD_eq_getElem?_getD, wR] <;> omega) | skip
  all_goals first
    | (exfalso; omega)
    | (show EndP _ _ _ _ _ _
       have he : mayT n w = mayT n w := rfl
       conv at he => rhs; unfold mayT
       first | rw [decide_eq_true (by omega)] at he | rw [decide_eq_false (by omega)] at he
       rw [he]
       refine EndP.mk [] ?_ <;> (repeat' first | trivial | rfl | exact eqS _ _ | apply andI | apply eqA | apply eqB | apply eqC | apply eqD | apply eqE | apply eqF | apply eqG | apply eqH | apply eqI)
       done)
    | (have he : mayT n w = (w == 5) := by
         unfold mayT
         rw [Bool.eq_iff_iff, decide_eq_true_iff, beq_iff_eq]; omega
       rw [he]
       refine EndP.mk [] ?_ <;> (repeat' first | trivial | rfl | exact eqS _ _ | apply andI | apply eqA | apply eqB | apply eqC | apply eqD | apply eqE | apply eqF | apply eqG | apply eqH | apply eqI)
       done)
def sm_r16May : Sm := fun args σ => match args, σ with
  | [.int .i64 n, .int .i64 w], [] => some (True, .bool (mayT n w), none)
  | _, _ => none
theorem k_r16May : SOK 18 sm_r16May := by
  intro args sg pre x r he hp
  unfold sm_r16May at he
  split at he <;> cases he
  · exact f_r16May_1 (hp := hp) ..
theorem wi_i {a : Int} (h : -9223372036854775808 ≤ a ∧ a ≤ 9223372036854775807) : IntKind.i64.wrap a = a := by rw [wi64]; omega
theorem dxC_ok {c : Cu} (h : c.ok) (f : Pf) : (dxC f c).ok ∧ (dxC f c).s = c.s ∧ (dxC f c).e = c.e := by
  have hv := dread_ok h
  have ht := dtext_ok h
  have h8 := pass_ok h 8
  have h4 := pass_ok h 4
  unfold dxC
  repeat' split
  · exact hv
  · exact h8
  · exact h4
  · exact ht
theorem dnxt_ok {c : Cu} (h : c.ok) : c.dnxtC.ok ∧ c.dnxtC.s = c.s ∧ c.dnxtC.e = c.e := by
  have h1 := dtag_ok h
  have h2 := dxC_ok h1.1 ⟨c.dtag.1.1, c.dtag.1.2, 0, []⟩
  unfold Cu.dnxtC
  split
  · exact h1
  · exact ⟨h2.1, h2.2.1.trans h1.2.1, h2.2.2.trans h1.2.2⟩
theorem new_n (s : List UInt8) (c : Int) : Cu.mk s 0 s.length 0 = .new s := rfl
end Go.Proofs.Ytjkbahllghofoaa
