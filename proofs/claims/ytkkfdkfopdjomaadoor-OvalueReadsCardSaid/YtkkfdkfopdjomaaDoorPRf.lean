/-
  Tags and fields as the document reads them.
-/
import Derived.Test.YtkkfdkfopdjomaaDoorPRe
import Derived.Test.YtkkfdkfopdjomaaDoorPRc
set_option linter.unusedSimpArgs false
set_option linter.unusedVariables false
set_option maxHeartbeats 4000000
namespace Go.Proofs.YtkkfdkfopdjomaaDoor
open Go Go.VG
set_option maxRecDepth 100000
def mayU (u : Nat) : Bool := mayT (tagN u) (tagW u)
theorem mayU_eq (u : Nat) : mayU u = true ↔ u / 8 ≤ 536870911 ∧ mayT ((u / 8 : Nat) : Int) ((u % 8 : Nat) : Int) = true := by
  unfold mayU tagN tagW
  by_cases h : u / 4294967296 = 0
  · rw [if_neg (by omega), if_neg (by omega)]
    exact ⟨fun q => ⟨by omega, q⟩, fun q => q.2⟩
  · rw [if_pos h, if_pos h]
    exact ⟨fun q => absurd q (by decide), fun q => absurd q.1 (by omega)⟩
theorem mayU_tag {u : Nat} (h : mayU u = true) : tagN u = ((u / 8 : Nat) : Int) ∧ tagW u = ((u % 8 : Nat) : Int) := by
  have := (mayU_eq u).mp h
  unfold tagN tagW
  rw [if_neg (by omega), if_neg (by omega)]
  exact ⟨rfl, rfl⟩
def Cu.dtag (c : Cu) : (Int × Int) × Cu := if c.dread.2.c ≠ 0 then ((0, 0), c.dread.2) else if mayU c.dread.1 = true then ((tagN c.dread.1, tagW c.dread.1), c.dread.2) else ((0, 0), c.dread.2.fail 14)
def dxC (f : Pf) (c : Cu) : Cu := if f.wi = 0 then c.dread.2 else if f.wi = 1 then c.low64.2 else if f.wi = 5 then c.low32.2 else c.dtext.2
def dxV (f : Pf) (c : Cu) : Pf := if f.wi = 0 then { f with num := c.dread.1 } else if f.wi = 1 then { f with num := c.low64.1 } else if f.wi = 5 then { f with num := c.low32.1 } else if c.dread.2.c = 0 ∧ (c.dread.1 : Int) > c.dread.2.left then f else { f with text := c.dtext.1 }
theorem dtag_0 {c : Cu} (h : c.dread.2.c = 0) : c.dtag = c.tag := by
  rw [dread_c] at h
  have h2 := dread_0 h
  unfold Cu.dtag Cu.tag mayU
  rw [h2, if_neg (show ¬ c.vread.2.c ≠ 0 from fun q => q h)]
theorem dtag_c (c : Cu) : c.dtag.2.c = c.tag.2.c := by
  by_cases h : c.dread.2.c = 0
  · rw [dtag_0 h]
  · have h1 : ¬ c.vread.2.c = 0 := by rw [← dread_c]; exact h
    unfold Cu.dtag Cu.tag
    rw [if_pos h, if_pos h1]
    exact dread_c c
theorem dtag_eq {c : Cu} (h : c.tag.2.c = 0) : c.dtag = c.tag := by
  refine dtag_0 ?_
  rw [dread_c]
  unfold Cu.tag at h
  split at h
  · rename_i q; exact absurd h q
  · rename_i q; simpa using q
theorem dx_c (f : Pf) (c : Cu) (hw : f.wi = 0 ∨ f.wi = 1 ∨ f.wi = 2 ∨ f.wi = 5) : (dxC f c).c = (nxC f c).c ∧ ((nxC f c).c = 0 → dxC f c = nxC f c ∧ dxV f c = nxV f c) := by
  have ht := dtext_c c
  unfold dxC nxC dxV nxV
  by_cases h0 : f.wi = 0
  · rw [if_pos h0, if_pos h0, if_pos h0, if_pos h0]
    refine ⟨dread_c c, fun q => ?_⟩
    rw [dread_0 q]; exact ⟨rfl, rfl⟩
  rw [if_neg h0, if_neg h0, if_neg h0, if_neg h0]
  by_cases h1 : f.wi = 1
  · rw [if_pos h1, if_pos h1, if_pos h1, if_pos h1]
    exact ⟨rfl, fun q => ⟨rfl, rfl⟩⟩
  rw [if_neg h1, if_neg h1, if_neg h1, if_neg h1]
  by_cases h5 : f.wi = 5
  · rw [if_pos h5, if_pos h5, if_pos h5, if_pos h5]
    exact ⟨rfl, fun q => ⟨rfl, rfl⟩⟩
  have h2 : f.wi = 2 := by omega
  rw [if_neg h5, if_neg h5, if_neg h5, if_neg h5, if_pos h2, if_pos h2]
  refine ⟨ht.1, fun q => ?_⟩
  rw [ht.2 q]
  refine ⟨rfl, ?_⟩
  split
  · rename_i g
    have hd := ht.2 q
    have : c.dtext.2.c = 1 := by
      unfold Cu.dtext
      rw [if_pos g]
      unfold Cu.fail
      rw [if_pos g.1]
    rw [ht.1, q] at this; cases this
  · rfl
def Cu.dnxtC (c : Cu) : Cu := if c.dtag.2.c ≠ 0 then c.dtag.2 else dxC ⟨c.dtag.1.1, c.dtag.1.2, 0, []⟩ c.dtag.2
def Cu.dnxt (c : Cu) : Pf := if c.dnxtC.c ≠ 0 then default else dxV ⟨c.dtag.1.1, c.dtag.1.2, 0, []⟩ c.dtag.2
theorem tag_wi {c : Cu} (h : c.tag.2.c = 0) : (c.tag.1.2 = 0 ∨ c.tag.1.2 = 1 ∨ c.tag.1.2 = 2 ∨ c.tag.1.2 = 5) ∧ mayT c.tag.1.1 c.tag.1.2 = true := by
  unfold Cu.tag at h ⊢
  split at h
  · rename_i q; exact absurd h q
  · rename_i q
    rw [if_neg q]
    split at h
    · rename_i q2
      rw [if_pos q2]
      exact ⟨(of_decide_eq_true q2).2, q2⟩
    · have h0 : c.vread.2.c = 0 := by simpa using q
      unfold Cu.fail at h
      rw [if_pos h0] at h
      cases h
theorem dnxt_eq (c : Cu) : c.dnxtC.c = c.nxtC.c ∧ c.dnxt = c.nxt ∧ (c.nxtC.c = 0 → c.dnxtC = c.nxtC) := by
  have hc : c.dnxtC.c = c.nxtC.c ∧ (c.nxtC.c = 0 → c.dnxtC = c.nxtC ∧ dxV ⟨c.dtag.1.1, c.dtag.1.2, 0, []⟩ c.dtag.2 = nxV ⟨c.tag.1.1, c.tag.1.2, 0, []⟩ c.tag.2) := by
    unfold Cu.dnxtC Cu.nxtC
    by_cases h : c.tag.2.c = 0
    · have he := dtag_eq h
      rw [he, if_neg (fun q => q h)]
      have hd := dx_c ⟨c.tag.1.1, c.tag.1.2, 0, []⟩ c.tag.2 (tag_wi h).1
      exact ⟨hd.1, hd.2⟩
    · have h1 : ¬ c.dtag.2.c = 0 := by rw [dtag_c]; exact h
      rw [if_pos h1, nxC_err h]
      exact ⟨dtag_c c, fun q => absurd q h⟩
  refine ⟨hc.1, ?_, fun q => (hc.2 q).1⟩
  unfold Cu.dnxt Cu.nxt
  rw [hc.1]
  by_cases h : c.nxtC.c = 0
  · rw [if_neg (fun q => q h), if_neg (fun q => q h), (hc.2 h).2]
  · rw [if_pos h, if_pos h]
theorem dtag_ok {c : Cu} (h : c.ok) : c.dtag.2.ok ∧ c.dtag.2.s = c.s ∧ c.dtag.2.e = c.e := by
  have hd := dread_ok h
  have hf := fail_ok hd.1 14
  unfold Cu.dtag
  repeat' split
  · exact hd
  · exact hd
  · exact ⟨hf.1, hf.2.1.trans hd.2.1, hf.2.2.1.trans hd.2.2⟩
theorem f_r16May_1 (n w : Int) (hp : True) : OK 61 ([.int .i64 n, .int .i64 w]) ([]) (.bool (mayT n w)) (none) := by
  refine funOK_of_vc (C := cx []) (good trivial) (fn := Tryd.f61) rfl rfl rfl rfl fun hw hs => ?_
  repeat' ((conv => whnf); first | with_reducible (first | refine go1 (fun j q h => ?_) fun h => ?_ | refine go2 ⟨rfl, rfl⟩ (fun h => ?_) fun j h => ?_ | refine go2 ?_ (fun h => ?_) fun j h => ?_ | refine goQ ?_ (fun h => ?_) fun h => ?_) | apply go3 | apply go4 | apply go5 | ((first | apply go6 | apply go7 | apply go8 | apply go9 | apply goA) <;> intro h) | with_reducible (first | refine IdxK.mk _ rfl ?_ | refine goB ?_ fun hc => ?_ | refine goC ?_ fun hc => ?_ | refine goD ?_ fun hc => ?_ | refine goE ?_ fun hc => ?_ | apply goF | apply goG | refine goH ?_ fun b hb => ?_) | apply goI | apply goJ | apply goK | apply goL | apply goM | apply goN | apply goO | with_reducible refine goP ?_)
  all_goals try conv => whnf
  all_goals try (refine Side.mk ?_; try dsimp only)
  all_goals (try simp only [Cu_eta] at *)
  all_goals first | refine stay ?_ | trivial | omega | (simp (discharger := omega) only [wR]; omega) | (simp only [lnS]; omega) | (simp (discharger := omega) [-List.getD_eq_getElem?_getD, wR] <;> omega) | skip
  all_goals first
    | (exfalso; omega)
    | (show EndP _ _ _ _ _ _
       have he : mayT n w = mayT n w := rfl
       conv at he => rhs; unfold mayT
       first | rw [decide_eq_true (by omega)] at he | rw [decide_eq_false (by omega)] at he
       rw [he]
       refine EndP.mk [] ?_ <;> (repeat' first | trivial | rfl | exact eqS _ _ | apply andI | apply eqA | apply eqB | apply eqC | apply eqD | apply eqE | apply eqF | apply eqG | apply eqH | apply eqI)
       done)
    | (have he : mayT n w = (w == 5) := by
         unfold mayT
         rw [Bool.eq_iff_iff, decide_eq_true_iff, beq_iff_eq]; omega
       rw [he]
       refine EndP.mk [] ?_ <;> (repeat' first | trivial | rfl | exact eqS _ _ | apply andI | apply eqA | apply eqB | apply eqC | apply eqD | apply eqE | apply eqF | apply eqG | apply eqH | apply eqI)
       done)
def sm_r16May : Sm := fun args σ => match args, σ with
  | [.int .i64 n, .int .i64 w], [] => some (True, .bool (mayT n w), none)
  | _, _ => none
theorem k_r16May : SOK 61 sm_r16May := by
  intro args sg pre x r he hp
  unfold sm_r16May at he
  split at he <;> cases he
  · exact f_r16May_1 (hp := hp) ..
theorem f_r16Read_1 (c : Cu) (hp : c.ok ∧ c.e = c.s.length ∧ c.s.length ≤ 1000000000) : OK 53 ([eCa c]) ([]) (.tuple [eCa c.dtag.2, .int .i64 c.dtag.1.1, .int .i64 c.dtag.1.2]) (none) := by
  refine funOK_of_vc (C := cx [(60, sm_r03Read), (61, sm_r16May), (62, sm_r01Fail)]) (good ⟨k_r03Read, k_r16May, k_r01Fail, trivial⟩) (fn := Tryd.f53) rfl rfl rfl rfl fun hw hs => ?_
  have hl := @dread_lt c
  have hm := mayU_eq c.dread.1
  have hg := @mayU_tag c.dread.1
  have hq8 : IntKind.u64.wrap ((c.dread.1 : Int).tdiv 8) = ((c.dread.1 / 8 : Nat) : Int) := by
    rw [Int.tdiv_eq_ediv_of_nonneg (by omega), wu64]; omega
  have hr8 : (c.dread.1 : Int).tmod 8 = ((c.dread.1 % 8 : Nat) : Int) := rfl
  have hq9 : IntKind.i64.wrap ((c.dread.1 / 8 : Nat) : Int) = ((c.dread.1 / 8 : Nat) : Int) := by rw [wi64]; omega
  have hr9 : IntKind.i64.wrap ((c.dread.1 % 8 : Nat) : Int) = ((c.dread.1 % 8 : Nat) : Int) := by rw [wi64]; omega
  repeat' ((conv => whnf); first | with_reducible (first | refine go1 (fun j q h => ?_) fun h => ?_ | refine go2 ⟨rfl, rfl⟩ (fun h => ?_) fun j h => ?_ | refine go2 ?_ (fun h => ?_) fun j h => ?_ | refine goQ ?_ (fun h => ?_) fun h => ?_) | apply go3 | apply go4 | apply go5 | ((first | apply go6 | apply go7 | apply go8 | apply go9 | apply goA) <;> intro h) | with_reducible (first | refine IdxK.mk _ rfl ?_ | refine goB ?_ fun hc => ?_ | refine goC ?_ fun hc => ?_ | refine goD ?_ fun hc => ?_ | refine goE ?_ fun hc => ?_ | apply goF | apply goG | refine goH ?_ fun b hb => ?_) | apply goI | apply goJ | apply goK | apply goL | apply goM | apply goN | apply goO | with_reducible refine goP ?_)
  all_goals try conv => whnf
  all_goals try (refine Side.mk ?_; try dsimp only)
  all_goals (try simp only [hq8, hr8, hq9, hr9] at *)
  all_goals (try simp only [Cu_eta] at *)
  all_goals first | refine stay ?_ | trivial | omega | (simp (discharger := omega) only [wR]; omega) | (simp only [lnS]; omega) | (simp (discharger := omega) [-List.getD_eq_getElem?_getD, wR] <;> omega) | skip
  all_goals
    show EndP _ _ _ _ _ _
    have he : c.dtag = c.dtag := rfl
    conv at he => rhs; unfold Cu.dtag
    first
    | (rw [if_pos (by assumption)] at he
       rw [he])
    | (rw [if_neg (by omega)] at he
       first
       | (have hm1 : mayU c.dread.1 = true := hm.mpr ⟨by omega, decide_eq_true (by assumption)⟩
          rw [if_pos hm1, (hg hm1).1, (hg hm1).2] at he)
       | (have hm1 : ¬ mayU c.dread.1 = true := fun q => by have := (hm.mp q).1; omega
          rw [if_neg hm1] at he)
       | (have hm1 : ¬ mayU c.dread.1 = true := fun q => absurd (of_decide_eq_true (hm.mp q).2) (by assumption)
          rw [if_neg hm1] at he)
       rw [he])
    first
    | (refine EndP.mk [] ?_ <;> (repeat' first | trivial | rfl | exact eqS _ _ | apply andI | apply eqA | apply eqB | apply eqC | apply eqD | apply eqE | apply eqF | apply eqG | apply eqH | apply eqI)
       done)
def sm_r16Read : Sm := fun args σ => match args, σ with
  | [.agg [.str s_c, .int .i64 (.ofNat a_c), .int .i64 (.ofNat e_c), .int .i64 c_c]], [] => some (True ∧ ((Cu.mk s_c a_c e_c c_c).ok ∧ (Cu.mk s_c a_c e_c c_c).e = (Cu.mk s_c a_c e_c c_c).s.length ∧ (Cu.mk s_c a_c e_c c_c).s.length ≤ 1000000000), .tuple [eCa (Cu.mk s_c a_c e_c c_c).dtag.2, .int .i64 (Cu.mk s_c a_c e_c c_c).dtag.1.1, .int .i64 (Cu.mk s_c a_c e_c c_c).dtag.1.2], none)
  | _, _ => none
theorem k_r16Read : SOK 53 sm_r16Read := by
  intro args sg pre x r he hp
  unfold sm_r16Read at he
  split at he <;> cases he
  · rw [viewCa (hp).1]; exact f_r16Read_1 (hp := hp.2) ..
theorem wi_i {a : Int} (h : -9223372036854775808 ≤ a ∧ a ≤ 9223372036854775807) : IntKind.i64.wrap a = a := by rw [wi64]; omega
theorem dxC_ok {c : Cu} (h : c.ok) (f : Pf) : (dxC f c).ok ∧ (dxC f c).s = c.s ∧ (dxC f c).e = c.e := by
  have hv := dread_ok h
  have ht := dtext_ok h
  have h8 := pass_ok h 8
  have h4 := pass_ok h 4
  unfold dxC
  repeat' split
  · exact hv
  · exact h8
  · exact h4
  · exact ht
theorem dnxt_ok {c : Cu} (h : c.ok) : c.dnxtC.ok ∧ c.dnxtC.s = c.s ∧ c.dnxtC.e = c.e := by
  have h1 := dtag_ok h
  have h2 := dxC_ok h1.1 ⟨c.dtag.1.1, c.dtag.1.2, 0, []⟩
  unfold Cu.dnxtC
  split
  · exact h1
  · exact ⟨h2.1, h2.2.1.trans h1.2.1, h2.2.2.trans h1.2.2⟩
theorem f_r17content_1 (c : Cu) (f : Pf) (hp : c.ok ∧ c.e = c.s.length ∧ c.s.length ≤ 1000000000) : OK 54 ([eCa c, ePf f]) ([]) (.tuple [eCa (dxC f c), ePf (dxV f c)]) (none) := by
  refine funOK_of_vc (C := cx [(60, sm_r03Read), (63, sm_r02ReadLow), (62, sm_r01Fail), (64, sm_r01Take)]) (good ⟨k_r03Read, k_r02ReadLow, k_r01Fail, k_r01Take, trivial⟩) (fn := Tryd.f54) rfl rfl rfl rfl fun hw hs => ?_
  have hd := dread_ok hp.1
  have hb : c.dread.2.e ≤ 1000000000 := by rw [hd.2.2]; omega
  have hb2 : c.dread.2.s.length ≤ 1000000000 := by rw [hd.2.1]; omega
  have hd1 := hd.1.1
  have hlf : c.dread.2.left = (c.dread.2.e : Int) - c.dread.2.p := rfl
  have hwl : IntKind.i64.wrap ((c.dread.2.e : Int) - c.dread.2.p) = (c.dread.2.e : Int) - c.dread.2.p := wi_i (by omega)
  have hwu : IntKind.u64.wrap ((c.dread.2.e : Int) - c.dread.2.p) = (c.dread.2.e : Int) - c.dread.2.p := by rw [wu64]; omega
  repeat' ((conv => whnf); first | with_reducible (first | refine go1 (fun j q h => ?_) fun h => ?_ | refine go2 ⟨rfl, rfl⟩ (fun h => ?_) fun j h => ?_ | refine go2 ?_ (fun h => ?_) fun j h => ?_ | refine goQ ?_ (fun h => ?_) fun h => ?_) | apply go3 | apply go4 | apply go5 | ((first | apply go6 | apply go7 | apply go8 | apply go9 | apply goA) <;> intro h) | with_reducible (first | refine IdxK.mk _ rfl ?_ | refine goB ?_ fun hc => ?_ | refine goC ?_ fun hc => ?_ | refine goD ?_ fun hc => ?_ | refine goE ?_ fun hc => ?_ | apply goF | apply goG | refine goH ?_ fun b hb => ?_) | apply goI | apply goJ | apply goK | apply goL | apply goM | apply goN | apply goO | with_reducible refine goP ?_)
  all_goals try conv => whnf
  all_goals try (refine Side.mk ?_; try dsimp only)
  all_goals (try simp only [hwl, hwu] at *)
  all_goals (try simp only [Cu_eta] at *)
  all_goals first | refine stay ?_ | trivial | omega | (simp (discharger := omega) only [wR]; omega) | (simp only [lnS]; omega) | (simp (discharger := omega) [-List.getD_eq_getElem?_getD, wR] <;> omega) | skip
  all_goals first
    | exact ⟨trivial, ⟨hp.1, hp.2.2⟩, by decide⟩
    | exact ⟨trivial, hd.1, hb2⟩
    | (show EndP _ _ _ _ _ _
       have hwn : IntKind.i64.wrap (c.dread.1 : Int) = c.dread.1 := by
         by_cases q : c.dread.2.c = 0
         · first
           | exact absurd q (by assumption)
           | exact wi_i (by omega)
         · rw [dread_z q]; rfl
       rw [hwn]
       skip)
    | skip
  all_goals
    have he : dxC f c = dxC f c := rfl
    conv at he => rhs; unfold dxC; dsimp only
    repeat (first | rw [if_pos (by assumption)] at he | rw [if_neg (by assumption)] at he)
    have hf : dxV f c = dxV f c := rfl
    conv at hf => rhs; unfold dxV; dsimp only
    repeat (first | rw [if_pos (by assumption)] at hf | rw [if_neg (by assumption)] at hf)
    try
      (have ht : c.dtext = c.dtext := rfl
       conv at ht => rhs; unfold Cu.dtext; dsimp only
       first
       | (rw [if_pos ⟨by assumption, by omega⟩] at hf ht; rw [ht] at he)
       | (rw [if_neg (by omega)] at hf ht; rw [ht] at he hf))
    rw [he, hf]
    (refine EndP.mk [] ?_ <;> (repeat' first | trivial | rfl | exact eqS _ _ | apply andI | apply eqA | apply eqB | apply eqC | apply eqD | apply eqE | apply eqF | apply eqG | apply eqH | apply eqI))
def sm_r17content : Sm := fun args σ => match args, σ with
  | [.agg [.str s_c, .int .i64 (.ofNat a_c), .int .i64 (.ofNat e_c), .int .i64 c_c], .agg [.int .i64 n_f, .int .i64 w_f, .int .u64 u_f, .str t_f]], [] => some (True ∧ (True ∧ ((Cu.mk s_c a_c e_c c_c).ok ∧ (Cu.mk s_c a_c e_c c_c).e = (Cu.mk s_c a_c e_c c_c).s.length ∧ (Cu.mk s_c a_c e_c c_c).s.length ≤ 1000000000)), .tuple [eCa (dxC (Pf.mk n_f w_f u_f t_f) (Cu.mk s_c a_c e_c c_c)), ePf (dxV (Pf.mk n_f w_f u_f t_f) (Cu.mk s_c a_c e_c c_c))], none)
  | _, _ => none
theorem k_r17content : SOK 54 sm_r17content := by
  intro args sg pre x r he hp
  unfold sm_r17content at he
  split at he <;> cases he
  · rw [viewCa (hp).1]; rw [viewPf (hp.2).1]; exact f_r17content_1 (hp := hp.2.2) ..
theorem new_n (s : List UInt8) (c : Int) : Cu.mk s 0 s.length 0 = .new s := rfl
theorem f_r17Next_1 (c : Cu) (hp : c.ok ∧ c.e = c.s.length ∧ c.s.length ≤ 1000000000) : OK 38 ([eCa c]) ([]) (.tuple [eCa c.dnxtC, ePf c.dnxt]) (none) := by
  refine funOK_of_vc (C := cx [(53, sm_r16Read), (54, sm_r17content)]) (good ⟨k_r16Read, k_r17content, trivial⟩) (fn := Tryd.f38) rfl rfl rfl rfl fun hw hs => ?_
  have hd := dtag_ok hp.1
  have hx := dxC_ok hd.1
  repeat' ((conv => whnf); first | with_reducible (first | refine go1 (fun j q h => ?_) fun h => ?_ | refine go2 ⟨rfl, rfl⟩ (fun h => ?_) fun j h => ?_ | refine go2 ?_ (fun h => ?_) fun j h => ?_ | refine goQ ?_ (fun h => ?_) fun h => ?_) | apply go3 | apply go4 | apply go5 | ((first | apply go6 | apply go7 | apply go8 | apply go9 | apply goA) <;> intro h) | with_reducible (first | refine IdxK.mk _ rfl ?_ | refine goB ?_ fun hc => ?_ | refine goC ?_ fun hc => ?_ | refine goD ?_ fun hc => ?_ | refine goE ?_ fun hc => ?_ | apply goF | apply goG | refine goH ?_ fun b hb => ?_) | apply goI | apply goJ | apply goK | apply goL | apply goM | apply goN | apply goO | with_reducible refine goP ?_)
  all_goals try conv => whnf
  all_goals try (refine Side.mk ?_; try dsimp only)
  all_goals (try simp only [Cu_eta] at *)
  all_goals first | refine stay ?_ | trivial | omega | (simp (discharger := omega) only [wR]; omega) | (simp only [lnS]; omega) | (simp (discharger := omega) [-List.getD_eq_getElem?_getD, wR] <;> omega) | skip
  all_goals first
    | exact ⟨trivial, trivial, hd.1, by rw [hd.2.2, hd.2.1]; exact hp.2.1, by rw [hd.2.1]; exact hp.2.2⟩
    | skip
  all_goals
    have he : c.dnxtC = c.dnxtC := rfl
    conv at he => rhs; unfold Cu.dnxtC
    first | rw [if_pos (by assumption)] at he | rw [if_neg (by omega)] at he
    have hf : c.dnxt = c.dnxt := rfl
    conv at hf => rhs; unfold Cu.dnxt; rw [he]
    first | rw [if_pos (by assumption)] at hf | rw [if_neg (by omega)] at hf
    rw [he, hf]
    (refine EndP.mk [] ?_ <;> (repeat' first | trivial | rfl | exact eqS _ _ | apply andI | apply eqA | apply eqB | apply eqC | apply eqD | apply eqE | apply eqF | apply eqG | apply eqH | apply eqI))
def sm_r17Next : Sm := fun args σ => match args, σ with
  | [.agg [.str s_c, .int .i64 (.ofNat a_c), .int .i64 (.ofNat e_c), .int .i64 c_c]], [] => some (True ∧ ((Cu.mk s_c a_c e_c c_c).ok ∧ (Cu.mk s_c a_c e_c c_c).e = (Cu.mk s_c a_c e_c c_c).s.length ∧ (Cu.mk s_c a_c e_c c_c).s.length ≤ 1000000000), .tuple [eCa (Cu.mk s_c a_c e_c c_c).dnxtC, ePf (Cu.mk s_c a_c e_c c_c).dnxt], none)
  | _, _ => none
theorem k_r17Next : SOK 38 sm_r17Next := by
  intro args sg pre x r he hp
  unfold sm_r17Next at he
  split at he <;> cases he
  · rw [viewCa (hp).1]; exact f_r17Next_1 (hp := hp.2) ..
theorem f_r17All_1 (s : List UInt8) (hp : s.length ≤ 1000000000) : OK 19 ([.str s]) ([]) (.tuple [.buf 0, .int .i64 (aFine s)]) (some [.buf 4 0 ((aFds s).map ePf)]) := by
  refine funOK_of_vc (C := cx [(37, sm_r01New), (38, sm_r17Next)]) (good ⟨k_r01New, k_r17Next, trivial⟩) (fn := Tryd.f19) rfl rfl rfl rfl fun hw hs => ?_
  have hfa : aFine s = ((Cu.new s).all []).1.c := rfl
  have hff : aFds s = if aFine s = 0 then ((Cu.new s).all []).2 else [] := rfl
  repeat' ((conv => whnf); first | with_reducible (first | refine go1 (fun j q h => ?_) fun h => ?_ | refine go2 ⟨rfl, rfl⟩ (fun h => ?_) fun j h => ?_ | refine go2 ?_ (fun h => ?_) fun j h => ?_ | refine goQ ?_ (fun h => ?_) fun h => ?_) | apply go3 | apply go4 | apply go5 | ((first | apply go6 | apply go7 | apply go8 | apply go9 | apply goA) <;> intro h) | with_reducible (first | refine IdxK.mk _ rfl ?_ | refine goB ?_ fun hc => ?_ | refine goC ?_ fun hc => ?_ | refine goD ?_ fun hc => ?_ | refine goE ?_ fun hc => ?_ | apply goF | apply goG | refine goH ?_ fun b hb => ?_) | apply goI | apply goJ | apply goK | apply goL | apply goM | apply goN | apply goO | with_reducible refine goP ?_)
  all_goals try conv => whnf
  all_goals try (refine Side.mk ?_; try dsimp only)
  refine LoopP.mk (Nat × Cu × List Pf) (fun (n, d, acc) => d.ok ∧ d.s = s ∧ d.e = s.length ∧ d.c = 0 ∧ d.e - d.p ≤ n ∧ acc.length ≤ d.p ∧ eachGo n d acc = (Cu.new s).all []) (fun (n, d, acc) => ⟨31, [(0, .str s), (4, .ptr 0 0), (5, .buf 1)], [.cells (eC d), .buf 4 0 (acc.map ePf)], [1]⟩) (fun x => x.1) [.tm 5 4] (s.length, .new s, []) ⟨⟨Nat.zero_le _, Nat.le_refl _⟩, rfl, rfl, rfl, Nat.le_refl _, Nat.zero_le _, rfl⟩ ?_ (fun ⟨n, d, acc⟩ ⟨h1, h2, h3, h4, h5, h6, h7⟩ _ _ => ?_)
  · refine Go.VG.Sub.mk rfl ?_ ?_ ?_ ?_ <;> (repeat' first | trivial | rfl | exact eqS _ _ | apply andI | apply eqA | apply eqB | apply eqC | apply eqD | apply eqE | apply eqF | apply eqG | apply eqH | apply eqI)
  have hno := nxt_ok h1
  have hdn := dnxt_eq d
  repeat' ((conv => whnf); first | with_reducible (first | refine go1 (fun j q h => ?_) fun h => ?_ | refine go2 ⟨rfl, rfl⟩ (fun h => ?_) fun j h => ?_ | refine go2 ?_ (fun h => ?_) fun j h => ?_ | refine goQ ?_ (fun h => ?_) fun h => ?_) | apply go3 | apply go4 | apply go5 | ((first | apply go6 | apply go7 | apply go8 | apply go9 | apply goA) <;> intro h) | with_reducible (first | refine IdxK.mk _ rfl ?_ | refine goB ?_ fun hc => ?_ | refine goC ?_ fun hc => ?_ | refine goD ?_ fun hc => ?_ | refine goE ?_ fun hc => ?_ | apply goF | apply goG | refine goH ?_ fun b hb => ?_) | apply goI | apply goJ | apply goK | apply goL | apply goM | apply goN | apply goO | with_reducible refine goP ?_)
  all_goals try conv => whnf
  all_goals try (refine Side.mk ?_; try dsimp only)
  all_goals (try simp only [Cu_eta] at *)
  all_goals first | refine stay ?_ | trivial | omega | (simp (discharger := omega) only [wR]; omega) | (simp only [lnS]; omega) | (simp (discharger := omega) [-List.getD_eq_getElem?_getD, wR] <;> omega) | skip
  · exact ⟨trivial, h1, by rw [h2]; exact h3, by rw [h2]; exact hp⟩
  · have hn0 : d.nxtC.c = 0 := by omega
    have hadv := nxt_adv hn0
    have hlf : d.left = (d.e : Int) - d.p := rfl
    obtain ⟨m, rfl⟩ : ∃ m, n = m + 1 := ⟨n - 1, by omega⟩
    rw [eachGo, if_pos ⟨h4, by omega⟩, if_neg (by omega)] at h7
    rw [hdn.2.2 hn0, hdn.2.1]
    refine ⟨[], (m, d.nxtC, acc ++ [d.nxt]), ⟨hno.1, hno.2.1.trans h2, hno.2.2.trans h3, hn0, by show d.nxtC.e - d.nxtC.p ≤ m; rw [hno.2.2]; omega, by show (acc ++ [d.nxt]).length ≤ d.nxtC.p; rw [List.length_append, List.length_singleton]; omega, h7⟩, ?_, by show m < m + 1; omega⟩
    refine Go.VG.Sub.mk rfl ?_ ?_ ?_ ?_ <;> (repeat' first | trivial | rfl | exact eqS _ _ | apply andI | apply eqA | apply eqB | apply eqC | apply eqD | apply eqE | apply eqF | apply eqG | apply eqH | apply eqI)
    simp
  · have hlf : d.left = (d.e : Int) - d.p := rfl
    obtain ⟨m, rfl⟩ : ∃ m, n = m + 1 := ⟨n - 1, by omega⟩
    rw [eachGo, if_pos ⟨h4, by omega⟩, if_pos (by omega)] at h7
    rw [← h7] at hfa
    have hfa : aFine s = d.nxtC.c := hfa
    rw [if_neg (by omega)] at hff
    rw [hfa, hff, hdn.1]
    refine EndP.mk [.tm 2 4, .swap 0 4] ?_ <;> (repeat' first | trivial | rfl | exact eqS _ _ | apply andI | apply eqA | apply eqB | apply eqC | apply eqD | apply eqE | apply eqF | apply eqG | apply eqH | apply eqI)
  · have hlf : d.left = (d.e : Int) - d.p := rfl
    have h8 : eachGo n d acc = (d, acc) := by
      cases n with
      | zero => rfl
      | succ m => rw [eachGo, if_neg (fun q => by omega)]
    rw [h8] at h7
    rw [← h7] at hfa hff
    have hfa : aFine s = 0 := hfa.trans h4
    rw [if_pos hfa] at hff
    rw [hfa, hff]
    refine EndP.mk [.swap 0 1] ?_ <;> (repeat' first | trivial | rfl | exact eqS _ _ | apply andI | apply eqA | apply eqB | apply eqC | apply eqD | apply eqE | apply eqF | apply eqG | apply eqH | apply eqI)
def sm_r17All : Sm := fun args σ => match args, σ with
  | [.str s], [] => some (s.length ≤ 1000000000, .tuple [.buf 0, .int .i64 (aFine s)], some [.buf 4 0 ((aFds s).map ePf)])
  | _, _ => none
theorem k_r17All : SOK 19 sm_r17All := by
  intro args sg pre x r he hp
  unfold sm_r17All at he
  split at he <;> cases he
  · exact f_r17All_1 (hp := hp) ..
end Go.Proofs.YtkkfdkfopdjomaaDoor
