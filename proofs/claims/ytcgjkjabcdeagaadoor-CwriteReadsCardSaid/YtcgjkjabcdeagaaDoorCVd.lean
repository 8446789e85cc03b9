/-
  Going past values: whatever stands there.
-/
import Derived.Test.YtcgjkjabcdeagaaDoorCVc
set_option linter.unusedSimpArgs false
set_option linter.unusedVariables false
set_option maxHeartbeats 4000000
namespace Go.Proofs.YtcgjkjabcdeagaaDoor
open Go Go.VG
set_option maxRecDepth 100000
theorem skN_err {f : Cu → Cu} {c : Cu} (h : c.c ≠ 0) : ∀ n, skN f n c = c
  | 0 => rfl
  | n + 1 => by rw [skN, if_pos h]
theorem skFs_err {v : SF} {c : Cu} (h : c.c ≠ 0) (last : Int) : ∀ n, skFs v n c last = c
  | 0 => rfl
  | n + 1 => by rw [skFs, if_pos h]
theorem beq0 {a : Int} : (a == 0) = true ↔ a = 0 := beq_iff_eq
theorem f_skRight_1 (c : Cu) (hp : True) : OK 84 ([.agg [.ptr 0 0]]) ([.cells (eC c)]) (.bool (c.c == 0)) (none) := by
  refine funOK_of_vc (C := cx [(32, sm_cErr)]) (good ⟨k_cErr, trivial⟩) (fn := Tryd.f84) rfl rfl rfl rfl fun hw hs => ?_
  repeat' ((conv => whnf); first | with_reducible (first | refine go1 (fun j q h => ?_) fun h => ?_ | refine go2 ⟨rfl, rfl⟩ (fun h => ?_) fun j h => ?_ | refine go2 ?_ (fun h => ?_) fun j h => ?_ | refine goQ ?_ (fun h => ?_) fun h => ?_) | apply go3 | apply go4 | apply go5 | ((first | apply go6 | apply go7 | apply go8 | apply go9 | apply goA) <;> intro h) | with_reducible (first | refine IdxK.mk _ rfl ?_ | refine goB ?_ fun hc => ?_ | refine goC ?_ fun hc => ?_ | refine goD ?_ fun hc => ?_ | refine goE ?_ fun hc => ?_ | apply goF | apply goG | refine goH ?_ fun b hb => ?_) | apply goI | apply goJ | apply goK | apply goL | apply goM | apply goN | apply goO | with_reducible refine goP ?_)
  all_goals try conv => whnf
  all_goals try (refine Side.mk ?_; try dsimp only)
  all_goals (try simp only [Cu_eta] at *)
  all_goals first | refine stay ?_ | trivial | omega | (simp (discharger := omega) only [wR]; omega) | (simp only [lnS]; omega) | (simp (discharger := omega) [-List.getD_eq_getElem?_getD, wR] <;> omega) | skip
  refine EndP.mk [] ?_ <;> (repeat' first | trivial | rfl | exact eqS _ _ | apply andI | apply eqA | apply eqB | apply eqC | apply eqD | apply eqE | apply eqF | apply eqG | apply eqH | apply eqI)
def sm_skRight : Sm := fun args σ => match args, σ with
  | [.agg [.ptr 0 0]], [.cells ([.str s_c, .int .i64 (.ofNat a_c), .int .i64 (.ofNat e_c), .int .i64 c_c])] => some (True ∧ (True), .bool ((Cu.mk s_c a_c e_c c_c).c == 0), none)
  | _, _ => none
theorem k_skRight : SOK 84 sm_skRight := by
  intro args sg pre x r he hp
  unfold sm_skRight at he
  split at he <;> cases he
  · rw [viewC (hp).1]; exact f_skRight_1 (hp := hp.2) ..
theorem f_skText_1 (c : Cu) (d : Int) (hp : c.ok ∧ c.s.length ≤ 9223372036854775807) : OK 79 ([.agg [.ptr 0 0], .int .i64 d]) ([.cells (eC c)]) (.tuple []) (some [.cells (eC c.text.2)]) := by
  refine funOK_of_vc (C := cx [(58, sm_vRead), (84, sm_skRight), (74, sm_cLeft), (56, sm_cFail), (73, sm_cTake)]) (good ⟨k_vRead, k_skRight, k_cLeft, k_cFail, k_cTake, trivial⟩) (fn := Tryd.f79) rfl rfl rfl rfl fun hw hs => ?_
  obtain ⟨hp, hb⟩ := hp
  have h1 := @vread_lt c
  have hv := vread_ok hp
  have hf := fail_ok hv.1 1
  have hl : c.vread.2.left = (c.vread.2.e : Int) - c.vread.2.p := rfl
  have hw1 := hv.1.1
  have hw2 := hv.1.2
  have hs1 : c.vread.2.s.length = c.s.length := by rw [hv.2.1]
  have hwl : IntKind.u64.wrap c.vread.2.left = c.vread.2.left := by rw [hl, wu64]; omega
  repeat' ((conv => whnf); first | with_reducible (first | refine go1 (fun j q h => ?_) fun h => ?_ | refine go2 ⟨rfl, rfl⟩ (fun h => ?_) fun j h => ?_ | refine go2 ?_ (fun h => ?_) fun j h => ?_ | refine goQ ?_ (fun h => ?_) fun h => ?_) | apply go3 | apply go4 | apply go5 | ((first | apply go6 | apply go7 | apply go8 | apply go9 | apply goA) <;> intro h) | with_reducible (first | refine IdxK.mk _ rfl ?_ | refine goB ?_ fun hc => ?_ | refine goC ?_ fun hc => ?_ | refine goD ?_ fun hc => ?_ | refine goE ?_ fun hc => ?_ | apply goF | apply goG | refine goH ?_ fun b hb => ?_) | apply goI | apply goJ | apply goK | apply goL | apply goM | apply goN | apply goO | with_reducible refine goP ?_)
  all_goals try conv => whnf
  all_goals try (refine Side.mk ?_; try dsimp only)
  all_goals (try simp only [Int.toNat_natCast, hwl, beq0] at *)
  all_goals (try simp only [Cu_eta] at *)
  all_goals first | refine stay ?_ | trivial | omega | (simp (discharger := omega) only [wR]; omega) | (simp only [lnS]; omega) | (simp (discharger := omega) [-List.getD_eq_getElem?_getD, wR] <;> omega) | skip
  all_goals first
    | exact ⟨trivial, hv.1⟩
    | exact ⟨trivial, hf.1⟩
    | (show EndP _ _ _ _ _ _
       have he : c.text = c.text := rfl
       conv at he => rhs; unfold Cu.text
       dsimp only at he
       first | rw [if_pos ⟨by assumption, by omega⟩] at he | rw [if_neg (by omega)] at he
       rw [he])
    | skip
  · have hfc : ¬ (c.vread.2.fail 1).c = 0 := by
      unfold Cu.fail; rw [if_pos (by assumption)]; exact (by decide : ¬ (1 : Int) = 0)
    have ht := err_take hfc (IntKind.i64.wrap c.vread.1)
    simp only [ht.2]
    refine EndP.mk [] ?_ <;> (repeat' first | trivial | rfl | exact eqS _ _ | apply andI | apply eqA | apply eqB | apply eqC | apply eqD | apply eqE | apply eqF | apply eqG | apply eqH | apply eqI)
  · have hwn : IntKind.i64.wrap c.vread.1 = c.vread.1 := by rw [wi64]; omega
    simp only [hwn]
    refine EndP.mk [] ?_ <;> (repeat' first | trivial | rfl | exact eqS _ _ | apply andI | apply eqA | apply eqB | apply eqC | apply eqD | apply eqE | apply eqF | apply eqG | apply eqH | apply eqI)
  · have ht := err_take (c := c.vread.2) (by assumption)
    simp only [(ht _).2]
    refine EndP.mk [] ?_ <;> (repeat' first | trivial | rfl | exact eqS _ _ | apply andI | apply eqA | apply eqB | apply eqC | apply eqD | apply eqE | apply eqF | apply eqG | apply eqH | apply eqI)
def sm_skText : Sm := fun args σ => match args, σ with
  | [.agg [.ptr 0 0], .int .i64 d], [.cells ([.str s_c, .int .i64 (.ofNat a_c), .int .i64 (.ofNat e_c), .int .i64 c_c])] => some (True ∧ ((Cu.mk s_c a_c e_c c_c).ok ∧ (Cu.mk s_c a_c e_c c_c).s.length ≤ 9223372036854775807), .tuple [], some [.cells (eC (Cu.mk s_c a_c e_c c_c).text.2)])
  | _, _ => none
theorem k_skText : SOK 79 sm_skText := by
  intro args sg pre x r he hp
  unfold sm_skText at he
  split at he <;> cases he
  · rw [viewC (hp).1]; exact f_skText_1 (hp := hp.2) ..
-- #name skValue (cskip.skipper).value
/-- what going past a value does, with room for k things within one another -/
def sm_skValue (k : Nat) : Sm := fun args σ => match args, σ with
  | [.agg [.ptr 0 0], .int .u8 q, .int .i64 d], [.cells [.str s, .int .i64 (.ofNat p), .int .i64 (.ofNat e), .int .i64 cc]] =>
    some ((⟨s, p, e, cc⟩ : Cu).ok ∧ s.length ≤ 9223372036854775807 ∧ d + k = 32, .tuple [], some [.cells (eC (skV k q ⟨s, p, e, cc⟩))])
  | _, _ => none
theorem f_skInner_1 (k : Nat) (hv : SOK 78 (sm_skValue k)) (c : Cu) (q d : Int) (hp : c.ok ∧ c.s.length ≤ 9223372036854775807 ∧ d + k = 32) : OK 86 ([.agg [.ptr 0 0], .int .u8 q, .int .i64 d]) ([.cells (eC c)]) (.tuple []) (some [.cells (eC (skI (skV k) q c))]) := by
  refine funOK_of_vc (C := cx [(64, sm_cSame), (54, sm_cByte), (56, sm_cFail), (78, (sm_skValue k))]) (good ⟨k_cSame, k_cByte, k_cFail, hv, trivial⟩) (fn := Tryd.f86) rfl rfl rfl rfl fun hw hs => ?_
  have h256 := c.byteV.toNat_lt
  have hq : 0 ≤ q ∧ q ≤ 255 := hw.2.1
  have hb := pass_ok hp.1 1
  repeat' ((conv => whnf); first | with_reducible (first | refine go1 (fun j q h => ?_) fun h => ?_ | refine go2 ⟨rfl, rfl⟩ (fun h => ?_) fun j h => ?_ | refine go2 ?_ (fun h => ?_) fun j h => ?_ | refine goQ ?_ (fun h => ?_) fun h => ?_) | apply go3 | apply go4 | apply go5 | ((first | apply go6 | apply go7 | apply go8 | apply go9 | apply goA) <;> intro h) | with_reducible (first | refine IdxK.mk _ rfl ?_ | refine goB ?_ fun hc => ?_ | refine goC ?_ fun hc => ?_ | refine goD ?_ fun hc => ?_ | refine goE ?_ fun hc => ?_ | apply goF | apply goG | refine goH ?_ fun b hb => ?_) | apply goI | apply goJ | apply goK | apply goL | apply goM | apply goN | apply goO | with_reducible refine goP ?_)
  all_goals try conv => whnf
  all_goals try (refine Side.mk ?_; try dsimp only)
  all_goals (try simp only [Cu_eta] at *)
  all_goals (try simp only [Cu_eta] at *)
  all_goals first | refine stay ?_ | trivial | omega | (simp (discharger := omega) only [wR]; omega) | (simp only [lnS]; omega) | (simp (discharger := omega) [-List.getD_eq_getElem?_getD, wR] <;> omega) | skip
  all_goals first
    | exact ⟨trivial, hp.1⟩
    | exact ⟨⟨by omega, by omega⟩, hp⟩
    | skip
  all_goals
    have he : skI (skV k) q c = skI (skV k) q c := rfl
    conv at he => rhs; unfold skI
    repeat (first | rw [if_pos (by first | omega | exact sameK_t.2 (by assumption))] at he | rw [if_neg (by first | omega | exact fun q => absurd (sameK_t.1 q) (by assumption))] at he)
    rw [he]
    refine EndP.mk [] ?_ <;> (repeat' first | trivial | rfl | exact eqS _ _ | apply andI | apply eqA | apply eqB | apply eqC | apply eqD | apply eqE | apply eqF | apply eqG | apply eqH | apply eqI)
def sm_skInner (k : Nat) : Sm := fun args σ => match args, σ with
  | [.agg [.ptr 0 0], .int .u8 q, .int .i64 d], [.cells ([.str s_c, .int .i64 (.ofNat a_c), .int .i64 (.ofNat e_c), .int .i64 c_c])] => some (True ∧ ((Cu.mk s_c a_c e_c c_c).ok ∧ (Cu.mk s_c a_c e_c c_c).s.length ≤ 9223372036854775807 ∧ d + k = 32), .tuple [], some [.cells (eC (skI (skV k) q (Cu.mk s_c a_c e_c c_c)))])
  | _, _ => none
theorem k_skInner (k : Nat) (hv : SOK 78 (sm_skValue k)) : SOK 86 (sm_skInner k) := by
  intro args sg pre x r he hp
  unfold sm_skInner at he
  split at he <;> cases he
  · rw [viewC (hp).1]; exact f_skInner_1 (hv := hv) (hp := hp.2) ..
theorem skL_kp {k : Nat} {q : Int} (c : Cu) (h : c.ok) : Kp c (skI (skV k) q c) := skI_kp (skV_kp k) q c h
/-- a loop that goes past things -/
structure NI (f : Cu → Cu) (n : Nat) (c : Cu) (x : Nat × Cu) : Prop where
  i : x.1 ≤ n
  k : Kp c x.2
  r : skN f (n - x.1) x.2 = skN f n c
theorem NI.z {f : Cu → Cu} {n : Nat} {c : Cu} (h : c.ok) : NI f n c (0, c) := ⟨Nat.zero_le _, Kp.rfl h, rfl⟩
theorem NI.e {f : Cu → Cu} {n : Nat} {c d : Cu} {i : Nat} (h : NI f n c (i, d)) (hi : ¬ (i : Int) < n ∨ d.c ≠ 0) : skN f n c = d := by
  rw [← h.r]
  show skN f (n - i) d = d
  have := h.i
  dsimp only at this
  rcases hi with hi | hi
  · rw [show n - i = 0 by omega]; rfl
  · exact skN_err hi _
theorem NI.s {f : Cu → Cu} (hf : ∀ c, c.ok → Kp c (f c)) {n : Nat} {c d : Cu} {i : Nat} (h : NI f n c (i, d)) (hi : (i : Int) < n) (h0 : d.c = 0) : NI f n c (i + 1, f d) := by
  refine ⟨by show i + 1 ≤ n; omega, h.k.trans (hf d h.k.1), ?_⟩
  rw [← h.r]
  show skN f (n - (i + 1)) (f d) = skN f (n - i) d
  obtain ⟨m, hm⟩ : ∃ m, n - i = m + 1 := ⟨n - i - 1, by omega⟩
  rw [hm, skN, if_neg (by omega), show n - (i + 1) = m by omega]
theorem f_skList_1 (k : Nat) (hv : SOK 86 (sm_skInner k)) (c : Cu) (d : Int) (hp : c.ok ∧ c.s.length ≤ 9223372036854775807 ∧ d + k + 1 = 32) : OK 81 ([.agg [.ptr 0 0], .int .i64 d]) ([.cells (eC c)]) (.tuple []) (some [.cells (eC (skList (skV k) c))]) := by
  refine funOK_of_vc (C := cx [(85, sm_hList), (84, sm_skRight), (86, (sm_skInner k))]) (good ⟨k_hList, k_skRight, hv, trivial⟩) (fn := Tryd.f81) rfl rfl rfl rfl fun hw hs => ?_
  obtain ⟨hp, hb, hd⟩ := hp
  have hl := Kp.lhd hp
  have hn := lhd_b c
  have hd1 : -9223372036854775808 ≤ d := hw.2.1.1
  repeat' ((conv => whnf); first | with_reducible (first | refine go1 (fun j q h => ?_) fun h => ?_ | refine go2 ⟨rfl, rfl⟩ (fun h => ?_) fun j h => ?_ | refine go2 ?_ (fun h => ?_) fun j h => ?_ | refine goQ ?_ (fun h => ?_) fun h => ?_) | apply go3 | apply go4 | apply go5 | ((first | apply go6 | apply go7 | apply go8 | apply go9 | apply goA) <;> intro h) | with_reducible (first | refine IdxK.mk _ rfl ?_ | refine goB ?_ fun hc => ?_ | refine goC ?_ fun hc => ?_ | refine goD ?_ fun hc => ?_ | refine goE ?_ fun hc => ?_ | apply goF | apply goG | refine goH ?_ fun b hb => ?_) | apply goI | apply goJ | apply goK | apply goL | apply goM | apply goN | apply goO | with_reducible refine goP ?_)
  all_goals try conv => whnf
  all_goals try (refine Side.mk ?_; try dsimp only)
  · exact ⟨trivial, hp⟩
  refine LoopP.mk (Nat × Cu) (NI (skI (skV k) c.lhd.1.2) c.lhd.1.1.toNat c.lhd.2) (fun x => ⟨27, [(1, .int .i64 d), (2, .ptr 1 0), (4, .int .i64 c.lhd.1.1), (5, .int .u8 c.lhd.1.2), (6, .int .i64 x.1)], [.cells (eC x.2), .cells [.ptr 0 0]], []⟩) (fun x => c.lhd.1.1.toNat - x.1) [] (0, c.lhd.2) (NI.z hl.1) ?_ (fun ⟨i, x⟩ hI _ _ => ?_)
  · refine Go.VG.Sub.mk rfl ?_ ?_ ?_ ?_ <;> (repeat' first | trivial | rfl | exact eqS _ _ | apply andI | apply eqA | apply eqB | apply eqC | apply eqD | apply eqE | apply eqF | apply eqG | apply eqH | apply eqI)
  have hi := hI.i
  have hk := hI.k
  dsimp only at hi hk
  repeat' ((conv => whnf); first | with_reducible (first | refine go1 (fun j q h => ?_) fun h => ?_ | refine go2 ⟨rfl, rfl⟩ (fun h => ?_) fun j h => ?_ | refine go2 ?_ (fun h => ?_) fun j h => ?_ | refine goQ ?_ (fun h => ?_) fun h => ?_) | apply go3 | apply go4 | apply go5 | ((first | apply go6 | apply go7 | apply go8 | apply go9 | apply goA) <;> intro h) | with_reducible (first | refine IdxK.mk _ rfl ?_ | refine goB ?_ fun hc => ?_ | refine goC ?_ fun hc => ?_ | refine goD ?_ fun hc => ?_ | refine goE ?_ fun hc => ?_ | apply goF | apply goG | refine goH ?_ fun b hb => ?_) | apply goI | apply goJ | apply goK | apply goL | apply goM | apply goN | apply goO | with_reducible refine goP ?_)
  all_goals try conv => whnf
  all_goals try (refine Side.mk ?_; try dsimp only)
  all_goals (try simp only [Cu_eta, beq0] at *)
  all_goals (try simp only [Cu_eta] at *)
  all_goals first | refine stay ?_ | trivial | omega | (simp (discharger := omega) only [wR]; omega) | (simp only [lnS]; omega) | (simp (discharger := omega) [-List.getD_eq_getElem?_getD, wR] <;> omega) | skip
  · exact ⟨trivial, hk.1, by rw [hk.2.1, hl.2.1]; exact hb, by rw [wi64]; omega⟩
  · refine ⟨[], (i + 1, _), hI.s skL_kp (by omega) (by assumption), ?_, by omega⟩
    refine Go.VG.Sub.mk rfl ?_ ?_ ?_ ?_ <;> (repeat' first | trivial | rfl | exact eqS _ _ | apply andI | apply eqA | apply eqB | apply eqC | apply eqD | apply eqE | apply eqF | apply eqG | apply eqH | apply eqI)
    (first | omega | (simp (discharger := omega) only [wR]; omega) | (simp only [lnS]; omega) | (simp (discharger := omega) [-List.getD_eq_getElem?_getD, wR] <;> omega))
  · have he : skList (skV k) c = x := hI.e (.inr (by assumption))
    rw [he]
    refine EndP.mk [] ?_ <;> (repeat' first | trivial | rfl | exact eqS _ _ | apply andI | apply eqA | apply eqB | apply eqC | apply eqD | apply eqE | apply eqF | apply eqG | apply eqH | apply eqI)
  · have he : skList (skV k) c = x := hI.e (.inl (by omega))
    rw [he]
    refine EndP.mk [] ?_ <;> (repeat' first | trivial | rfl | exact eqS _ _ | apply andI | apply eqA | apply eqB | apply eqC | apply eqD | apply eqE | apply eqF | apply eqG | apply eqH | apply eqI)
def sm_skList (k : Nat) : Sm := fun args σ => match args, σ with
  | [.agg [.ptr 0 0], .int .i64 d], [.cells ([.str s_c, .int .i64 (.ofNat a_c), .int .i64 (.ofNat e_c), .int .i64 c_c])] => some (True ∧ ((Cu.mk s_c a_c e_c c_c).ok ∧ (Cu.mk s_c a_c e_c c_c).s.length ≤ 9223372036854775807 ∧ d + k + 1 = 32), .tuple [], some [.cells (eC (skList (skV k) (Cu.mk s_c a_c e_c c_c)))])
  | _, _ => none
theorem k_skList (k : Nat) (hv : SOK 86 (sm_skInner k)) : SOK 81 (sm_skList k) := by
  intro args sg pre x r he hp
  unfold sm_skList at he
  split at he <;> cases he
  · rw [viewC (hp).1]; exact f_skList_1 (hv := hv) (hp := hp.2) ..
theorem f_skMap_1 (k : Nat) (hv : SOK 86 (sm_skInner k)) (c : Cu) (d : Int) (hp : c.ok ∧ c.s.length ≤ 9223372036854775807 ∧ d + k + 1 = 32) : OK 82 ([.agg [.ptr 0 0], .int .i64 d]) ([.cells (eC c)]) (.tuple []) (some [.cells (eC (skMap (skV k) c))]) := by
  refine funOK_of_vc (C := cx [(87, sm_hMap), (84, sm_skRight), (86, (sm_skInner k))]) (good ⟨k_hMap, k_skRight, hv, trivial⟩) (fn := Tryd.f82) rfl rfl rfl rfl fun hw hs => ?_
  obtain ⟨hp, hb, hd⟩ := hp
  have hl := Kp.mhd hp
  have hn := mhd_b c
  have hd1 : -9223372036854775808 ≤ d := hw.2.1.1
  have hf : ∀ x : Cu, x.ok → Kp x (skI (skV k) c.mhd.1.2.2 (skI (skV k) c.mhd.1.2.1 x)) := fun x h => (skL_kp x h).trans (skL_kp _ (skL_kp x h).1)
  repeat' ((conv => whnf); first | with_reducible (first | refine go1 (fun j q h => ?_) fun h => ?_ | refine go2 ⟨rfl, rfl⟩ (fun h => ?_) fun j h => ?_ | refine go2 ?_ (fun h => ?_) fun j h => ?_ | refine goQ ?_ (fun h => ?_) fun h => ?_) | apply go3 | apply go4 | apply go5 | ((first | apply go6 | apply go7 | apply go8 | apply go9 | apply goA) <;> intro h) | with_reducible (first | refine IdxK.mk _ rfl ?_ | refine goB ?_ fun hc => ?_ | refine goC ?_ fun hc => ?_ | refine goD ?_ fun hc => ?_ | refine goE ?_ fun hc => ?_ | apply goF | apply goG | refine goH ?_ fun b hb => ?_) | apply goI | apply goJ | apply goK | apply goL | apply goM | apply goN | apply goO | with_reducible refine goP ?_)
  all_goals try conv => whnf
  all_goals try (refine Side.mk ?_; try dsimp only)
  · exact ⟨trivial, hp⟩
  refine LoopP.mk (Nat × Cu) (NI (fun x => skI (skV k) c.mhd.1.2.2 (skI (skV k) c.mhd.1.2.1 x)) c.mhd.1.1.toNat c.mhd.2) (fun x => ⟨34, [(1, .int .i64 d), (2, .ptr 1 0), (4, .int .i64 c.mhd.1.1), (5, .int .u8 c.mhd.1.2.1), (6, .int .u8 c.mhd.1.2.2), (7, .int .i64 x.1)], [.cells (eC x.2), .cells [.ptr 0 0]], []⟩) (fun x => c.mhd.1.1.toNat - x.1) [] (0, c.mhd.2) (NI.z hl.1) ?_ (fun ⟨i, x⟩ hI _ _ => ?_)
  · refine Go.VG.Sub.mk rfl ?_ ?_ ?_ ?_ <;> (repeat' first | trivial | rfl | exact eqS _ _ | apply andI | apply eqA | apply eqB | apply eqC | apply eqD | apply eqE | apply eqF | apply eqG | apply eqH | apply eqI)
  have hi := hI.i
  have hk := hI.k
  dsimp only at hi hk
  have hx := skL_kp (k := k) (q := c.mhd.1.2.1) x hk.1
  repeat' ((conv => whnf); first | with_reducible (first | refine go1 (fun j q h => ?_) fun h => ?_ | refine go2 ⟨rfl, rfl⟩ (fun h => ?_) fun j h => ?_ | refine go2 ?_ (fun h => ?_) fun j h => ?_ | refine goQ ?_ (fun h => ?_) fun h => ?_) | apply go3 | apply go4 | apply go5 | ((first | apply go6 | apply go7 | apply go8 | apply go9 | apply goA) <;> intro h) | with_reducible (first | refine IdxK.mk _ rfl ?_ | refine goB ?_ fun hc => ?_ | refine goC ?_ fun hc => ?_ | refine goD ?_ fun hc => ?_ | refine goE ?_ fun hc => ?_ | apply goF | apply goG | refine goH ?_ fun b hb => ?_) | apply goI | apply goJ | apply goK | apply goL | apply goM | apply goN | apply goO | with_reducible refine goP ?_)
  all_goals try conv => whnf
  all_goals try (refine Side.mk ?_; try dsimp only)
  all_goals (try simp only [Cu_eta, beq0] at *)
  all_goals (try simp only [Cu_eta] at *)
  all_goals first | refine stay ?_ | trivial | omega | (simp (discharger := omega) only [wR]; omega) | (simp only [lnS]; omega) | (simp (discharger := omega) [-List.getD_eq_getElem?_getD, wR] <;> omega) | skip
  · exact ⟨trivial, hk.1, by rw [hk.2.1, hl.2.1]; exact hb, by rw [wi64]; omega⟩
  · exact ⟨trivial, hx.1, by rw [hx.2.1, hk.2.1, hl.2.1]; exact hb, by rw [wi64]; omega⟩
  · refine ⟨[], (i + 1, _), hI.s hf (by omega) (by assumption), ?_, by omega⟩
    refine Go.VG.Sub.mk rfl ?_ ?_ ?_ ?_ <;> (repeat' first | trivial | rfl | exact eqS _ _ | apply andI | apply eqA | apply eqB | apply eqC | apply eqD | apply eqE | apply eqF | apply eqG | apply eqH | apply eqI)
    (first | omega | (simp (discharger := omega) only [wR]; omega) | (simp only [lnS]; omega) | (simp (discharger := omega) [-List.getD_eq_getElem?_getD, wR] <;> omega))
  · have he : skMap (skV k) c = x := hI.e (.inr (by assumption))
    rw [he]
    refine EndP.mk [] ?_ <;> (repeat' first | trivial | rfl | exact eqS _ _ | apply andI | apply eqA | apply eqB | apply eqC | apply eqD | apply eqE | apply eqF | apply eqG | apply eqH | apply eqI)
  · have he : skMap (skV k) c = x := hI.e (.inl (by omega))
    rw [he]
    refine EndP.mk [] ?_ <;> (repeat' first | trivial | rfl | exact eqS _ _ | apply andI | apply eqA | apply eqB | apply eqC | apply eqD | apply eqE | apply eqF | apply eqG | apply eqH | apply eqI)
def sm_skMap (k : Nat) : Sm := fun args σ => match args, σ with
  | [.agg [.ptr 0 0], .int .i64 d], [.cells ([.str s_c, .int .i64 (.ofNat a_c), .int .i64 (.ofNat e_c), .int .i64 c_c])] => some (True ∧ ((Cu.mk s_c a_c e_c c_c).ok ∧ (Cu.mk s_c a_c e_c c_c).s.length ≤ 9223372036854775807 ∧ d + k + 1 = 32), .tuple [], some [.cells (eC (skMap (skV k) (Cu.mk s_c a_c e_c c_c)))])
  | _, _ => none
theorem k_skMap (k : Nat) (hv : SOK 86 (sm_skInner k)) : SOK 82 (sm_skMap k) := by
  intro args sg pre x r he hp
  unfold sm_skMap at he
  split at he <;> cases he
  · rw [viewC (hp).1]; exact f_skMap_1 (hv := hv) (hp := hp.2) ..
/-- a loop that goes past fields -/
structure FI (v : SF) (c : Cu) (x : Nat × Cu × Int) : Prop where
  i : x.2.1.e - x.2.1.p < x.1
  k : Kp c x.2.1
  r : skFs v x.1 x.2.1 x.2.2 = skFields v c
theorem FI.z {v : SF} {c : Cu} (h : c.ok) : FI v c (c.e - c.p + 1, c, 0) := ⟨Nat.lt_succ_self _, Kp.rfl h, rfl⟩
theorem FI.s {v : SF} (hv : KpF v) {c d : Cu} {n : Nat} {a : Int} (h : FI v c (n, d, a)) (h0 : d.c = 0) :
    ((d.fld a).1.2 = 0 → skFields v c = (d.fld a).2) ∧ ((d.fld a).1.2 ≠ 0 → ∃ m, n = m + 1 ∧ FI v c (m, v (d.fld a).1.2 (d.fld a).2, (d.fld a).1.1)) := by
  have h1 := h.i
  have h2 := h.k
  have hr := h.r
  dsimp only at h1 h2 hr
  obtain ⟨m, rfl⟩ : ∃ m, n = m + 1 := ⟨n - 1, by omega⟩
  rw [skFs, if_neg (by omega)] at hr
  refine ⟨fun q => by rw [if_pos q] at hr; exact hr.symm, fun q => ?_⟩
  rw [if_neg q] at hr
  have hf := Kp.fld h2.1 a
  have hp := (fld_p h2.1 q).1
  have hx := hv (d.fld a).1.2 _ hf.1
  refine ⟨m, rfl, ?_, (h2.trans hf).trans hx, hr⟩
  show (v _ _).e - (v _ _).p < m
  have q1 := hx.2.2.1
  have q2 := hf.2.2.1
  have q3 := hx.2.2.2
  have q4 := hf.1.1
  omega
theorem fld_b (c : Cu) (a : Int) : 0 ≤ (c.fld a).1.2 ∧ (c.fld a).1.2 ≤ 15 := by
  have h256 := c.byteV.toNat_lt
  unfold Cu.fld fldE
  repeat' split
  all_goals (dsimp only; omega)
theorem f_skFields_1 (k : Nat) (hv : SOK 78 (sm_skValue k)) (c : Cu) (d : Int) (hp : c.ok ∧ c.s.length ≤ 9223372036854775807 ∧ d + k + 1 = 32) : OK 83 ([.agg [.ptr 0 0], .int .i64 d]) ([.cells (eC c)]) (.tuple []) (some [.cells (eC (skFields (skV k) c))]) := by
  refine funOK_of_vc (C := cx [(30, sm_hField), (84, sm_skRight), (78, (sm_skValue k))]) (good ⟨k_hField, k_skRight, hv, trivial⟩) (fn := Tryd.f83) rfl rfl rfl rfl fun hw hs => ?_
  obtain ⟨hp, hb, hd⟩ := hp
  have hd1 : -9223372036854775808 ≤ d := hw.2.1.1
  repeat' ((conv => whnf); first | with_reducible (first | refine go1 (fun j q h => ?_) fun h => ?_ | refine go2 ⟨rfl, rfl⟩ (fun h => ?_) fun j h => ?_ | refine go2 ?_ (fun h => ?_) fun j h => ?_ | refine goQ ?_ (fun h => ?_) fun h => ?_) | apply go3 | apply go4 | apply go5 | ((first | apply go6 | apply go7 | apply go8 | apply go9 | apply goA) <;> intro h) | with_reducible (first | refine IdxK.mk _ rfl ?_ | refine goB ?_ fun hc => ?_ | refine goC ?_ fun hc => ?_ | refine goD ?_ fun hc => ?_ | refine goE ?_ fun hc => ?_ | apply goF | apply goG | refine goH ?_ fun b hb => ?_) | apply goI | apply goJ | apply goK | apply goL | apply goM | apply goN | apply goO | with_reducible refine goP ?_)
  all_goals try conv => whnf
  all_goals try (refine Side.mk ?_; try dsimp only)
  refine LoopP.mk (Nat × Cu × Int) (FI (skV k) c) (fun x => ⟨24, [(1, .int .i64 d), (2, .ptr 1 0), (4, .int .i64 x.2.2)], [.cells (eC x.2.1), .cells [.ptr 0 0]], []⟩) (fun x => x.1) [] (c.e - c.p + 1, c, 0) (FI.z hp) ?_ (fun ⟨n, x, a⟩ hI _ _ => ?_)
  · refine Go.VG.Sub.mk rfl ?_ ?_ ?_ ?_ <;> (repeat' first | trivial | rfl | exact eqS _ _ | apply andI | apply eqA | apply eqB | apply eqC | apply eqD | apply eqE | apply eqF | apply eqG | apply eqH | apply eqI)
  have hk := hI.k
  dsimp only at hk
  have hs := fun h => hI.s (skV_kp k) h
  have hf := Kp.fld hk.1 a
  have hkb := fld_b x a
  have hn : ¬ x.c = 0 → skFields (skV k) c = x := fun q => by rw [← hI.r]; exact skFs_err q _ _
  repeat' ((conv => whnf); first | with_reducible (first | refine go1 (fun j q h => ?_) fun h => ?_ | refine go2 ⟨rfl, rfl⟩ (fun h => ?_) fun j h => ?_ | refine go2 ?_ (fun h => ?_) fun j h => ?_ | refine goQ ?_ (fun h => ?_) fun h => ?_) | apply go3 | apply go4 | apply go5 | ((first | apply go6 | apply go7 | apply go8 | apply go9 | apply goA) <;> intro h) | with_reducible (first | refine IdxK.mk _ rfl ?_ | refine goB ?_ fun hc => ?_ | refine goC ?_ fun hc => ?_ | refine goD ?_ fun hc => ?_ | refine goE ?_ fun hc => ?_ | apply goF | apply goG | refine goH ?_ fun b hb => ?_) | apply goI | apply goJ | apply goK | apply goL | apply goM | apply goN | apply goO | with_reducible refine goP ?_)
  all_goals try conv => whnf
  all_goals try (refine Side.mk ?_; try dsimp only)
  all_goals (try simp only [Cu_eta, beq0] at *)
  all_goals (try simp only [Cu_eta] at *)
  all_goals first | refine stay ?_ | trivial | omega | (simp (discharger := omega) only [wR]; omega) | (simp only [lnS]; omega) | (simp (discharger := omega) [-List.getD_eq_getElem?_getD, wR] <;> omega) | skip
  · exact ⟨trivial, hk.1⟩
  · rw [(hs (by assumption)).1 (by assumption)]
    refine EndP.mk [] ?_ <;> (repeat' first | trivial | rfl | exact eqS _ _ | apply andI | apply eqA | apply eqB | apply eqC | apply eqD | apply eqE | apply eqF | apply eqG | apply eqH | apply eqI)
  · exact ⟨hf.1, by rw [hf.2.1, hk.2.1]; exact hb, by rw [wi64]; omega⟩
  · obtain ⟨m, rfl, hI'⟩ := (hs (by assumption)).2 (by assumption)
    refine ⟨[], (m, _, _), hI', ?_, Nat.lt_succ_self m⟩
    refine Go.VG.Sub.mk rfl ?_ ?_ ?_ ?_ <;> (repeat' first | trivial | rfl | exact eqS _ _ | apply andI | apply eqA | apply eqB | apply eqC | apply eqD | apply eqE | apply eqF | apply eqG | apply eqH | apply eqI)
  · rw [hn (by assumption)]
    refine EndP.mk [] ?_ <;> (repeat' first | trivial | rfl | exact eqS _ _ | apply andI | apply eqA | apply eqB | apply eqC | apply eqD | apply eqE | apply eqF | apply eqG | apply eqH | apply eqI)
def sm_skFields (k : Nat) : Sm := fun args σ => match args, σ with
  | [.agg [.ptr 0 0], .int .i64 d], [.cells ([.str s_c, .int .i64 (.ofNat a_c), .int .i64 (.ofNat e_c), .int .i64 c_c])] => some (True ∧ ((Cu.mk s_c a_c e_c c_c).ok ∧ (Cu.mk s_c a_c e_c c_c).s.length ≤ 9223372036854775807 ∧ d + k + 1 = 32), .tuple [], some [.cells (eC (skFields (skV k) (Cu.mk s_c a_c e_c c_c)))])
  | _, _ => none
theorem k_skFields (k : Nat) (hv : SOK 78 (sm_skValue k)) : SOK 83 (sm_skFields k) := by
  intro args sg pre x r he hp
  unfold sm_skFields at he
  split at he <;> cases he
  · rw [viewC (hp).1]; exact f_skFields_1 (hv := hv) (hp := hp.2) ..
theorem f_skHeld0_1 (c : Cu) (n : Nat) (d : Int) (hp : 32 ≤ d) : OK 80 ([.agg [.ptr 0 0], .func (.func n) [] [], .int .i64 d]) ([.cells (eC c)]) (.tuple []) (some [.cells (eC (c.fail 33))]) := by
  refine funOK_of_vc (C := cx [(56, sm_cFail)]) (good ⟨k_cFail, trivial⟩) (fn := Tryd.f80) rfl rfl rfl rfl fun hw hs => ?_
  repeat' ((conv => whnf); first | with_reducible (first | refine go1 (fun j q h => ?_) fun h => ?_ | refine go2 ⟨rfl, rfl⟩ (fun h => ?_) fun j h => ?_ | refine go2 ?_ (fun h => ?_) fun j h => ?_ | refine goQ ?_ (fun h => ?_) fun h => ?_) | apply go3 | apply go4 | apply go5 | ((first | apply go6 | apply go7 | apply go8 | apply go9 | apply goA) <;> intro h) | with_reducible (first | refine IdxK.mk _ rfl ?_ | refine goB ?_ fun hc => ?_ | refine goC ?_ fun hc => ?_ | refine goD ?_ fun hc => ?_ | refine goE ?_ fun hc => ?_ | apply goF | apply goG | refine goH ?_ fun b hb => ?_) | apply goI | apply goJ | apply goK | apply goL | apply goM | apply goN | apply goO | with_reducible refine goP ?_)
  all_goals try conv => whnf
  all_goals try (refine Side.mk ?_; try dsimp only)
  all_goals (try simp only [Cu_eta, beq0] at *)
  all_goals (try simp only [Cu_eta] at *)
  all_goals first | refine stay ?_ | trivial | omega | (simp (discharger := omega) only [wR]; omega) | (simp only [lnS]; omega) | (simp (discharger := omega) [-List.getD_eq_getElem?_getD, wR] <;> omega) | skip
  refine EndP.mk [] ?_ <;> (repeat' first | trivial | rfl | exact eqS _ _ | apply andI | apply eqA | apply eqB | apply eqC | apply eqD | apply eqE | apply eqF | apply eqG | apply eqH | apply eqI)
def sm_skHeld0 : Sm := fun args σ => match args, σ with
  | [.agg [.ptr 0 0], .func (.func n) [] [], .int .i64 d], [.cells ([.str s_c, .int .i64 (.ofNat a_c), .int .i64 (.ofNat e_c), .int .i64 c_c])] => some (True ∧ (32 ≤ d), .tuple [], some [.cells (eC ((Cu.mk s_c a_c e_c c_c).fail 33))])
  | _, _ => none
theorem k_skHeld0 : SOK 80 sm_skHeld0 := by
  intro args sg pre x r he hp
  unfold sm_skHeld0 at he
  split at he <;> cases he
  · rw [viewC (hp).1]; exact f_skHeld0_1 (hp := hp.2) ..
theorem f_skHeldS_1 (k : Nat) (hl : SOK 81 (sm_skList k)) (hm : SOK 82 (sm_skMap k)) (hf : SOK 83 (sm_skFields k)) (c : Cu) (d : Int) (hp : c.ok ∧ c.s.length ≤ 9223372036854775807 ∧ d + k + 1 = 32) : OK 80 ([.agg [.ptr 0 0], .func (.func 81) [] [], .int .i64 d]) ([.cells (eC c)]) (.tuple []) (some [.cells (eC (skList (skV k) c))]) := by
  refine funOK_of_vc (C := cx [(81, (sm_skList k)), (82, (sm_skMap k)), (83, (sm_skFields k))]) (good ⟨hl, hm, hf, trivial⟩) (fn := Tryd.f80) rfl rfl rfl rfl fun hw hs => ?_
  repeat' ((conv => whnf); first | with_reducible (first | refine go1 (fun j q h => ?_) fun h => ?_ | refine go2 ⟨rfl, rfl⟩ (fun h => ?_) fun j h => ?_ | refine go2 ?_ (fun h => ?_) fun j h => ?_ | refine goQ ?_ (fun h => ?_) fun h => ?_) | apply go3 | apply go4 | apply go5 | ((first | apply go6 | apply go7 | apply go8 | apply go9 | apply goA) <;> intro h) | with_reducible (first | refine IdxK.mk _ rfl ?_ | refine goB ?_ fun hc => ?_ | refine goC ?_ fun hc => ?_ | refine goD ?_ fun hc => ?_ | refine goE ?_ fun hc => ?_ | apply goF | apply goG | refine goH ?_ fun b hb => ?_) | apply goI | apply goJ | apply goK | apply goL | apply goM | apply goN | apply goO | with_reducible refine goP ?_)
  all_goals try conv => whnf
  all_goals try (refine Side.mk ?_; try dsimp only)
  all_goals (try simp only [Cu_eta, beq0] at *)
  all_goals first
    | exact ⟨trivial, hp⟩
    | (exfalso; omega)
    | skip
  refine EndP.mk [] ?_ <;> (repeat' first | trivial | rfl | exact eqS _ _ | apply andI | apply eqA | apply eqB | apply eqC | apply eqD | apply eqE | apply eqF | apply eqG | apply eqH | apply eqI)
theorem f_skHeldS_2 (k : Nat) (hl : SOK 81 (sm_skList k)) (hm : SOK 82 (sm_skMap k)) (hf : SOK 83 (sm_skFields k)) (c : Cu) (d : Int) (hp : c.ok ∧ c.s.length ≤ 9223372036854775807 ∧ d + k + 1 = 32) : OK 80 ([.agg [.ptr 0 0], .func (.func 82) [] [], .int .i64 d]) ([.cells (eC c)]) (.tuple []) (some [.cells (eC (skMap (skV k) c))]) := by
  refine funOK_of_vc (C := cx [(81, (sm_skList k)), (82, (sm_skMap k)), (83, (sm_skFields k))]) (good ⟨hl, hm, hf, trivial⟩) (fn := Tryd.f80) rfl rfl rfl rfl fun hw hs => ?_
  repeat' ((conv => whnf); first | with_reducible (first | refine go1 (fun j q h => ?_) fun h => ?_ | refine go2 ⟨rfl, rfl⟩ (fun h => ?_) fun j h => ?_ | refine go2 ?_ (fun h => ?_) fun j h => ?_ | refine goQ ?_ (fun h => ?_) fun h => ?_) | apply go3 | apply go4 | apply go5 | ((first | apply go6 | apply go7 | apply go8 | apply go9 | apply goA) <;> intro h) | with_reducible (first | refine IdxK.mk _ rfl ?_ | refine goB ?_ fun hc => ?_ | refine goC ?_ fun hc => ?_ | refine goD ?_ fun hc => ?_ | refine goE ?_ fun hc => ?_ | apply goF | apply goG | refine goH ?_ fun b hb => ?_) | apply goI | apply goJ | apply goK | apply goL | apply goM | apply goN | apply goO | with_reducible refine goP ?_)
  all_goals try conv => whnf
  all_goals try (refine Side.mk ?_; try dsimp only)
  all_goals (try simp only [Cu_eta, beq0] at *)
  all_goals first
    | exact ⟨trivial, hp⟩
    | (exfalso; omega)
    | skip
  refine EndP.mk [] ?_ <;> (repeat' first | trivial | rfl | exact eqS _ _ | apply andI | apply eqA | apply eqB | apply eqC | apply eqD | apply eqE | apply eqF | apply eqG | apply eqH | apply eqI)
theorem f_skHeldS_3 (k : Nat) (hl : SOK 81 (sm_skList k)) (hm : SOK 82 (sm_skMap k)) (hf : SOK 83 (sm_skFields k)) (c : Cu) (d : Int) (hp : c.ok ∧ c.s.length ≤ 9223372036854775807 ∧ d + k + 1 = 32) : OK 80 ([.agg [.ptr 0 0], .func (.func 83) [] [], .int .i64 d]) ([.cells (eC c)]) (.tuple []) (some [.cells (eC (skFields (skV k) c))]) := by
  refine funOK_of_vc (C := cx [(81, (sm_skList k)), (82, (sm_skMap k)), (83, (sm_skFields k))]) (good ⟨hl, hm, hf, trivial⟩) (fn := Tryd.f80) rfl rfl rfl rfl fun hw hs => ?_
  repeat' ((conv => whnf); first | with_reducible (first | refine go1 (fun j q h => ?_) fun h => ?_ | refine go2 ⟨rfl, rfl⟩ (fun h => ?_) fun j h => ?_ | refine go2 ?_ (fun h => ?_) fun j h => ?_ | refine goQ ?_ (fun h => ?_) fun h => ?_) | apply go3 | apply go4 | apply go5 | ((first | apply go6 | apply go7 | apply go8 | apply go9 | apply goA) <;> intro h) | with_reducible (first | refine IdxK.mk _ rfl ?_ | refine goB ?_ fun hc => ?_ | refine goC ?_ fun hc => ?_ | refine goD ?_ fun hc => ?_ | refine goE ?_ fun hc => ?_ | apply goF | apply goG | refine goH ?_ fun b hb => ?_) | apply goI | apply goJ | apply goK | apply goL | apply goM | apply goN | apply goO | with_reducible refine goP ?_)
  all_goals try conv => whnf
  all_goals try (refine Side.mk ?_; try dsimp only)
  all_goals (try simp only [Cu_eta, beq0] at *)
  all_goals first
    | exact ⟨trivial, hp⟩
    | (exfalso; omega)
    | skip
  refine EndP.mk [] ?_ <;> (repeat' first | trivial | rfl | exact eqS _ _ | apply andI | apply eqA | apply eqB | apply eqC | apply eqD | apply eqE | apply eqF | apply eqG | apply eqH | apply eqI)
def sm_skHeldS (k : Nat) : Sm := fun args σ => match args, σ with
  | [.agg [.ptr 0 0], .func (.func 81) [] [], .int .i64 d], [.cells ([.str s_c, .int .i64 (.ofNat a_c), .int .i64 (.ofNat e_c), .int .i64 c_c])] => some (True ∧ ((Cu.mk s_c a_c e_c c_c).ok ∧ (Cu.mk s_c a_c e_c c_c).s.length ≤ 9223372036854775807 ∧ d + k + 1 = 32), .tuple [], some [.cells (eC (skList (skV k) (Cu.mk s_c a_c e_c c_c)))])
  | [.agg [.ptr 0 0], .func (.func 82) [] [], .int .i64 d], [.cells ([.str s_c, .int .i64 (.ofNat a_c), .int .i64 (.ofNat e_c), .int .i64 c_c])] => some (True ∧ ((Cu.mk s_c a_c e_c c_c).ok ∧ (Cu.mk s_c a_c e_c c_c).s.length ≤ 9223372036854775807 ∧ d + k + 1 = 32), .tuple [], some [.cells (eC (skMap (skV k) (Cu.mk s_c a_c e_c c_c)))])
  | [.agg [.ptr 0 0], .func (.func 83) [] [], .int .i64 d], [.cells ([.str s_c, .int .i64 (.ofNat a_c), .int .i64 (.ofNat e_c), .int .i64 c_c])] => some (True ∧ ((Cu.mk s_c a_c e_c c_c).ok ∧ (Cu.mk s_c a_c e_c c_c).s.length ≤ 9223372036854775807 ∧ d + k + 1 = 32), .tuple [], some [.cells (eC (skFields (skV k) (Cu.mk s_c a_c e_c c_c)))])
  | _, _ => none
theorem k_skHeldS (k : Nat) (hl : SOK 81 (sm_skList k)) (hm : SOK 82 (sm_skMap k)) (hf : SOK 83 (sm_skFields k)) : SOK 80 (sm_skHeldS k) := by
  intro args sg pre x r he hp
  unfold sm_skHeldS at he
  split at he <;> cases he
  · rw [viewC (hp).1]; exact f_skHeldS_1 (hl := hl) (hm := hm) (hf := hf) (hp := hp.2) ..
  · rw [viewC (hp).1]; exact f_skHeldS_2 (hl := hl) (hm := hm) (hf := hf) (hp := hp.2) ..
  · rw [viewC (hp).1]; exact f_skHeldS_3 (hl := hl) (hm := hm) (hf := hf) (hp := hp.2) ..
theorem f_skVal0_1 (c : Cu) (q d : Int) (hp : c.ok ∧ c.s.length ≤ 9223372036854775807 ∧ d = 32) : OK 78 ([.agg [.ptr 0 0], .int .u8 q, .int .i64 d]) ([.cells (eC c)]) (.tuple []) (some [.cells (eC (skV 0 q c))]) := by
  refine funOK_of_vc (C := cx [(58, sm_vRead), (54, sm_cByte), (73, sm_cTake), (79, sm_skText), (56, sm_cFail), (80, sm_skHeld0)]) (good ⟨k_vRead, k_cByte, k_cTake, k_skText, k_cFail, k_skHeld0, trivial⟩) (fn := Tryd.f78) rfl rfl rfl rfl fun hw hs => ?_
  repeat' ((conv => whnf); first | with_reducible (first | refine go1 (fun j q h => ?_) fun h => ?_ | refine go2 ⟨rfl, rfl⟩ (fun h => ?_) fun j h => ?_ | refine go2 ?_ (fun h => ?_) fun j h => ?_ | refine goQ ?_ (fun h => ?_) fun h => ?_) | apply go3 | apply go4 | apply go5 | ((first | apply go6 | apply go7 | apply go8 | apply go9 | apply goA) <;> intro h) | with_reducible (first | refine IdxK.mk _ rfl ?_ | refine goB ?_ fun hc => ?_ | refine goC ?_ fun hc => ?_ | refine goD ?_ fun hc => ?_ | refine goE ?_ fun hc => ?_ | apply goF | apply goG | refine goH ?_ fun b hb => ?_) | apply goI | apply goJ | apply goK | apply goL | apply goM | apply goN | apply goO | with_reducible refine goP ?_)
  all_goals try conv => whnf
  all_goals try (refine Side.mk ?_; try dsimp only)
  all_goals (try simp only [Cu_eta, beq0] at *)
  all_goals (try simp only [Cu_eta] at *)
  all_goals first | refine stay ?_ | trivial | omega | (simp (discharger := omega) only [wR]; omega) | (simp only [lnS]; omega) | (simp (discharger := omega) [-List.getD_eq_getElem?_getD, wR] <;> omega) | skip
  all_goals first
    | exact ⟨trivial, hp.1⟩
    | exact ⟨trivial, hp.1, hp.2.1⟩
    | exact hp
    | (show (_ : Int) ≤ _; omega)
    | (exfalso; omega)
    | skip
  all_goals
    have he : skV 0 q c = skV 0 q c := rfl
    conv at he => rhs; unfold skV skLeaf
    repeat (first | rw [if_pos (by omega)] at he | rw [if_neg (by omega)] at he)
    rw [he]
    refine EndP.mk [] ?_ <;> (repeat' first | trivial | rfl | exact eqS _ _ | apply andI | apply eqA | apply eqB | apply eqC | apply eqD | apply eqE | apply eqF | apply eqG | apply eqH | apply eqI)
def sm_skVal0 : Sm := fun args σ => match args, σ with
  | [.agg [.ptr 0 0], .int .u8 q, .int .i64 d], [.cells ([.str s_c, .int .i64 (.ofNat a_c), .int .i64 (.ofNat e_c), .int .i64 c_c])] => some (True ∧ ((Cu.mk s_c a_c e_c c_c).ok ∧ (Cu.mk s_c a_c e_c c_c).s.length ≤ 9223372036854775807 ∧ d = 32), .tuple [], some [.cells (eC (skV 0 q (Cu.mk s_c a_c e_c c_c)))])
  | _, _ => none
theorem k_skVal0 : SOK 78 sm_skVal0 := by
  intro args sg pre x r he hp
  unfold sm_skVal0 at he
  split at he <;> cases he
  · rw [viewC (hp).1]; exact f_skVal0_1 (hp := hp.2) ..
theorem f_skValS_1 (k : Nat) (hh : SOK 80 (sm_skHeldS k)) (c : Cu) (q d : Int) (hp : c.ok ∧ c.s.length ≤ 9223372036854775807 ∧ d + k + 1 = 32) : OK 78 ([.agg [.ptr 0 0], .int .u8 q, .int .i64 d]) ([.cells (eC c)]) (.tuple []) (some [.cells (eC (skV (k + 1) q c))]) := by
  refine funOK_of_vc (C := cx [(58, sm_vRead), (54, sm_cByte), (73, sm_cTake), (79, sm_skText), (56, sm_cFail), (80, (sm_skHeldS k))]) (good ⟨k_vRead, k_cByte, k_cTake, k_skText, k_cFail, hh, trivial⟩) (fn := Tryd.f78) rfl rfl rfl rfl fun hw hs => ?_
  repeat' ((conv => whnf); first | with_reducible (first | refine go1 (fun j q h => ?_) fun h => ?_ | refine go2 ⟨rfl, rfl⟩ (fun h => ?_) fun j h => ?_ | refine go2 ?_ (fun h => ?_) fun j h => ?_ | refine goQ ?_ (fun h => ?_) fun h => ?_) | apply go3 | apply go4 | apply go5 | ((first | apply go6 | apply go7 | apply go8 | apply go9 | apply goA) <;> intro h) | with_reducible (first | refine IdxK.mk _ rfl ?_ | refine goB ?_ fun hc => ?_ | refine goC ?_ fun hc => ?_ | refine goD ?_ fun hc => ?_ | refine goE ?_ fun hc => ?_ | apply goF | apply goG | refine goH ?_ fun b hb => ?_) | apply goI | apply goJ | apply goK | apply goL | apply goM | apply goN | apply goO | with_reducible refine goP ?_)
  all_goals try conv => whnf
  all_goals try (refine Side.mk ?_; try dsimp only)
  all_goals (try simp only [Cu_eta, beq0] at *)
  all_goals (try simp only [Cu_eta] at *)
  all_goals first | refine stay ?_ | trivial | omega | (simp (discharger := omega) only [wR]; omega) | (simp only [lnS]; omega) | (simp (discharger := omega) [-List.getD_eq_getElem?_getD, wR] <;> omega) | skip
  all_goals first
    | exact ⟨trivial, hp.1⟩
    | exact ⟨trivial, hp.1, hp.2.1⟩
    | exact hp
    | (show (_ : Int) ≤ _; omega)
    | (exfalso; omega)
    | skip
  all_goals
    have he : skV (k + 1) q c = skV (k + 1) q c := rfl
    conv at he => rhs; unfold skV skLeaf
    repeat (first | rw [if_pos (by omega)] at he | rw [if_neg (by omega)] at he)
    rw [he]
    refine EndP.mk [] ?_ <;> (repeat' first | trivial | rfl | exact eqS _ _ | apply andI | apply eqA | apply eqB | apply eqC | apply eqD | apply eqE | apply eqF | apply eqG | apply eqH | apply eqI)
def sm_skValS (k : Nat) : Sm := fun args σ => match args, σ with
  | [.agg [.ptr 0 0], .int .u8 q, .int .i64 d], [.cells ([.str s_c, .int .i64 (.ofNat a_c), .int .i64 (.ofNat e_c), .int .i64 c_c])] => some (True ∧ ((Cu.mk s_c a_c e_c c_c).ok ∧ (Cu.mk s_c a_c e_c c_c).s.length ≤ 9223372036854775807 ∧ d + k + 1 = 32), .tuple [], some [.cells (eC (skV (k + 1) q (Cu.mk s_c a_c e_c c_c)))])
  | _, _ => none
theorem k_skValS (k : Nat) (hh : SOK 80 (sm_skHeldS k)) : SOK 78 (sm_skValS k) := by
  intro args sg pre x r he hp
  unfold sm_skValS at he
  split at he <;> cases he
  · rw [viewC (hp).1]; exact f_skValS_1 (hh := hh) (hp := hp.2) ..
theorem k_skValue : ∀ k, SOK 78 (sm_skValue k)
  | 0 => by
    intro args sg pre x r he hp
    unfold sm_skValue at he
    split at he <;> cases he
    exact k_skVal0 _ _ _ _ _ rfl ⟨trivial, hp.1, hp.2.1, by have := hp.2.2; omega⟩
  | k + 1 => by
    have hv := k_skValue k
    have hi := k_skInner k hv
    intro args sg pre x r he hp
    unfold sm_skValue at he
    split at he <;> cases he
    exact k_skValS k (k_skHeldS k (k_skList k hi) (k_skMap k hi) (k_skFields k hv)) _ _ _ _ _ rfl ⟨trivial, hp.1, hp.2.1, by have := hp.2.2; omega⟩
theorem f_skip_1 (k : Nat) (hv : SOK 78 (sm_skValue k)) (c : Cu) (q d : Int) (hp : c.ok ∧ c.s.length ≤ 9223372036854775807 ∧ d + k = 32) : OK 75 ([.ptr 0 0, .int .u8 q, .int .i64 d]) ([.cells (eC c)]) (.tuple []) (some [.cells (eC (skV k q c))]) := by
  refine funOK_of_vc (C := cx [(78, (sm_skValue k))]) (good ⟨hv, trivial⟩) (fn := Tryd.f75) rfl rfl rfl rfl fun hw hs => ?_
  repeat' ((conv => whnf); first | with_reducible (first | refine go1 (fun j q h => ?_) fun h => ?_ | refine go2 ⟨rfl, rfl⟩ (fun h => ?_) fun j h => ?_ | refine go2 ?_ (fun h => ?_) fun j h => ?_ | refine goQ ?_ (fun h => ?_) fun h => ?_) | apply go3 | apply go4 | apply go5 | ((first | apply go6 | apply go7 | apply go8 | apply go9 | apply goA) <;> intro h) | with_reducible (first | refine IdxK.mk _ rfl ?_ | refine goB ?_ fun hc => ?_ | refine goC ?_ fun hc => ?_ | refine goD ?_ fun hc => ?_ | refine goE ?_ fun hc => ?_ | apply goF | apply goG | refine goH ?_ fun b hb => ?_) | apply goI | apply goJ | apply goK | apply goL | apply goM | apply goN | apply goO | with_reducible refine goP ?_)
  all_goals try conv => whnf
  all_goals try (refine Side.mk ?_; try dsimp only)
  all_goals (try simp only [Cu_eta, beq0] at *)
  all_goals first
    | exact ⟨trivial, hp⟩
    | exact hp
    | skip
  refine EndP.mk [] ?_ <;> (repeat' first | trivial | rfl | exact eqS _ _ | apply andI | apply eqA | apply eqB | apply eqC | apply eqD | apply eqE | apply eqF | apply eqG | apply eqH | apply eqI)
def sm_skip (k : Nat) : Sm := fun args σ => match args, σ with
  | [.ptr 0 0, .int .u8 q, .int .i64 d], [.cells ([.str s_c, .int .i64 (.ofNat a_c), .int .i64 (.ofNat e_c), .int .i64 c_c])] => some (True ∧ ((Cu.mk s_c a_c e_c c_c).ok ∧ (Cu.mk s_c a_c e_c c_c).s.length ≤ 9223372036854775807 ∧ d + k = 32), .tuple [], some [.cells (eC (skV k q (Cu.mk s_c a_c e_c c_c)))])
  | _, _ => none
theorem k_skip (k : Nat) (hv : SOK 78 (sm_skValue k)) : SOK 75 (sm_skip k) := by
  intro args sg pre x r he hp
  unfold sm_skip at he
  split at he <;> cases he
  · rw [viewC (hp).1]; exact f_skip_1 (hv := hv) (hp := hp.2) ..
end Go.Proofs.YtcgjkjabcdeagaaDoor
