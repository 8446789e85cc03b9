/-
  Tags and fields of Protobuf: what the program reads.
-/
import Derived.Test.YtkkfdkfopdjomaaDoorCRt
set_option linter.unusedSimpArgs false
set_option linter.unusedVariables false
set_option maxHeartbeats 4000000
namespace Go.Proofs.YtkkfdkfopdjomaaDoor
open Go Go.VG
set_option maxRecDepth 100000
def mayT (n w : Int) : Bool := decide ((1 ≤ n ∧ n ≤ 536870911) ∧ (w = 0 ∨ w = 1 ∨ w = 2 ∨ w = 5))
def tagN (u : Nat) : Int := if u / 4294967296 ≠ 0 then 0 else ((u / 8 : Nat) : Int)
def tagW (u : Nat) : Int := if u / 4294967296 ≠ 0 then 0 else ((u % 8 : Nat) : Int)
theorem shr_n (u k : Nat) (hk : k ≤ 63) : iShr .u64 (u : Int) (k : Int) = ((u / 2 ^ k : Nat) : Int) := by
  rw [iShr_nat, Nat.min_eq_left (by show k ≤ 64; omega)]
theorem and_7 {u : Nat} (h : u ≤ 18446744073709551615) : iAnd .u64 (u : Int) 7 = ((u % 8 : Nat) : Int) := by
  show IntKind.u64.wrap ((BitVec.ofInt 64 (u : Int) &&& BitVec.ofInt 64 7).toNat : Int) = _
  rw [BitVec.ofInt_natCast, show BitVec.ofInt 64 7 = BitVec.ofNat 64 7 from rfl, BitVec.toNat_and, BitVec.toNat_ofNat, BitVec.toNat_ofNat, Nat.mod_eq_of_lt (by omega),
    show u &&& 7 % 2 ^ 64 = u % 8 from Nat.and_two_pow_sub_one_eq_mod u 3, wu64]
  omega
theorem f_pMay_1 (n w : Int) (hp : True) : OK 44 ([.agg [.int .i64 n, .int .i64 w]]) ([]) (.bool (mayT n w)) (none) := by
  refine funOK_of_vc (C := cx []) (good trivial) (fn := Tryd.f44) rfl rfl rfl rfl fun hw hs => ?_
  repeat' ((conv => whnf); first | with_reducible (first | refine go1 (fun j q h => ?_) fun h => ?_ | refine go2 ⟨rfl, rfl⟩ (fun h => ?_) fun j h => ?_ | refine go2 ?_ (fun h => ?_) fun j h => ?_ | refine goQ ?_ (fun h => ?_) fun h => ?_) | apply go3 | apply go4 | apply go5 | ((first | apply go6 | apply go7 | apply go8 | apply go9 | apply goA) <;> intro h) | with_reducible (first | refine IdxK.mk _ rfl ?_ | refine goB ?_ fun hc => ?_ | refine goC ?_ fun hc => ?_ | refine goD ?_ fun hc => ?_ | refine goE ?_ fun hc => ?_ | apply goF | apply goG | refine goH ?_ fun b hb => ?_) | apply goI | apply goJ | apply goK | apply goL | apply goM | apply goN | apply goO | with_reducible refine goP ?_)
  all_goals try conv => whnf
  all_goals try (refine Side.mk ?_; try dsimp only)
  all_goals (try simp only [Cu_eta] at *)
  all_goals first | refine stay ?_ | trivial | omega | (simp (discharger := omega) only [wR]; omega) | (simp only [lnS]; omega) | (simp (discharger := omega) [-List.getD_eq_getElem?_getD, wR] <;> omega) | skip
  all_goals first
    | (exfalso; omega)
    | (show EndP _ _ _ _ _ _
       have he : mayT n w = mayT n w := rfl
       conv at he => rhs; unfold mayT
       first | rw [decide_eq_true (by omega)] at he | rw [decide_eq_false (by omega)] at he
       rw [he]
       refine EndP.mk [] ?_ <;> (repeat' first | trivial | rfl | exact eqS _ _ | apply andI | apply eqA | apply eqB | apply eqC | apply eqD | apply eqE | apply eqF | apply eqG | apply eqH | apply eqI)
       done)
def sm_pMay : Sm := fun args σ => match args, σ with
  | [.agg [.int .i64 n, .int .i64 w]], [] => some (True, .bool (mayT n w), none)
  | _, _ => none
theorem k_pMay : SOK 44 sm_pMay := by
  intro args sg pre x r he hp
  unfold sm_pMay at he
  split at he <;> cases he
  · exact f_pMay_1 (hp := hp) ..
theorem f_pOf_1 (q : Int) (hp : 0 ≤ q ∧ q ≤ 18446744073709551615) : OK 74 ([.int .u64 q]) ([]) (.agg [.int .i64 (tagN q.toNat), .int .i64 (tagW q.toNat)]) (none) := by
  refine funOK_of_vc (C := cx []) (good trivial) (fn := Tryd.f74) rfl rfl rfl rfl fun hw hs => ?_
  obtain ⟨u, rfl⟩ := Int.eq_ofNat_of_zero_le hp.1
  rw [Int.toNat_natCast]
  have h32 : iShr .u64 (u : Int) 32 = ((u / 4294967296 : Nat) : Int) := shr_n u 32 (by decide)
  have h3 : iShr .u64 (u : Int) 3 = ((u / 8 : Nat) : Int) := shr_n u 3 (by decide)
  have h7 := and_7 (u := u) (by omega)
  repeat' ((conv => whnf); first | with_reducible (first | refine go1 (fun j q h => ?_) fun h => ?_ | refine go2 ⟨rfl, rfl⟩ (fun h => ?_) fun j h => ?_ | refine go2 ?_ (fun h => ?_) fun j h => ?_ | refine goQ ?_ (fun h => ?_) fun h => ?_) | apply go3 | apply go4 | apply go5 | ((first | apply go6 | apply go7 | apply go8 | apply go9 | apply goA) <;> intro h) | with_reducible (first | refine IdxK.mk _ rfl ?_ | refine goB ?_ fun hc => ?_ | refine goC ?_ fun hc => ?_ | refine goD ?_ fun hc => ?_ | refine goE ?_ fun hc => ?_ | apply goF | apply goG | refine goH ?_ fun b hb => ?_) | apply goI | apply goJ | apply goK | apply goL | apply goM | apply goN | apply goO | with_reducible refine goP ?_)
  all_goals try conv => whnf
  all_goals try (refine Side.mk ?_; try dsimp only)
  all_goals (try simp only [h32, h3, h7] at *)
  all_goals (try simp only [Cu_eta] at *)
  all_goals first | refine stay ?_ | trivial | omega | (simp (discharger := omega) only [wR]; omega) | (simp only [lnS]; omega) | (simp (discharger := omega) [-List.getD_eq_getElem?_getD, wR] <;> omega) | skip
  all_goals
    unfold tagN tagW
    first
    | (rw [if_pos (by omega), if_pos (by omega)]
       (refine EndP.mk [] ?_ <;> (repeat' first | trivial | rfl | exact eqS _ _ | apply andI | apply eqA | apply eqB | apply eqC | apply eqD | apply eqE | apply eqF | apply eqG | apply eqH | apply eqI))
       done)
    | (rw [if_neg (by omega), if_neg (by omega)]
       (refine EndP.mk [] ?_ <;> (repeat' first | trivial | rfl | exact eqS _ _ | apply andI | apply eqA | apply eqB | apply eqC | apply eqD | apply eqE | apply eqF | apply eqG | apply eqH | apply eqI))
       all_goals (first | omega | (simp (discharger := omega) only [wR]; omega) | (simp only [lnS]; omega) | (simp (discharger := omega) [-List.getD_eq_getElem?_getD, wR] <;> omega)))
def sm_pOf : Sm := fun args σ => match args, σ with
  | [.int .u64 q], [] => some (0 ≤ q ∧ q ≤ 18446744073709551615, .agg [.int .i64 (tagN q.toNat), .int .i64 (tagW q.toNat)], none)
  | _, _ => none
theorem k_pOf : SOK 74 sm_pOf := by
  intro args sg pre x r he hp
  unfold sm_pOf at he
  split at he <;> cases he
  · exact f_pOf_1 (hp := hp) ..
structure Pf where
  no : Int
  wi : Int
  num : Int
  text : List UInt8
instance : Inhabited Pf := ⟨⟨0, 0, 0, []⟩⟩
abbrev ePc (f : Pf) : List V := [.int .i64 f.no, .int .i64 f.wi, .int .u64 f.num, .str f.text]
abbrev ePf (f : Pf) : V := .agg (ePc f)
theorem viewPf {n w u : Int} {t : List UInt8} (_ : True) : V.agg [.int .i64 n, .int .i64 w, .int .u64 u, .str t] = ePf ⟨n, w, u, t⟩ := rfl
def Cu.tagged (c : Cu) : Bool := decide (c.vread.2.c = 0 ∧ mayT (tagN c.vread.1) (tagW c.vread.1) = true)
def Cu.tag (c : Cu) : (Int × Int) × Cu := if c.vread.2.c ≠ 0 then ((0, 0), c.vread.2) else if mayT (tagN c.vread.1) (tagW c.vread.1) = true then ((tagN c.vread.1, tagW c.vread.1), c.vread.2) else ((0, 0), c.vread.2.fail 14)
def nxV (f : Pf) (c : Cu) : Pf := if f.wi = 0 then { f with num := c.vread.1 } else if f.wi = 1 then { f with num := c.low64.1 } else if f.wi = 5 then { f with num := c.low32.1 } else if f.wi = 2 then { f with text := c.text.1 } else f
def nxC (f : Pf) (c : Cu) : Cu := if f.wi = 0 then c.vread.2 else if f.wi = 1 then c.low64.2 else if f.wi = 5 then c.low32.2 else if f.wi = 2 then c.text.2 else c
def Cu.nxtC (c : Cu) : Cu := nxC ⟨c.tag.1.1, c.tag.1.2, 0, []⟩ c.tag.2
def Cu.nxt (c : Cu) : Pf := if c.nxtC.c ≠ 0 then default else nxV ⟨c.tag.1.1, c.tag.1.2, 0, []⟩ c.tag.2
theorem mayT_0 : mayT 0 0 = false := by decide
theorem f_pTagRead_1 (c : Cu) (hp : c.ok) : OK 65 ([.ptr 0 0]) ([.cells (eC c)]) (.agg [.int .i64 c.tag.1.1, .int .i64 c.tag.1.2]) (some [.cells (eC c.tag.2)]) := by
  refine funOK_of_vc (C := cx [(66, sm_vRead), (49, sm_cErr), (74, sm_pOf), (44, sm_pMay), (75, sm_cFail)]) (good ⟨k_vRead, k_cErr, k_pOf, k_pMay, k_cFail, trivial⟩) (fn := Tryd.f65) rfl rfl rfl rfl fun hw hs => ?_
  have h1 := @vread_lt c
  repeat' ((conv => whnf); first | with_reducible (first | refine go1 (fun j q h => ?_) fun h => ?_ | refine go2 ⟨rfl, rfl⟩ (fun h => ?_) fun j h => ?_ | refine go2 ?_ (fun h => ?_) fun j h => ?_ | refine goQ ?_ (fun h => ?_) fun h => ?_) | apply go3 | apply go4 | apply go5 | ((first | apply go6 | apply go7 | apply go8 | apply go9 | apply goA) <;> intro h) | with_reducible (first | refine IdxK.mk _ rfl ?_ | refine goB ?_ fun hc => ?_ | refine goC ?_ fun hc => ?_ | refine goD ?_ fun hc => ?_ | refine goE ?_ fun hc => ?_ | apply goF | apply goG | refine goH ?_ fun b hb => ?_) | apply goI | apply goJ | apply goK | apply goL | apply goM | apply goN | apply goO | with_reducible refine goP ?_)
  all_goals try conv => whnf
  all_goals try (refine Side.mk ?_; try dsimp only)
  all_goals (try simp only [Int.toNat_natCast] at *)
  all_goals (try simp only [Cu_eta] at *)
  all_goals first | refine stay ?_ | trivial | omega | (simp (discharger := omega) only [wR]; omega) | (simp only [lnS]; omega) | (simp (discharger := omega) [-List.getD_eq_getElem?_getD, wR] <;> omega) | skip
  all_goals
    show EndP _ _ _ _ _ _
    have he : c.tag = c.tag := rfl
    conv at he => rhs; unfold Cu.tag
    first
    | rw [if_pos (by assumption)] at he
    | (rw [if_neg (by omega)] at he
       first
       | (have hm : mayT (tagN c.vread.1) (tagW c.vread.1) = true := decide_eq_true (by assumption)
          rw [if_pos hm] at he)
       | (have hm : mayT (tagN c.vread.1) (tagW c.vread.1) = false := decide_eq_false (by assumption)
          rw [if_neg (by rw [hm]; decide)] at he)
       | (have h := ‹(tagN c.vread.1 == 0 && tagW c.vread.1 == 0) = true›
          simp only [Bool.and_eq_true, beq_iff_eq] at h
          rw [if_neg (by rw [h.1, h.2]; decide)] at he))
    rw [he]
    refine EndP.mk [] ?_ <;> (repeat' first | trivial | rfl | exact eqS _ _ | apply andI | apply eqA | apply eqB | apply eqC | apply eqD | apply eqE | apply eqF | apply eqG | apply eqH | apply eqI)
def sm_pTagRead : Sm := fun args σ => match args, σ with
  | [.ptr 0 0], [.cells ([.str s_c, .int .i64 (.ofNat a_c), .int .i64 (.ofNat e_c), .int .i64 c_c])] => some (True ∧ ((Cu.mk s_c a_c e_c c_c).ok), .agg [.int .i64 (Cu.mk s_c a_c e_c c_c).tag.1.1, .int .i64 (Cu.mk s_c a_c e_c c_c).tag.1.2], some [.cells (eC (Cu.mk s_c a_c e_c c_c).tag.2)])
  | _, _ => none
theorem k_pTagRead : SOK 65 sm_pTagRead := by
  intro args sg pre x r he hp
  unfold sm_pTagRead at he
  split at he <;> cases he
  · rw [viewC (hp).1]; exact f_pTagRead_1 (hp := hp.2) ..
theorem f_pText_1 (c : Cu) (hp : c.ok ∧ c.s.length ≤ 9223372036854775807) : OK 69 ([.ptr 0 0]) ([.cells (eC c)]) (.str c.text.1) (some [.cells (eC c.text.2)]) := by
  refine funOK_of_vc (C := cx [(66, sm_vRead), (49, sm_cErr), (58, sm_cLeft), (75, sm_cFail), (77, sm_cTake)]) (good ⟨k_vRead, k_cErr, k_cLeft, k_cFail, k_cTake, trivial⟩) (fn := Tryd.f69) rfl rfl rfl rfl fun hw hs => ?_
  obtain ⟨hp, hb⟩ := hp
  have h1 := @vread_lt c
  have hv := vread_ok hp
  have hf := fail_ok hv.1 1
  have hl : c.vread.2.left = (c.vread.2.e : Int) - c.vread.2.p := rfl
  have hw1 := hv.1.1
  have hw2 := hv.1.2
  have hs1 : c.vread.2.s.length = c.s.length := by rw [hv.2.1]
  have hwl : IntKind.u64.wrap c.vread.2.left = c.vread.2.left := by rw [hl, wu64]; omega
  repeat' ((conv => whnf); first | with_reducible (first | refine go1 (fun j q h => ?_) fun h => ?_ | refine go2 ⟨rfl, rfl⟩ (fun h => ?_) fun j h => ?_ | refine go2 ?_ (fun h => ?_) fun j h => ?_ | refine goQ ?_ (fun h => ?_) fun h => ?_) | apply go3 | apply go4 | apply go5 | ((first | apply go6 | apply go7 | apply go8 | apply go9 | apply goA) <;> intro h) | with_reducible (first | refine IdxK.mk _ rfl ?_ | refine goB ?_ fun hc => ?_ | refine goC ?_ fun hc => ?_ | refine goD ?_ fun hc => ?_ | refine goE ?_ fun hc => ?_ | apply goF | apply goG | refine goH ?_ fun b hb => ?_) | apply goI | apply goJ | apply goK | apply goL | apply goM | apply goN | apply goO | with_reducible refine goP ?_)
  all_goals try conv => whnf
  all_goals try (refine Side.mk ?_; try dsimp only)
  all_goals (try simp only [Int.toNat_natCast, hwl] at *)
  all_goals (try simp only [Cu_eta] at *)
  all_goals first | refine stay ?_ | trivial | omega | (simp (discharger := omega) only [wR]; omega) | (simp only [lnS]; omega) | (simp (discharger := omega) [-List.getD_eq_getElem?_getD, wR] <;> omega) | skip
  all_goals first
    | exact ⟨trivial, hv.1⟩
    | exact ⟨trivial, hf.1⟩
    | (show EndP _ _ _ _ _ _
       have he : c.text = c.text := rfl
       conv at he => rhs; unfold Cu.text
       dsimp only at he
       first | rw [if_pos ⟨by assumption, by omega⟩] at he | rw [if_neg (by omega)] at he
       rw [he])
    | skip
  · have hfc : ¬ (c.vread.2.fail 1).c = 0 := by
      unfold Cu.fail; rw [if_pos (by assumption)]; exact (by decide : ¬ (1 : Int) = 0)
    have ht := err_take hfc (IntKind.i64.wrap c.vread.1)
    simp only [ht.1, ht.2]
    refine EndP.mk [] ?_ <;> (repeat' first | trivial | rfl | exact eqS _ _ | apply andI | apply eqA | apply eqB | apply eqC | apply eqD | apply eqE | apply eqF | apply eqG | apply eqH | apply eqI)
  · have hwn : IntKind.i64.wrap c.vread.1 = c.vread.1 := by rw [wi64]; omega
    simp only [hwn]
    refine EndP.mk [] ?_ <;> (repeat' first | trivial | rfl | exact eqS _ _ | apply andI | apply eqA | apply eqB | apply eqC | apply eqD | apply eqE | apply eqF | apply eqG | apply eqH | apply eqI)
  · have ht := err_take (c := c.vread.2) (by assumption)
    simp only [(ht _).1, (ht _).2]
    refine EndP.mk [] ?_ <;> (repeat' first | trivial | rfl | exact eqS _ _ | apply andI | apply eqA | apply eqB | apply eqC | apply eqD | apply eqE | apply eqF | apply eqG | apply eqH | apply eqI)
def sm_pText : Sm := fun args σ => match args, σ with
  | [.ptr 0 0], [.cells ([.str s_c, .int .i64 (.ofNat a_c), .int .i64 (.ofNat e_c), .int .i64 c_c])] => some (True ∧ ((Cu.mk s_c a_c e_c c_c).ok ∧ (Cu.mk s_c a_c e_c c_c).s.length ≤ 9223372036854775807), .str (Cu.mk s_c a_c e_c c_c).text.1, some [.cells (eC (Cu.mk s_c a_c e_c c_c).text.2)])
  | _, _ => none
theorem k_pText : SOK 69 sm_pText := by
  intro args sg pre x r he hp
  unfold sm_pText at he
  split at he <;> cases he
  · rw [viewC (hp).1]; exact f_pText_1 (hp := hp.2) ..
theorem tag_ok {c : Cu} (h : c.ok) : c.tag.2.ok ∧ c.tag.2.s = c.s ∧ c.tag.2.e = c.e := by
  have hv := vread_ok h
  have hf := fail_ok hv.1 14
  unfold Cu.tag
  repeat' split
  · exact hv
  · exact hv
  · exact ⟨hf.1, hf.2.1.trans hv.2.1, hf.2.2.1.trans hv.2.2⟩
theorem textP_ok {c : Cu} (h : c.ok) : c.text.2.ok ∧ c.text.2.s = c.s ∧ c.text.2.e = c.e := by
  have hv := vread_ok h
  have hf := fail_ok hv.1 1
  have hq := pass_ok hv.1 c.vread.1
  unfold Cu.text
  dsimp only
  split
  · exact ⟨hf.1, hf.2.1.trans hv.2.1, hf.2.2.1.trans hv.2.2⟩
  · exact ⟨hq.1, hq.2.1.trans hv.2.1, hq.2.2.trans hv.2.2⟩
theorem nxC_ok {c : Cu} (h : c.ok) (f : Pf) : (nxC f c).ok ∧ (nxC f c).s = c.s ∧ (nxC f c).e = c.e := by
  have hv := vread_ok h
  have ht := textP_ok h
  have h8 := pass_ok h 8
  have h4 := pass_ok h 4
  unfold nxC
  repeat' split
  · exact hv
  · exact h8
  · exact h4
  · exact ht
  · exact ⟨h, rfl, rfl⟩
theorem nxt_ok {c : Cu} (h : c.ok) : c.nxtC.ok ∧ c.nxtC.s = c.s ∧ c.nxtC.e = c.e := by
  have h1 := tag_ok h
  have h2 := nxC_ok h1.1 ⟨c.tag.1.1, c.tag.1.2, 0, []⟩
  exact ⟨h2.1, h2.2.1.trans h1.2.1, h2.2.2.trans h1.2.2⟩
theorem f_pNext_1 (c : Cu) (hp : c.ok ∧ c.s.length ≤ 9223372036854775807) : OK 59 ([.ptr 0 0]) ([.cells (eC c)]) (ePf c.nxt) (some [.cells (eC c.nxtC)]) := by
  refine funOK_of_vc (C := cx [(65, sm_pTagRead), (66, sm_vRead), (67, sm_rLow), (68, sm_rLow32), (69, sm_pText), (49, sm_cErr)]) (good ⟨k_pTagRead, k_vRead, k_rLow, k_rLow32, k_pText, k_cErr, trivial⟩) (fn := Tryd.f59) rfl rfl rfl rfl fun hw hs => ?_
  obtain ⟨hp, hb⟩ := hp
  have ht := tag_ok hp
  have hl : c.tag.2.s.length ≤ 9223372036854775807 := by rw [ht.2.1]; exact hb
  have h32 : c.tag.2.low32.1 < 4294967296 := by
    have h1 := lowR_lt (c.tag.2.takeV 4)
    have h2 := take4_len c.tag.2
    have h3 := Nat.pow_le_pow_right (n := 256) (by decide) h2
    have h4 : (256 : Nat) ^ 4 = 4294967296 := by decide
    show lowR _ < _
    omega
  have hw32 : IntKind.u64.wrap (c.tag.2.low32.1 : Int) = c.tag.2.low32.1 := by rw [wu64]; omega
  repeat' ((conv => whnf); first | with_reducible (first | refine go1 (fun j q h => ?_) fun h => ?_ | refine go2 ⟨rfl, rfl⟩ (fun h => ?_) fun j h => ?_ | refine go2 ?_ (fun h => ?_) fun j h => ?_ | refine goQ ?_ (fun h => ?_) fun h => ?_) | apply go3 | apply go4 | apply go5 | ((first | apply go6 | apply go7 | apply go8 | apply go9 | apply goA) <;> intro h) | with_reducible (first | refine IdxK.mk _ rfl ?_ | refine goB ?_ fun hc => ?_ | refine goC ?_ fun hc => ?_ | refine goD ?_ fun hc => ?_ | refine goE ?_ fun hc => ?_ | apply goF | apply goG | refine goH ?_ fun b hb => ?_) | apply goI | apply goJ | apply goK | apply goL | apply goM | apply goN | apply goO | with_reducible refine goP ?_)
  all_goals try conv => whnf
  all_goals try (refine Side.mk ?_; try dsimp only)
  all_goals (try simp only [hw32] at *)
  all_goals (try simp only [Cu_eta] at *)
  all_goals first | refine stay ?_ | trivial | omega | (simp (discharger := omega) only [wR]; omega) | (simp only [lnS]; omega) | (simp (discharger := omega) [-List.getD_eq_getElem?_getD, wR] <;> omega) | skip
  all_goals first
    | exact ⟨trivial, ht.1⟩
    | exact ⟨trivial, ht.1, hl⟩
    | (show EndP _ _ _ _ _ _
       have he : c.nxtC = c.nxtC := rfl
       conv at he => rhs; unfold Cu.nxtC nxC; dsimp only
       repeat (first | rw [if_pos (by assumption)] at he | rw [if_neg (by assumption)] at he)
       have hf : c.nxt = c.nxt := rfl
       conv at hf => rhs; unfold Cu.nxt nxV; dsimp only
       rw [he] at hf
       first
       | (rw [if_neg (by omega)] at hf
          repeat (first | rw [if_pos (by assumption)] at hf | rw [if_neg (by assumption)] at hf))
       | rw [if_pos (by assumption)] at hf
       rw [he, hf]
       (refine EndP.mk [] ?_ <;> (repeat' first | trivial | rfl | exact eqS _ _ | apply andI | apply eqA | apply eqB | apply eqC | apply eqD | apply eqE | apply eqF | apply eqG | apply eqH | apply eqI))
       done)
def sm_pNext : Sm := fun args σ => match args, σ with
  | [.ptr 0 0], [.cells ([.str s_c, .int .i64 (.ofNat a_c), .int .i64 (.ofNat e_c), .int .i64 c_c])] => some (True ∧ ((Cu.mk s_c a_c e_c c_c).ok ∧ (Cu.mk s_c a_c e_c c_c).s.length ≤ 9223372036854775807), ePf (Cu.mk s_c a_c e_c c_c).nxt, some [.cells (eC (Cu.mk s_c a_c e_c c_c).nxtC)])
  | _, _ => none
theorem k_pNext : SOK 59 sm_pNext := by
  intro args sg pre x r he hp
  unfold sm_pNext at he
  split at he <;> cases he
  · rw [viewC (hp).1]; exact f_pNext_1 (hp := hp.2) ..
end Go.Proofs.YtkkfdkfopdjomaaDoor
