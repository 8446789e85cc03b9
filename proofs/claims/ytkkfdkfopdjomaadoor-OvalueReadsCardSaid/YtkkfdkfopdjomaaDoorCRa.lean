/-
  Reading of numbers: whatever bytes there are.
-/
import Derived.Test.YtkkfdkfopdjomaaDoorCWb
set_option linter.unusedSimpArgs false
set_option linter.unusedVariables false
set_option maxHeartbeats 4000000
namespace Go.Proofs.YtkkfdkfopdjomaaDoor
open Go Go.VG
set_option maxRecDepth 100000
/-! the model -/
def vrGo : Nat → Nat → Nat → Cu → Nat × Cu
  | 0, _, _, c => (0, c.fail 4)
  | j + 1, i, u, c =>
    if c.byte.c ≠ 0 then (0, c.byte)
    else if i = 9 ∧ c.byteV.toNat > 1 then (0, c.byte.fail 4)
    else if c.byteV.toNat < 128 then (u + c.byteV.toNat * 2 ^ (7 * i), c.byte)
    else vrGo j (i + 1) (u + (c.byteV.toNat - 128) * 2 ^ (7 * i)) c.byte
def Cu.vread (c : Cu) : Nat × Cu := vrGo 10 0 0 c
def zag (u : Nat) : Int := if u % 2 = 0 then ((u / 2 : Nat) : Int) else -((u / 2 : Nat) : Int) - 1
def Cu.takeV (c : Cu) (n : Int) : List UInt8 := if c.may n = true then (c.s.drop c.p).take n.toNat else []
def Cu.text (c : Cu) : List UInt8 × Cu :=
  let v := c.vread
  if v.2.c = 0 ∧ (v.1 : Int) > v.2.left then ([], v.2.fail 1) else (v.2.takeV v.1, v.2.pass v.1)
def lowR : List UInt8 → Nat
  | [] => 0
  | b :: s => b.toNat + 256 * lowR s
def Cu.low64 (c : Cu) : Nat × Cu := (lowR (c.takeV 8), c.pass 8)
/-! laws of numbers -/
theorem pow7 {i : Nat} (hi : i ≤ 8) : 2 ^ (7 * i) ≤ 72057594037927936 ∧ 0 < 2 ^ (7 * i) := by
  constructor
  · exact Nat.le_trans (Nat.pow_le_pow_right (by omega) (show 7 * i ≤ 56 by omega)) (by decide)
  · exact Nat.two_pow_pos _
theorem or_shl {u b i : Nat} (hi : i ≤ 9) (hu : u < 2 ^ (7 * i)) (hb : b < 128) (h9 : i = 9 → b ≤ 1) :
    iOr .u64 (u : Int) (iShl .u64 (IntKind.u64.wrap (b : Int)) (IntKind.i64.wrap (7 * (i : Int)))) = ((u + b * 2 ^ (7 * i) : Nat) : Int) ∧ u + b * 2 ^ (7 * i) < 18446744073709551616 := by
  have hlt : u + b * 2 ^ (7 * i) < 18446744073709551616 := by
    by_cases h : i = 9
    · subst h
      have := h9 rfl
      have e : 2 ^ (7 * 9) = 9223372036854775808 := by decide
      rw [e] at hu ⊢; omega
    · have h8 := pow7 (i := i) (by omega)
      have := Nat.mul_le_mul_right (2 ^ (7 * i)) (show b ≤ 127 by omega)
      omega
  refine ⟨?_, hlt⟩
  rw [show IntKind.i64.wrap (7 * (i : Int)) = ((7 * i : Nat) : Int) by rw [wi64]; omega, show IntKind.u64.wrap (b : Int) = (b : Int) by rw [wu64]; omega]
  have e1 : iShl .u64 (b : Int) ((7 * i : Nat) : Int) = ((b * 2 ^ (7 * i) : Nat) : Int) := by
    show IntKind.u64.wrap ((b : Int) * 2 ^ (min (7 * i) 64)) = _
    rw [Nat.min_eq_left (by omega), wu64]
    have : ((b : Int) * 2 ^ (7 * i)) = ((b * 2 ^ (7 * i) : Nat) : Int) := by push_cast; rfl
    rw [this]; omega
  rw [e1]
  show IntKind.u64.wrap ((BitVec.ofInt 64 (u : Int) ||| BitVec.ofInt 64 ((b * 2 ^ (7 * i) : Nat) : Int)).toNat : Int) = _
  rw [BitVec.ofInt_natCast, BitVec.ofInt_natCast, BitVec.toNat_or, BitVec.toNat_ofNat, BitVec.toNat_ofNat, Nat.mod_eq_of_lt (by omega), Nat.mod_eq_of_lt (by omega), wu64]
  have e2 := Nat.shiftLeft_add_eq_or_of_lt hu b
  rw [Nat.shiftLeft_eq] at e2
  rw [Nat.or_comm, ← e2]; omega
theorem vr_bound {u b P : Nat} (hu : u < P) : u + b % 128 * P < 128 * P := by
  have := Nat.mul_le_mul_right P (show b % 128 ≤ 127 by omega)
  omega
theorem andNot_128 : ∀ n : Nat, n < 256 → iAndNot .u8 n 128 = ((n % 128 : Nat) : Int) := by decide
theorem zag_xor {u : Nat} (h : u ≤ 18446744073709551615) : iXor .i64 (IntKind.i64.wrap (iShr .u64 (u : Int) 1)) (IntKind.i64.wrap (0 - (IntKind.i64.wrap (iAnd .u64 (u : Int) 1)))) = zag u := by
  have e1 : iShr .u64 (u : Int) 1 = ((u / 2 : Nat) : Int) := by
    show (u : Int).fdiv 2 = _
    rw [Int.fdiv_eq_ediv_of_nonneg _ (by decide)]; omega
  have e2 : iAnd .u64 (u : Int) 1 = ((u % 2 : Nat) : Int) := by
    show IntKind.u64.wrap ((BitVec.ofInt 64 (u : Int) &&& BitVec.ofInt 64 1).toNat : Int) = _
    rw [BitVec.ofInt_natCast, show BitVec.ofInt 64 1 = BitVec.ofNat 64 1 from rfl, BitVec.toNat_and, BitVec.toNat_ofNat, BitVec.toNat_ofNat, Nat.mod_eq_of_lt (by omega),
      show u &&& 1 % 2 ^ 64 = u % 2 from Nat.and_two_pow_sub_one_eq_mod u 1, wu64]
    omega
  rw [e1, e2, show IntKind.i64.wrap ((u / 2 : Nat) : Int) = ((u / 2 : Nat) : Int) by rw [wi64]; omega]
  unfold zag
  by_cases c : u % 2 = 0
  · rw [if_pos c, c]
    show IntKind.i64.wrap ((BitVec.ofInt 64 _ ^^^ BitVec.ofInt 64 0).toNat : Int) = _
    rw [BitVec.ofInt_natCast, show BitVec.ofInt 64 0 = 0#64 by decide, BitVec.xor_zero, BitVec.toNat_ofNat, Nat.mod_eq_of_lt (by omega), wi64]
    omega
  · rw [if_neg c, show u % 2 = 1 by omega]
    show IntKind.i64.wrap ((BitVec.ofInt 64 _ ^^^ BitVec.ofInt 64 (-1)).toNat : Int) = _
    rw [BitVec.ofInt_natCast, show BitVec.ofInt 64 (-1) = BitVec.allOnes 64 by decide, BitVec.xor_allOnes, BitVec.toNat_not, BitVec.toNat_ofNat, Nat.mod_eq_of_lt (by omega), wi64]
    omega
theorem zag_zig {n : Int} : zag (zigN n) = n := by
  unfold zag zigN
  by_cases h : n < 0
  · rw [if_pos h, if_neg (by omega)]; omega
  · rw [if_neg h, if_pos (by omega)]; omega
theorem zag_ok {u : Nat} (h : u ≤ 18446744073709551615) : -9223372036854775808 ≤ zag u ∧ zag u ≤ 9223372036854775807 := by
  unfold zag; split <;> omega
theorem shl_or8 {u b : Nat} (hb : b < 256) (hu : u * 256 + 255 ≤ 18446744073709551615) : iOr .u64 (iShl .u64 (u : Int) 8) (IntKind.u64.wrap (b : Int)) = ((b + 256 * u : Nat) : Int) := by
  rw [show IntKind.u64.wrap (b : Int) = (b : Int) by rw [wu64]; omega]
  have e1 : iShl .u64 (u : Int) 8 = ((u * 2 ^ 8 : Nat) : Int) := by
    show IntKind.u64.wrap ((u : Int) * 2 ^ 8) = _
    rw [wu64]; omega
  rw [e1]
  show IntKind.u64.wrap ((BitVec.ofInt 64 ((u * 2 ^ 8 : Nat) : Int) ||| BitVec.ofInt 64 (b : Int)).toNat : Int) = _
  rw [BitVec.ofInt_natCast, BitVec.ofInt_natCast, BitVec.toNat_or, BitVec.toNat_ofNat, BitVec.toNat_ofNat, Nat.mod_eq_of_lt (by omega), Nat.mod_eq_of_lt (by omega), wu64]
  have e2 := Nat.shiftLeft_add_eq_or_of_lt (i := 8) (b := b) (by omega) u
  rw [Nat.shiftLeft_eq] at e2
  rw [← e2]; omega
theorem lowR_lt (s : List UInt8) : lowR s < 256 ^ s.length := by
  induction s with
  | nil => decide
  | cons b s ih => have := b.toNat_lt; rw [lowR, List.length_cons, Nat.pow_succ]; omega
theorem lowR_low : ∀ (k u : Nat), u < 256 ^ k → lowR (low k u) = u
  | 0, u, h => by simp at h; subst h; rfl
  | k + 1, u, h => by
    rw [low, lowR, lowR_low k (u / 256) (by rw [Nat.pow_succ] at h; omega)]
    simp; omega
/-! the walk -/
theorem vr_ok : ∀ (j i u : Nat) (c : Cu), c.ok → (vrGo j i u c).2.ok ∧ (vrGo j i u c).2.s = c.s ∧ (vrGo j i u c).2.e = c.e
  | 0, i, u, c, h => ⟨(fail_ok h 4).1, (fail_ok h 4).2.1, (fail_ok h 4).2.2.1⟩
  | j + 1, i, u, c, h => by
    have hb := pass_ok h 1
    have hf := fail_ok hb.1 4
    rw [vrGo]
    split
    · exact hb
    · split
      · exact ⟨hf.1, hf.2.1.trans hb.2.1, hf.2.2.1.trans hb.2.2⟩
      · split
        · exact hb
        · have := vr_ok j (i + 1) (u + (c.byteV.toNat - 128) * 2 ^ (7 * i)) c.byte hb.1
          exact ⟨this.1, this.2.1.trans hb.2.1, this.2.2.trans hb.2.2⟩
theorem vread_ok {c : Cu} (h : c.ok) : c.vread.2.ok ∧ c.vread.2.s = c.s ∧ c.vread.2.e = c.e := vr_ok 10 0 0 c h
theorem f_vRead_1 (c : Cu) (hp : c.ok) : OK 66 ([.ptr 0 0]) ([.cells (eC c)]) (.int .u64 c.vread.1) (some [.cells (eC c.vread.2)]) := by
  refine funOK_of_vc (C := cx [(76, sm_cByte), (49, sm_cErr), (75, sm_cFail)]) (good ⟨k_cByte, k_cErr, k_cFail, trivial⟩) (fn := Tryd.f66) rfl rfl rfl rfl fun hw hs => ?_
  all_goals try conv => whnf
  all_goals try (refine Side.mk ?_; try dsimp only)
  refine GotoP.mk Unit (fun _ => True) (fun _ => ⟨43, [(0, .ptr 0 0), (3, .int .u64 0)], [.cells (eC c)], []⟩) (fun _ => 0) [] () trivial ?_ (fun _ _ _ _ => ?_)
  · refine Go.VG.Sub.mk rfl ?_ ?_ ?_ ?_ <;> (repeat' first | trivial)
  all_goals try conv => whnf
  all_goals try (refine Side.mk ?_; try dsimp only)
  refine LoopP.mk (Nat × Nat × Cu) (fun (i, u, d) => i ≤ 9 ∧ u < 2 ^ (7 * i) ∧ d.ok ∧ d.s = c.s ∧ vrGo (10 - i) i u d = c.vread) (fun (i, u, d) => ⟨43, [(6, .int .i64 i), (0, .ptr 0 0), (3, .int .u64 u)], [.cells (eC d)], []⟩) (fun x => 10 - x.1) [] (0, 0, c) ⟨by decide, by decide, hp, rfl, rfl⟩ ?_ (fun ⟨i, u, d⟩ ⟨hi, hu, hd, hds, hv⟩ _ _ => ?_)
  · refine Go.VG.Sub.mk rfl ?_ ?_ ?_ ?_ <;> (repeat' first | trivial)
  have h7 : 0 ≤ IntKind.i64.wrap (7 * (i : Int)) := by
    have e : IntKind.i64.wrap (7 * (i : Int)) = 7 * (i : Int) := by rw [wi64]; omega
    rw [e]; omega
  obtain ⟨j, hj⟩ : ∃ j, 10 - i = j + 1 := ⟨9 - i, by omega⟩
  rw [hj, vrGo] at hv
  have hb := pass_ok hd 1
  have hf := fail_ok hb.1 4
  have h256 := d.byteV.toNat_lt
  have ho1 := fun h1 h2 => or_shl (b := d.byteV.toNat) hi hu h1 h2
  have ho2 := fun h2 => or_shl (b := d.byteV.toNat % 128) hi hu (by omega) h2
  have han := andNot_128 d.byteV.toNat (by omega)
  repeat' ((conv => whnf); first | apply go3 | apply go5 | (apply go6 <;> intro h))
  all_goals try conv => whnf
  all_goals try (refine Side.mk ?_; try dsimp only)
  all_goals (try simp only [han] at *)
  all_goals (try simp only [Cu_eta] at *)
  all_goals first | refine stay ?_ | trivial | skip
  all_goals first
    | exact h7
    | (exfalso; omega)
    | (show EndP _ _ _ _ _ _
       repeat (first | rw [if_pos (by first | assumption | omega)] at hv | rw [if_neg (by first | assumption | omega)] at hv)
       rw [← hv]
       (refine EndP.mk [] ?_ <;> (repeat' first | trivial | rfl | exact eqS _ _ | apply andI | apply eqA | apply eqB | apply eqC | apply eqD | apply eqE | apply eqF | apply eqG | apply eqH | apply eqI))
       all_goals (exact (ho1 (by omega) (by omega)).1))
    | skip
  have h8 := pow7 (i := i) (by omega)
  have hP : 2 ^ (7 * (i + 1)) = 128 * 2 ^ (7 * i) := by rw [show 7 * (i + 1) = 7 + 7 * i by omega, Nat.pow_add]
  have hmm : d.byteV.toNat - 128 = d.byteV.toNat % 128 := by omega
  repeat (first | rw [if_pos (by first | assumption | omega)] at hv | rw [if_neg (by first | assumption | omega)] at hv)
  have := Nat.mul_le_mul_right (2 ^ (7 * i)) (show d.byteV.toNat % 128 ≤ 127 by omega)
  refine ⟨[], (i + 1, u + d.byteV.toNat % 128 * 2 ^ (7 * i), d.byte), ⟨by omega, by rw [hP]; exact vr_bound hu, hb.1, hb.2.1.trans hds, ?_⟩, ?_, by show 10 - (i + 1) < 10 - i; omega⟩
  · rw [← hv, hmm, show 10 - (i + 1) = j by omega]
  refine Go.VG.Sub.mk rfl ?_ ?_ ?_ ?_ <;> (repeat' first | trivial | apply andI | apply eqB)
  · (simp (discharger := omega) only [wR]; omega)
  · exact (ho2 (by omega)).1
def sm_vRead : Sm := fun args σ => match args, σ with
  | [.ptr 0 0], [.cells ([.str s_c, .int .i64 (.ofNat a_c), .int .i64 (.ofNat e_c), .int .i64 c_c])] => some (True ∧ ((Cu.mk s_c a_c e_c c_c).ok), .int .u64 (Cu.mk s_c a_c e_c c_c).vread.1, some [.cells (eC (Cu.mk s_c a_c e_c c_c).vread.2)])
  | _, _ => none
theorem k_vRead : SOK 66 sm_vRead := by
  intro args sg pre x r he hp
  unfold sm_vRead at he
  split at he <;> cases he
  · rw [viewC (hp).1]; exact f_vRead_1 (hp := hp.2) ..
end Go.Proofs.YtkkfdkfopdjomaaDoor
