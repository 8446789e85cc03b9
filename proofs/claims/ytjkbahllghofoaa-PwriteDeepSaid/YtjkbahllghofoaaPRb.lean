/-
  Tags and fields of Protobuf: what the program reads.
-/
import Derived.Test.YtjkbahllghofoaaCRt
set_option linter.unusedSimpArgs false
set_option linter.unusedVariables false
set_option maxHeartbeats 4000000
namespace Go.Proofs.Ytjkbahllghofoaa
open Go Go.VG
set_option maxRecDepth 100000
def mayT (n w : Int) : Bool := decide ((1 ≤ n ∧ n ≤ 536870911) ∧ (w = 0 ∨ w = 1 ∨ w = 2 ∨ w = 5))
def tagN (u : Nat) : Int := if u / 4294967296 ≠ 0 then 0 else ((u / 8 : Nat) : Int)
def tagW (u : Nat) : Int := if u / 4294967296 ≠ 0 then 0 else ((u % 8 : Nat) : Int)
theorem shr_n (u k : Nat) (hk : k ≤ 63) : iShr .u64 (u : Int) (k : Int) = ((u / 2 ^ k : Nat) : Int) := by
  rw [iShr_nat, Nat.min_eq_left (by show k ≤ 64; omega)]
theorem and_7 {u : Nat} (h : u ≤ 18446744073709551615) : iAnd .u64 (u : Int) 7 = ((u % 8 : Nat) : Int) := by
  show IntKind.u64.wrap ((BitVec.ofInt 64 (u : Int) &&& BitVec.ofInt 64 7).toNat : Int) = _
  rw [BitVec.ofInt_natCast, show BitVec.ofInt 64 7 = BitVec.ofNat 64 7 from rfl, BitVec.toNat_and, BitVec.toNat_ofNat, BitVec.toNat_ofNat, Nat.mod_eq_of_lt (by omega),
    show u &&& 7 % 2 ^ 64 = u % 8 from Nat.and_two_pow_sub_one_eq_mod u 3, wu64]
  omega
theorem f_pMay_1 (n w : Int) (hp : True) : OK 15 ([.agg [.int .i64 n, .int .i64 w]]) ([]) (.bool (mayT n w)) (none) := by
  refine funOK_of_vc (C := cx []) (good trivial) (fn := Try.f15) rfl rfl rfl rfl fun hw hs => ?_
  repeat' ((conv => whnf); first | with_reducible (first | refine go1 (fun j q h => ?_) fun h => ?_ | refine go2 ⟨rfl, rfl⟩ (fun h => ?_) fun j h => ?_ | refine go2 ?_ (fun h => ?_) fun j h => ?_ | refine goQ ?_ (fun h => ?_) fun h => ?_) | apply go3 | apply go4 | apply go5 | ((first | apply go6 | apply go7 | apply go8 | apply go9 | apply goA) <;> intro h) | with_reducible (first | refine IdxK.mk _ rfl ?_ | refine goB ?_ fun hc => ?_ | refine goC ?_ fun hc => ?_ | refine goD ?_ fun hc => ?_ | refine goE ?_ fun hc => ?_ | apply goF | apply goG | refine goH ?_ fun b hb => ?_) | apply goI | apply goJ | apply goK | apply goL | apply goM | apply goN | apply goO | with_reducible refine goP ?_)
  all_goals try conv => whnf
  all_goals try (refine Side.mk ?_; try dsimp only)
  all_goals (try simp only [Cu_eta] at *)
  all_goals first | refine stay ?_ | trivial | omega | (simp (discharger := omega) only [wR]; omega) | (simp only [lnS]; omega) | (simp (discharger := omega) [-List.getD_eq_getElem?_getD, wR] <;> omega) | skip
  all_goals first
    | (exfalso; omega)
    | (show EndP _ _ _ _ _ _
       have he : mayT n w = mayT n w := rfl
       conv at he => rhs; unfold mayT
       first | rw [decide_eq_true (by omega)] at he | rw [decide_eq_false (by omega)] at he
       rw [he]
       refine EndP.mk [] ?_ <;> (repeat' first | trivial | rfl | exact eqS _ _ | apply andI | apply eqA | apply eqB | apply eqC | apply eqD | apply eqE | apply eqF | apply eqG | apply eqH | apply eqI)
       done)
def sm_pMay : Sm := fun args σ => match args, σ with
  | [.agg [.int .i64 n, .int .i64 w]], [] => some (True, .bool (mayT n w), none)
  | _, _ => none
theorem k_pMay : SOK 15 sm_pMay := by
  intro args sg pre x r he hp
  unfold sm_pMay at he
  split at he <;> cases he
  · exact f_pMay_1 (hp := hp) ..
structure Pf where
  no : Int
  wi : Int
  num : Int
  text : List UInt8
instance : Inhabited Pf := ⟨⟨0, 0, 0, []⟩⟩
abbrev ePc (f : Pf) : List V := [.int .i64 f.no, .int .i64 f.wi, .int .u64 f.num, .str f.text]
abbrev ePf (f : Pf) : V := .agg (ePc f)
theorem viewPf {n w u : Int} {t : List UInt8} (_ : True) : V.agg [.int .i64 n, .int .i64 w, .int .u64 u, .str t] = ePf ⟨n, w, u, t⟩ := rfl
def Cu.tagged (c : Cu) : Bool := decide (c.vread.2.c = 0 ∧ mayT (tagN c.vread.1) (tagW c.vread.1) = true)
def Cu.tag (c : Cu) : (Int × Int) × Cu := if c.vread.2.c ≠ 0 then ((0, 0), c.vread.2) else if mayT (tagN c.vread.1) (tagW c.vread.1) = true then ((tagN c.vread.1, tagW c.vread.1), c.vread.2) else ((0, 0), c.vread.2.fail 14)
def nxV (f : Pf) (c : Cu) : Pf := if f.wi = 0 then { f with num := c.vread.1 } else if f.wi = 1 then { f with num := c.low64.1 } else if f.wi = 5 then { f with num := c.low32.1 } else if f.wi = 2 then { f with text := c.text.1 } else f
def nxC (f : Pf) (c : Cu) : Cu := if f.wi = 0 then c.vread.2 else if f.wi = 1 then c.low64.2 else if f.wi = 5 then c.low32.2 else if f.wi = 2 then c.text.2 else c
def Cu.nxtC (c : Cu) : Cu := nxC ⟨c.tag.1.1, c.tag.1.2, 0, []⟩ c.tag.2
def Cu.nxt (c : Cu) : Pf := if c.nxtC.c ≠ 0 then default else nxV ⟨c.tag.1.1, c.tag.1.2, 0, []⟩ c.tag.2
theorem mayT_0 : mayT 0 0 = false := by decide
theorem tag_ok {c : Cu} (h : c.ok) : c.tag.2.ok ∧ c.tag.2.s = c.s ∧ c.tag.2.e = c.e := by
  have hv := vread_ok h
  have hf := fail_ok hv.1 14
  unfold Cu.tag
  repeat' split
  · exact hv
  · exact hv
  · exact ⟨hf.1, hf.2.1.trans hv.2.1, hf.2.2.1.trans hv.2.2⟩
theorem textP_ok {c : Cu} (h : c.ok) : c.text.2.ok ∧ c.text.2.s = c.s ∧ c.text.2.e = c.e := by
  have hv := vread_ok h
  have hf := fail_ok hv.1 1
  have hq := pass_ok hv.1 c.vread.1
  unfold Cu.text
  dsimp only
  split
  · exact ⟨hf.1, hf.2.1.trans hv.2.1, hf.2.2.1.trans hv.2.2⟩
  · exact ⟨hq.1, hq.2.1.trans hv.2.1, hq.2.2.trans hv.2.2⟩
theorem nxC_ok {c : Cu} (h : c.ok) (f : Pf) : (nxC f c).ok ∧ (nxC f c).s = c.s ∧ (nxC f c).e = c.e := by
  have hv := vread_ok h
  have ht := textP_ok h
  have h8 := pass_ok h 8
  have h4 := pass_ok h 4
  unfold nxC
  repeat' split
  · exact hv
  · exact h8
  · exact h4
  · exact ht
  · exact ⟨h, rfl, rfl⟩
theorem nxt_ok {c : Cu} (h : c.ok) : c.nxtC.ok ∧ c.nxtC.s = c.s ∧ c.nxtC.e = c.e := by
  have h1 := tag_ok h
  have h2 := nxC_ok h1.1 ⟨c.tag.1.1, c.tag.1.2, 0, []⟩
  exact ⟨h2.1, h2.2.1.trans h1.2.1, h2.2.2.trans h1.2.2⟩
end Go.Proofs.Ytjkbahllghofoaa
