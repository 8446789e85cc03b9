/-
  A part of the proof.
-/
import Derived.Test.YtllncocibkgjkaaTxt0
set_option linter.unusedSimpArgs false
set_option linter.unusedVariables false
set_option maxHeartbeats 4000000
namespace Go.Proofs.Ytllncocibkgjkaa
open Go Go.VG
set_option maxRecDepth 100000
structure Cu where
 s : List UInt8
 p : Nat
 e : Nat
 c : Int
abbrev eC (c : Cu) : List V := [.str c.s, .int .i64 c.p, .int .i64 c.e, .int .i64 c.c]
theorem bW {s : List UInt8} {a e : Nat} {c : Int} (_ : True) : [V.str s, .int .i64 (.ofNat a), .int .i64 (.ofNat e), .int .i64 c] = eC ⟨s, a, e, c⟩ := rfl
@[simp] theorem aO (c : Cu) : Cu.mk c.s c.p c.e c.c = c := rfl
def Cu.ok (c : Cu) : Prop := c.p ≤ c.e ∧ c.e ≤ c.s.length
def Cu.fail (c : Cu) (k : Int) : Cu := if c.c = 0 then { c with c := k } else c
def Cu.get (c : Cu) : UInt8 := c.s.getD c.p 0
def Cu.pass (c : Cu) (n : Int) : Cu := if c.c ≠ 0 then c else if n < 0 then { c with c := 13 } else if n > c.e - c.p then { c with c := 1 } else { c with p := c.p + n.toNat }
def Cu.may (c : Cu) (n : Int) : Bool := decide (c.c = 0 ∧ 0 ≤ n ∧ n ≤ c.e - c.p)
def Cu.byte (c : Cu) : Cu := c.pass 1
def Cu.aa (c : Cu) : UInt8 := if c.c = 0 ∧ c.p < c.e then c.get else 0
def Cu.new (s : List UInt8) : Cu := ⟨s, 0, s.length, 0⟩
def Cu.left (c : Cu) : Int := c.e - c.p
theorem jh {c : Cu} (h : c.ok) (n : Int) : (c.pass n).ok ∧ (c.pass n).s = c.s ∧ (c.pass n).e = c.e := by
 obtain ⟨h1, h2⟩ := h
 unfold Cu.pass
 repeat' split
 all_goals (refine ⟨⟨?_, ?_⟩, rfl, rfl⟩ <;> (try dsimp only) <;> omega)
theorem dV {c : Cu} (h : c.ok) (k : Int) : (c.fail k).ok ∧ (c.fail k).s = c.s ∧ (c.fail k).e = c.e ∧ (c.fail k).p = c.p := by
 unfold Cu.fail; split <;> exact ⟨h, rfl, rfl, rfl⟩
theorem CJ (s : List UInt8) (hp : True) : OK 17 ([.str s]) ([]) (.ptr 0 0) (some [.cells (eC (.new s))]) := by
 refine az (C := cx []) (ax trivial) (fn := Try.f17) rfl rfl rfl rfl fun hw hs => ?_
 all_goals try conv => whnf
 all_goals try (refine af.mk ?_; try dsimp only)
 all_goals try refine stay ?_
 refine ah.mk [] ?_ <;> (repeat' first | trivial)
def rv : Sm := fun args σ => match args, σ with
 | [.str s], [] => some (True, .ptr 0 0, some [.cells (eC (.new s))])
 | _, _ => none
theorem yb : aI 17 rv := by
 intro args sg pre x r he hp
 unfold rv at he
 split at he <;> cases he
 . exact CJ (hp := hp) ..
theorem CG (c : Cu) (hp : True) : OK 21 ([.ptr 0 0]) ([.cells (eC c)]) (.int .i64 c.c) (none) := by
 refine az (C := cx []) (ax trivial) (fn := Try.f21) rfl rfl rfl rfl fun hw hs => ?_
 all_goals try conv => whnf
 all_goals try (refine af.mk ?_; try dsimp only)
 all_goals try refine stay ?_
 refine ah.mk [] ?_ <;> (repeat' first | trivial)
def iy : Sm := fun args σ => match args, σ with
 | [.ptr 0 0], [.cells ([.str s_c, .int .i64 (.ofNat a_c), .int .i64 (.ofNat e_c), .int .i64 c_c])] => some (True ∧ (True), .int .i64 (Cu.mk s_c a_c e_c c_c).c, none)
 | _, _ => none
theorem jb : aI 21 iy := by
 intro args sg pre x r he hp
 unfold iy at he
 split at he <;> cases he
 . rw [bW (hp).1]; exact CG (hp := hp.2) ..
theorem CI (c : Cu) (hp : c.ok) : OK 115 ([.ptr 0 0]) ([.cells (eC c)]) (.int .i64 c.left) (none) := by
 refine az (C := cx []) (ax trivial) (fn := Try.f115) rfl rfl rfl rfl fun hw hs => ?_
 obtain ⟨h1, h2⟩ := hp
 have hb : c.s.length ≤ 9223372036854775807 := hs.1.1
 all_goals try conv => whnf
 all_goals try (refine af.mk ?_; try dsimp only)
 all_goals try refine stay ?_
 refine ah.mk [] ?_ <;> (repeat' first | trivial | apply ak | apply cw)
 unfold Cu.left; (simp (discharger := omega) only [wR]; omega)
def uC : Sm := fun args σ => match args, σ with
 | [.ptr 0 0], [.cells ([.str s_c, .int .i64 (.ofNat a_c), .int .i64 (.ofNat e_c), .int .i64 c_c])] => some (True ∧ ((Cu.mk s_c a_c e_c c_c).ok), .int .i64 (Cu.mk s_c a_c e_c c_c).left, none)
 | _, _ => none
theorem EE : aI 115 uC := by
 intro args sg pre x r he hp
 unfold uC at he
 split at he <;> cases he
 . rw [bW (hp).1]; exact CI (hp := hp.2) ..
theorem CM (c : Cu) (hp : c.ok) : OK 43 ([.ptr 0 0]) ([.cells (eC c)]) (.tuple [bv c.aa, .bool (decide (c.c = 0 ∧ c.p < c.e))]) (none) := by
 refine az (C := cx []) (ax trivial) (fn := Try.f43) rfl rfl rfl rfl fun hw hs => ?_
 obtain ⟨h1, h2⟩ := hp
 repeat' ((conv => whnf); first | apply al | apply bh | (apply ay <;> intro h) | with_reducible refine kF ?_ fun hc => ?_)
 all_goals try conv => whnf
 all_goals try (refine af.mk ?_; try dsimp only)
 all_goals first | refine stay ?_ | omega | skip
 all_goals
  unfold Cu.aa
  first | rw [if_pos (by omega)] | rw [if_neg (by omega)]
  refine ah.mk [] ?_ <;> (repeat' first | trivial | apply ak | apply eqC | apply eqH | apply jz)
  all_goals simp; omega
def kW : Sm := fun args σ => match args, σ with
 | [.ptr 0 0], [.cells ([.str s_c, .int .i64 (.ofNat a_c), .int .i64 (.ofNat e_c), .int .i64 c_c])] => some (True ∧ ((Cu.mk s_c a_c e_c c_c).ok), .tuple [bv (Cu.mk s_c a_c e_c c_c).aa, .bool (decide ((Cu.mk s_c a_c e_c c_c).c = 0 ∧ (Cu.mk s_c a_c e_c c_c).p < (Cu.mk s_c a_c e_c c_c).e))], none)
 | _, _ => none
theorem na : aI 43 kW := by
 intro args sg pre x r he hp
 unfold kW at he
 split at he <;> cases he
 . rw [bW (hp).1]; exact CM (hp := hp.2) ..
theorem CH (c : Cu) (k : Int) (hp : True) : OK 49 ([.ptr 0 0, .int .i64 k]) ([.cells (eC c)]) (.tuple []) (some [.cells (eC (c.fail k))]) := by
 refine az (C := cx []) (ax trivial) (fn := Try.f49) rfl rfl rfl rfl fun hw hs => ?_
 repeat' ((conv => whnf); (apply ay <;> intro h))
 all_goals try conv => whnf
 all_goals try (refine af.mk ?_; try dsimp only)
 all_goals try refine stay ?_
 all_goals
  unfold Cu.fail
  first | rw [if_pos (by assumption)] | rw [if_neg (by assumption)]
  refine ah.mk [] ?_ <;> (repeat' first | trivial)
def iU : Sm := fun args σ => match args, σ with
 | [.ptr 0 0, .int .i64 k], [.cells ([.str s_c, .int .i64 (.ofNat a_c), .int .i64 (.ofNat e_c), .int .i64 c_c])] => some (True ∧ (True), .tuple [], some [.cells (eC ((Cu.mk s_c a_c e_c c_c).fail k))])
 | _, _ => none
theorem jF : aI 49 iU := by
 intro args sg pre x r he hp
 unfold iU at he
 split at he <;> cases he
 . rw [bW (hp).1]; exact CH (hp := hp.2) ..
theorem CL (c : Cu) (n : Int) (hp : c.ok) : OK 75 ([.ptr 0 0, .int .i64 n]) ([.cells (eC c)]) (.tuple [.int .i64 (if c.may n = true then (c.p : Int) else 0), .bool (c.may n)]) (some [.cells (eC (c.pass n))]) := by
 refine az (C := cx []) (ax trivial) (fn := Try.f75) rfl rfl rfl rfl fun hw hs => ?_
 obtain ⟨h1, h2⟩ := hp
 have hb : c.s.length ≤ 9223372036854775807 := hs.1.1
 repeat' ((conv => whnf); first | apply bh | (apply ay <;> intro h))
 all_goals try conv => whnf
 all_goals try (refine af.mk ?_; try dsimp only)
 all_goals try refine stay ?_
 all_goals (try rw [show IntKind.i64.wrap (↑c.e - ↑c.p) = (c.e : Int) - c.p by (simp (discharger := omega) only [wR]; omega)] at *)
 all_goals
  have hm : c.may n = decide (c.c = 0 ∧ 0 ≤ n ∧ n ≤ c.e - c.p) := rfl
  first
  | rw [decide_eq_true (by omega)] at hm
  | rw [decide_eq_false (by omega)] at hm
  rw [hm]
  unfold Cu.pass
  repeat (first | rw [if_pos (by first | rfl | assumption | omega)] | rw [if_neg (by first | exact Bool.false_ne_true | assumption | omega)])
  refine ah.mk [] ?_ <;> (repeat' first | trivial | apply ak | apply cw | apply eqE | apply jz)
 show IntKind.i64.wrap (c.p + n) = ((c.p + n.toNat : Nat) : Int)
 (simp (discharger := omega) only [wR]; omega)
def uD : Sm := fun args σ => match args, σ with
 | [.ptr 0 0, .int .i64 n], [.cells ([.str s_c, .int .i64 (.ofNat a_c), .int .i64 (.ofNat e_c), .int .i64 c_c])] => some (True ∧ ((Cu.mk s_c a_c e_c c_c).ok), .tuple [.int .i64 (if (Cu.mk s_c a_c e_c c_c).may n = true then ((Cu.mk s_c a_c e_c c_c).p : Int) else 0), .bool ((Cu.mk s_c a_c e_c c_c).may n)], some [.cells (eC ((Cu.mk s_c a_c e_c c_c).pass n))])
 | _, _ => none
theorem EF : aI 75 uD := by
 intro args sg pre x r he hp
 unfold uD at he
 split at he <;> cases he
 . rw [bW (hp).1]; exact CL (hp := hp.2) ..
theorem CE (c : Cu) (n : Int) (x : V) (hp : 0 ≤ n ∧ n < c.s.length) : OK 76 ([.int .i64 n, .ptr 0 0, .ptr 1 0]) ([.cells [.ptr 2 0], .cells [x], .cells (eC c)]) (.tuple []) (some [.cells [.ptr 2 0], .cells [bv (c.s.getD n.toNat 0)], .cells (eC c)]) := by
 refine az (C := cx []) (ax trivial) (fn := Try.f76) rfl rfl rfl rfl fun hw hs => ?_
 repeat' ((conv => whnf); first | apply al | with_reducible refine goE ?_ fun hc => ?_)
 all_goals try conv => whnf
 all_goals try (refine af.mk ?_; try dsimp only)
 all_goals first | refine stay ?_ | omega | skip
 refine ah.mk [] ?_ <;> (repeat' first | trivial)
def uB : Sm := fun args σ => match args, σ with
 | [.int .i64 n, .ptr 0 0, .ptr 1 0], [.cells [.ptr 2 0], .cells [x], .cells ([.str s_c, .int .i64 (.ofNat a_c), .int .i64 (.ofNat e_c), .int .i64 c_c])] => some (True ∧ (0 ≤ n ∧ n < (Cu.mk s_c a_c e_c c_c).s.length), .tuple [], some [.cells [.ptr 2 0], .cells [bv ((Cu.mk s_c a_c e_c c_c).s.getD n.toNat 0)], .cells (eC (Cu.mk s_c a_c e_c c_c))])
 | _, _ => none
theorem ED : aI 76 uB := by
 intro args sg pre x r he hp
 unfold uB at he
 split at he <;> cases he
 . rw [bW (hp).1]; exact CE (hp := hp.2) ..
theorem CK (c : Cu) (n : Int) (x : Int) (hp : c.ok ∧ n = 1 ∧ x = 0) : OK 74 ([.func (.func 75) [.ptr 0 0] [], .int .i64 n, .func (.func 76) [] [.ptr 1 0, .ptr 2 0]]) ([.cells (eC c), .cells [.ptr 0 0], .cells [.int .u8 x]]) (.tuple []) (some [.cells (eC c.byte), .cells [.ptr 0 0], .cells [bv c.aa]]) := by
 refine az (C := cx [(75, uD), (76, uB)]) (ax ⟨EF, ED, trivial⟩) (fn := Try.f74) rfl rfl rfl rfl fun hw hs => ?_
 obtain ⟨hp, rfl, rfl⟩ := hp
 have h1 := hp.1
 have h2 := hp.2
 have hq := jh hp 1
 repeat' ((conv => whnf); first | apply al | (apply ay <;> intro h))
 all_goals try conv => whnf
 all_goals try (refine af.mk ?_; try dsimp only)
 all_goals (try simp only [aO] at *)
 all_goals first | refine stay ?_ | trivial | skip
 . have hm : c.may 1 = true := decide_eq_true (by assumption)
   rw [hm, if_pos rfl, hq.2.1]
   exact ⟨trivial, by omega, by omega⟩
 . have hm : c.may 1 = true := decide_eq_true (by assumption)
   refine ah.mk [] ?_ <;> (repeat' first | trivial | apply ak | apply cw | apply eqE | apply jz)
   rw [hm, if_pos rfl, hq.2.1]
   unfold Cu.aa
   rw [if_pos (by omega)]
   rfl
 . refine ah.mk [] ?_ <;> (repeat' first | trivial | apply ak | apply cw | apply eqE | apply jz)
   unfold Cu.aa
   rw [if_neg (by omega)]
   rfl
def uE : Sm := fun args σ => match args, σ with
 | [.func (.func 75) [.ptr 0 0] [], .int .i64 n, .func (.func 76) [] [.ptr 1 0, .ptr 2 0]], [.cells ([.str s_c, .int .i64 (.ofNat a_c), .int .i64 (.ofNat e_c), .int .i64 c_c]), .cells [.ptr 0 0], .cells [.int .u8 x]] => some (True ∧ ((Cu.mk s_c a_c e_c c_c).ok ∧ n = 1 ∧ x = 0), .tuple [], some [.cells (eC (Cu.mk s_c a_c e_c c_c).byte), .cells [.ptr 0 0], .cells [bv (Cu.mk s_c a_c e_c c_c).aa]])
 | _, _ => none
theorem EG : aI 74 uE := by
 intro args sg pre x r he hp
 unfold uE at he
 split at he <;> cases he
 . rw [bW (hp).1]; exact CK (hp := hp.2) ..
theorem CF (c : Cu) (hp : c.ok) : OK 44 ([.ptr 0 0]) ([.cells (eC c)]) (bv c.aa) (some [.cells (eC c.byte)]) := by
 refine az (C := cx [(74, uE)]) (ax ⟨EG, trivial⟩) (fn := Try.f44) rfl rfl rfl rfl fun hw hs => ?_
 repeat' ((conv => whnf); apply al)
 all_goals try conv => whnf
 all_goals try (refine af.mk ?_; try dsimp only)
 all_goals (try simp only [aO] at *)
 all_goals first | refine stay ?_ | trivial | skip
 refine ah.mk [] ?_ <;> (repeat' first | trivial)
def iw : Sm := fun args σ => match args, σ with
 | [.ptr 0 0], [.cells ([.str s_c, .int .i64 (.ofNat a_c), .int .i64 (.ofNat e_c), .int .i64 c_c])] => some (True ∧ ((Cu.mk s_c a_c e_c c_c).ok), bv (Cu.mk s_c a_c e_c c_c).aa, some [.cells (eC (Cu.mk s_c a_c e_c c_c).byte)])
 | _, _ => none
theorem ja : aI 44 iw := by
 intro args sg pre x r he hp
 unfold iw at he
 split at he <;> cases he
 . rw [bW (hp).1]; exact CF (hp := hp.2) ..
end Go.Proofs.Ytllncocibkgjkaa
