/-
  A part of the proof.
-/
import Derived.Test.YtipejldppicijaaGreatDoorTxt0
set_option linter.unusedSimpArgs false
set_option linter.unusedVariables false
set_option maxHeartbeats 4000000
namespace Go.Proofs.YtipejldppicijaaGreatDoor
open Go Go.VG
set_option maxRecDepth 100000
structure Cu where
 s : List UInt8
 p : Nat
 e : Nat
 c : Int
abbrev eC (c : Cu) : List V := [.str c.s, .int .i64 c.p, .int .i64 c.e, .int .i64 c.c]
theorem bT {s : List UInt8} {a e : Nat} {c : Int} (_ : True) : [V.str s, .int .i64 (.ofNat a), .int .i64 (.ofNat e), .int .i64 c] = eC ⟨s, a, e, c⟩ := rfl
@[simp] theorem cg (c : Cu) : Cu.mk c.s c.p c.e c.c = c := rfl
def Cu.ok (c : Cu) : Prop := c.p ≤ c.e ∧ c.e ≤ c.s.length
def Cu.fail (c : Cu) (k : Int) : Cu := if c.c = 0 then { c with c := k } else c
def Cu.get (c : Cu) : UInt8 := c.s.getD c.p 0
def Cu.pass (c : Cu) (n : Int) : Cu := if c.c ≠ 0 then c else if n < 0 then { c with c := 13 } else if n > c.e - c.p then { c with c := 1 } else { c with p := c.p + n.toNat }
def Cu.may (c : Cu) (n : Int) : Bool := decide (c.c = 0 ∧ 0 ≤ n ∧ n ≤ c.e - c.p)
def Cu.byte (c : Cu) : Cu := c.pass 1
def Cu.aQ (c : Cu) : UInt8 := if c.c = 0 ∧ c.p < c.e then c.get else 0
def Cu.new (s : List UInt8) : Cu := ⟨s, 0, s.length, 0⟩
def Cu.left (c : Cu) : Int := c.e - c.p
def Cu.fin (c : Cu) : Int := if c.c ≠ 0 then c.c else if c.e > c.p then 2 else 0
theorem ll {c : Cu} (h : c.ok) (n : Int) : (c.pass n).ok ∧ (c.pass n).s = c.s ∧ (c.pass n).e = c.e := by
 obtain ⟨h1, h2⟩ := h
 unfold Cu.pass
 repeat' split
 all_goals (refine ⟨⟨?_, ?_⟩, rfl, rfl⟩ <;> (try dsimp only) <;> omega)
theorem kQ {c : Cu} (h : c.ok) (k : Int) : (c.fail k).ok ∧ (c.fail k).s = c.s ∧ (c.fail k).e = c.e ∧ (c.fail k).p = c.p := by
 unfold Cu.fail; split <;> exact ⟨h, rfl, rfl, rfl⟩
theorem FQ (s : List UInt8) (hp : True) : OK 63 ([.str s]) ([]) (.ptr 0 0) (some [.cells (eC (.new s))]) := by
 refine af (C := cx []) (ah trivial) (fn := Tryz.f63) rfl rfl rfl rfl fun hw hs => ?_
 all_goals try conv => whnf
 all_goals try (refine a8.mk ?_; try dsimp only)
 all_goals try refine stay ?_
 refine a7.mk [] ?_ <;> (repeat' first | trivial)
def wI : Sm := fun args σ => match args, σ with
 | [.str s], [] => some (True, .ptr 0 0, some [.cells (eC (.new s))])
 | _, _ => none
theorem IX : aa 63 wI := by
 intro args sg pre x r he hp
 unfold wI at he
 split at he <;> cases he
 . exact FQ (hp := hp) ..
theorem FL (c : Cu) (hp : True) : OK 35 ([.ptr 0 0]) ([.cells (eC c)]) (.int .i64 c.c) (none) := by
 refine af (C := cx []) (ah trivial) (fn := Tryz.f35) rfl rfl rfl rfl fun hw hs => ?_
 all_goals try conv => whnf
 all_goals try (refine a8.mk ?_; try dsimp only)
 all_goals try refine stay ?_
 refine a7.mk [] ?_ <;> (repeat' first | trivial)
def gD : Sm := fun args σ => match args, σ with
 | [.ptr 0 0], [.cells ([.str s_c, .int .i64 (.ofNat a_c), .int .i64 (.ofNat e_c), .int .i64 c_c])] => some (True ∧ (True), .int .i64 (Cu.mk s_c a_c e_c c_c).c, none)
 | _, _ => none
theorem ib : aa 35 gD := by
 intro args sg pre x r he hp
 unfold gD at he
 split at he <;> cases he
 . rw [bT (hp).1]; exact FL (hp := hp.2) ..
theorem FP (c : Cu) (hp : c.ok) : OK 124 ([.ptr 0 0]) ([.cells (eC c)]) (.int .i64 c.left) (none) := by
 refine af (C := cx []) (ah trivial) (fn := Tryz.f124) rfl rfl rfl rfl fun hw hs => ?_
 obtain ⟨h1, h2⟩ := hp
 have hb : c.s.length ≤ 9223372036854775807 := hs.1.1
 all_goals try conv => whnf
 all_goals try (refine a8.mk ?_; try dsimp only)
 all_goals try refine stay ?_
 refine a7.mk [] ?_ <;> (repeat' first | trivial | apply ab | apply au)
 unfold Cu.left; (simp (discharger := omega) only [wR]; omega)
def qN : Sm := fun args σ => match args, σ with
 | [.ptr 0 0], [.cells ([.str s_c, .int .i64 (.ofNat a_c), .int .i64 (.ofNat e_c), .int .i64 c_c])] => some (True ∧ ((Cu.mk s_c a_c e_c c_c).ok), .int .i64 (Cu.mk s_c a_c e_c c_c).left, none)
 | _, _ => none
theorem vl : aa 124 qN := by
 intro args sg pre x r he hp
 unfold qN at he
 split at he <;> cases he
 . rw [bT (hp).1]; exact FP (hp := hp.2) ..
theorem FF (c : Cu) (hp : True) : OK 36 ([.ptr 0 0]) ([.cells (eC c)]) (.int .i64 c.p) (none) := by
 refine af (C := cx []) (ah trivial) (fn := Tryz.f36) rfl rfl rfl rfl fun hw hs => ?_
 all_goals try conv => whnf
 all_goals try (refine a8.mk ?_; try dsimp only)
 all_goals try refine stay ?_
 refine a7.mk [] ?_ <;> (repeat' first | trivial)
def sR : Sm := fun args σ => match args, σ with
 | [.ptr 0 0], [.cells ([.str s_c, .int .i64 (.ofNat a_c), .int .i64 (.ofNat e_c), .int .i64 c_c])] => some (True ∧ (True), .int .i64 (Cu.mk s_c a_c e_c c_c).p, none)
 | _, _ => none
theorem Al : aa 36 sR := by
 intro args sg pre x r he hp
 unfold sR at he
 split at he <;> cases he
 . rw [bT (hp).1]; exact FF (hp := hp.2) ..
theorem FK (c : Cu) (hp : c.ok) : OK 93 ([.ptr 0 0]) ([.cells (eC c)]) (.int .i64 c.fin) (none) := by
 refine af (C := cx [(35, gD), (124, qN)]) (ah ⟨ib, vl, trivial⟩) (fn := Tryz.f93) rfl rfl rfl rfl fun hw hs => ?_
 repeat' ((conv => whnf); first | with_reducible (first | refine go1 (fun j q h => ?_) fun h => ?_ | refine go2 ⟨rfl, rfl⟩ (fun h => ?_) fun j h => ?_ | refine go2 ?_ (fun h => ?_) fun j h => ?_ | refine goQ ?_ (fun h => ?_) fun h => ?_) | apply a9 | apply nH | apply aJ | ((first | apply al | apply go7 | apply go8 | apply gk | apply bu) <;> intro h) | with_reducible (first | refine dP.mk _ rfl ?_ | refine goB ?_ fun hc => ?_ | refine nI ?_ fun hc => ?_ | refine i5 ?_ fun hc => ?_ | refine iK ?_ fun hc => ?_ | apply jd | apply iL | refine mn ?_ fun b hb => ?_) | apply je | apply i6 | apply nJ | apply nK | apply nL | apply goN | apply nM | with_reducible refine nN ?_)
 all_goals try conv => whnf
 all_goals try (refine a8.mk ?_; try dsimp only)
 all_goals (try simp only [cg] at *)
 all_goals first | refine stay ?_ | trivial | omega | (simp (discharger := omega) only [wR]; omega) | (simp only [aW]; omega) | (simp (discharger := omega) [-List.getD_eq_getElem?_getD, wR] <;> omega) | skip
 all_goals first
  | exact ⟨trivial, hp⟩
  | skip
 all_goals (try simp only [cg] at *)
 all_goals
  have he : c.left = (c.e : Int) - c.p := rfl
  unfold Cu.fin
  repeat (first | rw [if_pos (by first | assumption | omega)] | rw [if_neg (by first | assumption | omega)])
  refine a7.mk [] ?_ <;> (repeat' first | trivial | rfl | exact cZ _ _ | apply ab | apply aV | apply au | apply bX | apply aE | apply cw | apply cJ | apply cK | apply bZ | apply aM)
def wH : Sm := fun args σ => match args, σ with
 | [.ptr 0 0], [.cells ([.str s_c, .int .i64 (.ofNat a_c), .int .i64 (.ofNat e_c), .int .i64 c_c])] => some (True ∧ ((Cu.mk s_c a_c e_c c_c).ok), .int .i64 (Cu.mk s_c a_c e_c c_c).fin, none)
 | _, _ => none
theorem IW : aa 93 wH := by
 intro args sg pre x r he hp
 unfold wH at he
 split at he <;> cases he
 . rw [bT (hp).1]; exact FK (hp := hp.2) ..
theorem FM (c : Cu) (k : Int) (hp : True) : OK 66 ([.ptr 0 0, .int .i64 k]) ([.cells (eC c)]) (.tuple []) (some [.cells (eC (c.fail k))]) := by
 refine af (C := cx []) (ah trivial) (fn := Tryz.f66) rfl rfl rfl rfl fun hw hs => ?_
 repeat' ((conv => whnf); (apply al <;> intro h))
 all_goals try conv => whnf
 all_goals try (refine a8.mk ?_; try dsimp only)
 all_goals try refine stay ?_
 all_goals
  unfold Cu.fail
  first | rw [if_pos (by assumption)] | rw [if_neg (by assumption)]
  refine a7.mk [] ?_ <;> (repeat' first | trivial)
def fX : Sm := fun args σ => match args, σ with
 | [.ptr 0 0, .int .i64 k], [.cells ([.str s_c, .int .i64 (.ofNat a_c), .int .i64 (.ofNat e_c), .int .i64 c_c])] => some (True ∧ (True), .tuple [], some [.cells (eC ((Cu.mk s_c a_c e_c c_c).fail k))])
 | _, _ => none
theorem gK : aa 66 fX := by
 intro args sg pre x r he hp
 unfold fX at he
 split at he <;> cases he
 . rw [bT (hp).1]; exact FM (hp := hp.2) ..
theorem FU (c : Cu) (n : Int) (hp : c.ok) : OK 121 ([.ptr 0 0, .int .i64 n]) ([.cells (eC c)]) (.tuple [.int .i64 (if c.may n = true then (c.p : Int) else 0), .bool (c.may n)]) (some [.cells (eC (c.pass n))]) := by
 refine af (C := cx []) (ah trivial) (fn := Tryz.f121) rfl rfl rfl rfl fun hw hs => ?_
 obtain ⟨h1, h2⟩ := hp
 have hb : c.s.length ≤ 9223372036854775807 := hs.1.1
 repeat' ((conv => whnf); first | apply aJ | (apply al <;> intro h))
 all_goals try conv => whnf
 all_goals try (refine a8.mk ?_; try dsimp only)
 all_goals try refine stay ?_
 all_goals (try rw [show IntKind.i64.wrap (↑c.e - ↑c.p) = (c.e : Int) - c.p by (simp (discharger := omega) only [wR]; omega)] at *)
 all_goals
  have hm : c.may n = decide (c.c = 0 ∧ 0 ≤ n ∧ n ≤ c.e - c.p) := rfl
  first
  | rw [decide_eq_true (by omega)] at hm
  | rw [decide_eq_false (by omega)] at hm
  rw [hm]
  unfold Cu.pass
  repeat (first | rw [if_pos (by first | rfl | assumption | omega)] | rw [if_neg (by first | exact Bool.false_ne_true | assumption | omega)])
  refine a7.mk [] ?_ <;> (repeat' first | trivial | apply ab | apply au | apply cw | apply aM)
 show IntKind.i64.wrap (c.p + n) = ((c.p + n.toNat : Nat) : Int)
 (simp (discharger := omega) only [wR]; omega)
def sS : Sm := fun args σ => match args, σ with
 | [.ptr 0 0, .int .i64 n], [.cells ([.str s_c, .int .i64 (.ofNat a_c), .int .i64 (.ofNat e_c), .int .i64 c_c])] => some (True ∧ ((Cu.mk s_c a_c e_c c_c).ok), .tuple [.int .i64 (if (Cu.mk s_c a_c e_c c_c).may n = true then ((Cu.mk s_c a_c e_c c_c).p : Int) else 0), .bool ((Cu.mk s_c a_c e_c c_c).may n)], some [.cells (eC ((Cu.mk s_c a_c e_c c_c).pass n))])
 | _, _ => none
theorem Am : aa 121 sS := by
 intro args sg pre x r he hp
 unfold sS at he
 split at he <;> cases he
 . rw [bT (hp).1]; exact FU (hp := hp.2) ..
theorem FG (c : Cu) (n : Int) (x : V) (hp : 0 ≤ n ∧ n < c.s.length) : OK 122 ([.int .i64 n, .ptr 0 0, .ptr 1 0]) ([.cells [.ptr 2 0], .cells [x], .cells (eC c)]) (.tuple []) (some [.cells [.ptr 2 0], .cells [bv (c.s.getD n.toNat 0)], .cells (eC c)]) := by
 refine af (C := cx []) (ah trivial) (fn := Tryz.f122) rfl rfl rfl rfl fun hw hs => ?_
 repeat' ((conv => whnf); first | apply a9 | with_reducible refine iK ?_ fun hc => ?_)
 all_goals try conv => whnf
 all_goals try (refine a8.mk ?_; try dsimp only)
 all_goals first | refine stay ?_ | omega | skip
 refine a7.mk [] ?_ <;> (repeat' first | trivial)
def wG : Sm := fun args σ => match args, σ with
 | [.int .i64 n, .ptr 0 0, .ptr 1 0], [.cells [.ptr 2 0], .cells [x], .cells ([.str s_c, .int .i64 (.ofNat a_c), .int .i64 (.ofNat e_c), .int .i64 c_c])] => some (True ∧ (0 ≤ n ∧ n < (Cu.mk s_c a_c e_c c_c).s.length), .tuple [], some [.cells [.ptr 2 0], .cells [bv ((Cu.mk s_c a_c e_c c_c).s.getD n.toNat 0)], .cells (eC (Cu.mk s_c a_c e_c c_c))])
 | _, _ => none
theorem IV : aa 122 wG := by
 intro args sg pre x r he hp
 unfold wG at he
 split at he <;> cases he
 . rw [bT (hp).1]; exact FG (hp := hp.2) ..
theorem FR (c : Cu) (n : Int) (x : Int) (hp : c.ok ∧ n = 1 ∧ x = 0) : OK 120 ([.func (.func 121) [.ptr 0 0] [], .int .i64 n, .func (.func 122) [] [.ptr 1 0, .ptr 2 0]]) ([.cells (eC c), .cells [.ptr 0 0], .cells [.int .u8 x]]) (.tuple []) (some [.cells (eC c.byte), .cells [.ptr 0 0], .cells [bv c.aQ]]) := by
 refine af (C := cx [(121, sS), (122, wG)]) (ah ⟨Am, IV, trivial⟩) (fn := Tryz.f120) rfl rfl rfl rfl fun hw hs => ?_
 obtain ⟨hp, rfl, rfl⟩ := hp
 have h1 := hp.1
 have h2 := hp.2
 have hq := ll hp 1
 repeat' ((conv => whnf); first | apply a9 | (apply al <;> intro h))
 all_goals try conv => whnf
 all_goals try (refine a8.mk ?_; try dsimp only)
 all_goals (try simp only [cg] at *)
 all_goals first | refine stay ?_ | trivial | skip
 . have hm : c.may 1 = true := decide_eq_true (by assumption)
   rw [hm, if_pos rfl, hq.2.1]
   exact ⟨trivial, by omega, by omega⟩
 . have hm : c.may 1 = true := decide_eq_true (by assumption)
   refine a7.mk [] ?_ <;> (repeat' first | trivial | apply ab | apply au | apply cw | apply aM)
   rw [hm, if_pos rfl, hq.2.1]
   unfold Cu.aQ
   rw [if_pos (by omega)]
   rfl
 . refine a7.mk [] ?_ <;> (repeat' first | trivial | apply ab | apply au | apply cw | apply aM)
   unfold Cu.aQ
   rw [if_neg (by omega)]
   rfl
def wJ : Sm := fun args σ => match args, σ with
 | [.func (.func 121) [.ptr 0 0] [], .int .i64 n, .func (.func 122) [] [.ptr 1 0, .ptr 2 0]], [.cells ([.str s_c, .int .i64 (.ofNat a_c), .int .i64 (.ofNat e_c), .int .i64 c_c]), .cells [.ptr 0 0], .cells [.int .u8 x]] => some (True ∧ ((Cu.mk s_c a_c e_c c_c).ok ∧ n = 1 ∧ x = 0), .tuple [], some [.cells (eC (Cu.mk s_c a_c e_c c_c).byte), .cells [.ptr 0 0], .cells [bv (Cu.mk s_c a_c e_c c_c).aQ]])
 | _, _ => none
theorem IY : aa 120 wJ := by
 intro args sg pre x r he hp
 unfold wJ at he
 split at he <;> cases he
 . rw [bT (hp).1]; exact FR (hp := hp.2) ..
theorem FH (c : Cu) (hp : c.ok) : OK 64 ([.ptr 0 0]) ([.cells (eC c)]) (bv c.aQ) (some [.cells (eC c.byte)]) := by
 refine af (C := cx [(120, wJ)]) (ah ⟨IY, trivial⟩) (fn := Tryz.f64) rfl rfl rfl rfl fun hw hs => ?_
 repeat' ((conv => whnf); apply a9)
 all_goals try conv => whnf
 all_goals try (refine a8.mk ?_; try dsimp only)
 all_goals (try simp only [cg] at *)
 all_goals first | refine stay ?_ | trivial | skip
 refine a7.mk [] ?_ <;> (repeat' first | trivial)
def iW : Sm := fun args σ => match args, σ with
 | [.ptr 0 0], [.cells ([.str s_c, .int .i64 (.ofNat a_c), .int .i64 (.ofNat e_c), .int .i64 c_c])] => some (True ∧ ((Cu.mk s_c a_c e_c c_c).ok), bv (Cu.mk s_c a_c e_c c_c).aQ, some [.cells (eC (Cu.mk s_c a_c e_c c_c).byte)])
 | _, _ => none
theorem jL : aa 64 iW := by
 intro args sg pre x r he hp
 unfold iW at he
 split at he <;> cases he
 . rw [bT (hp).1]; exact FH (hp := hp.2) ..
end Go.Proofs.YtipejldppicijaaGreatDoor
