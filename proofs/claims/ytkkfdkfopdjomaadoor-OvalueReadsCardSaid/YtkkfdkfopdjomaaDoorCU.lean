/-
  A cursor over a text, which reads byte by byte.
-/
import Derived.Test.YtkkfdkfopdjomaaDoorTxt0
set_option linter.unusedSimpArgs false
set_option linter.unusedVariables false
set_option maxHeartbeats 4000000
namespace Go.Proofs.YtkkfdkfopdjomaaDoor
open Go Go.VG
set_option maxRecDepth 100000
structure Cu where
  s : List UInt8
  p : Nat
  e : Nat
  c : Int
abbrev eC (c : Cu) : List V := [.str c.s, .int .i64 c.p, .int .i64 c.e, .int .i64 c.c]
theorem viewC {s : List UInt8} {a e : Nat} {c : Int} (_ : True) : [V.str s, .int .i64 (.ofNat a), .int .i64 (.ofNat e), .int .i64 c] = eC ⟨s, a, e, c⟩ := rfl
@[simp] theorem Cu_eta (c : Cu) : Cu.mk c.s c.p c.e c.c = c := rfl
def Cu.ok (c : Cu) : Prop := c.p ≤ c.e ∧ c.e ≤ c.s.length
def Cu.fail (c : Cu) (k : Int) : Cu := if c.c = 0 then { c with c := k } else c
def Cu.get (c : Cu) : UInt8 := c.s.getD c.p 0
def Cu.pass (c : Cu) (n : Int) : Cu := if c.c ≠ 0 then c else if n < 0 then { c with c := 13 } else if n > c.e - c.p then { c with c := 1 } else { c with p := c.p + n.toNat }
def Cu.may (c : Cu) (n : Int) : Bool := decide (c.c = 0 ∧ 0 ≤ n ∧ n ≤ c.e - c.p)
def Cu.byte (c : Cu) : Cu := c.pass 1
def Cu.byteV (c : Cu) : UInt8 := if c.c = 0 ∧ c.p < c.e then c.get else 0
def Cu.new (s : List UInt8) : Cu := ⟨s, 0, s.length, 0⟩
def Cu.left (c : Cu) : Int := c.e - c.p
def Cu.fin (c : Cu) : Int := if c.c ≠ 0 then c.c else if c.e > c.p then 2 else 0
theorem pass_ok {c : Cu} (h : c.ok) (n : Int) : (c.pass n).ok ∧ (c.pass n).s = c.s ∧ (c.pass n).e = c.e := by
  obtain ⟨h1, h2⟩ := h
  unfold Cu.pass
  repeat' split
  all_goals (refine ⟨⟨?_, ?_⟩, rfl, rfl⟩ <;> (try dsimp only) <;> omega)
theorem fail_ok {c : Cu} (h : c.ok) (k : Int) : (c.fail k).ok ∧ (c.fail k).s = c.s ∧ (c.fail k).e = c.e ∧ (c.fail k).p = c.p := by
  unfold Cu.fail; split <;> exact ⟨h, rfl, rfl, rfl⟩
theorem f_cNew_1 (s : List UInt8) (hp : True) : OK 47 ([.str s]) ([]) (.ptr 0 0) (some [.cells (eC (.new s))]) := by
  refine funOK_of_vc (C := cx []) (good trivial) (fn := Tryd.f47) rfl rfl rfl rfl fun hw hs => ?_
  all_goals try conv => whnf
  all_goals try (refine Side.mk ?_; try dsimp only)
  all_goals try refine stay ?_
  refine EndP.mk [] ?_ <;> (repeat' first | trivial)
def sm_cNew : Sm := fun args σ => match args, σ with
  | [.str s], [] => some (True, .ptr 0 0, some [.cells (eC (.new s))])
  | _, _ => none
theorem k_cNew : SOK 47 sm_cNew := by
  intro args sg pre x r he hp
  unfold sm_cNew at he
  split at he <;> cases he
  · exact f_cNew_1 (hp := hp) ..
theorem f_cErr_1 (c : Cu) (hp : True) : OK 49 ([.ptr 0 0]) ([.cells (eC c)]) (.int .i64 c.c) (none) := by
  refine funOK_of_vc (C := cx []) (good trivial) (fn := Tryd.f49) rfl rfl rfl rfl fun hw hs => ?_
  all_goals try conv => whnf
  all_goals try (refine Side.mk ?_; try dsimp only)
  all_goals try refine stay ?_
  refine EndP.mk [] ?_ <;> (repeat' first | trivial)
def sm_cErr : Sm := fun args σ => match args, σ with
  | [.ptr 0 0], [.cells ([.str s_c, .int .i64 (.ofNat a_c), .int .i64 (.ofNat e_c), .int .i64 c_c])] => some (True ∧ (True), .int .i64 (Cu.mk s_c a_c e_c c_c).c, none)
  | _, _ => none
theorem k_cErr : SOK 49 sm_cErr := by
  intro args sg pre x r he hp
  unfold sm_cErr at he
  split at he <;> cases he
  · rw [viewC (hp).1]; exact f_cErr_1 (hp := hp.2) ..
theorem f_cLeft_1 (c : Cu) (hp : c.ok) : OK 58 ([.ptr 0 0]) ([.cells (eC c)]) (.int .i64 c.left) (none) := by
  refine funOK_of_vc (C := cx []) (good trivial) (fn := Tryd.f58) rfl rfl rfl rfl fun hw hs => ?_
  obtain ⟨h1, h2⟩ := hp
  have hb : c.s.length ≤ 9223372036854775807 := hs.1.1
  all_goals try conv => whnf
  all_goals try (refine Side.mk ?_; try dsimp only)
  all_goals try refine stay ?_
  refine EndP.mk [] ?_ <;> (repeat' first | trivial | apply andI | apply eqB)
  unfold Cu.left; (simp (discharger := omega) only [wR]; omega)
def sm_cLeft : Sm := fun args σ => match args, σ with
  | [.ptr 0 0], [.cells ([.str s_c, .int .i64 (.ofNat a_c), .int .i64 (.ofNat e_c), .int .i64 c_c])] => some (True ∧ ((Cu.mk s_c a_c e_c c_c).ok), .int .i64 (Cu.mk s_c a_c e_c c_c).left, none)
  | _, _ => none
theorem k_cLeft : SOK 58 sm_cLeft := by
  intro args sg pre x r he hp
  unfold sm_cLeft at he
  split at he <;> cases he
  · rw [viewC (hp).1]; exact f_cLeft_1 (hp := hp.2) ..
theorem f_cFail_1 (c : Cu) (k : Int) (hp : True) : OK 75 ([.ptr 0 0, .int .i64 k]) ([.cells (eC c)]) (.tuple []) (some [.cells (eC (c.fail k))]) := by
  refine funOK_of_vc (C := cx []) (good trivial) (fn := Tryd.f75) rfl rfl rfl rfl fun hw hs => ?_
  repeat' ((conv => whnf); (apply go6 <;> intro h))
  all_goals try conv => whnf
  all_goals try (refine Side.mk ?_; try dsimp only)
  all_goals try refine stay ?_
  all_goals
    unfold Cu.fail
    first | rw [if_pos (by assumption)] | rw [if_neg (by assumption)]
    refine EndP.mk [] ?_ <;> (repeat' first | trivial)
def sm_cFail : Sm := fun args σ => match args, σ with
  | [.ptr 0 0, .int .i64 k], [.cells ([.str s_c, .int .i64 (.ofNat a_c), .int .i64 (.ofNat e_c), .int .i64 c_c])] => some (True ∧ (True), .tuple [], some [.cells (eC ((Cu.mk s_c a_c e_c c_c).fail k))])
  | _, _ => none
theorem k_cFail : SOK 75 sm_cFail := by
  intro args sg pre x r he hp
  unfold sm_cFail at he
  split at he <;> cases he
  · rw [viewC (hp).1]; exact f_cFail_1 (hp := hp.2) ..
theorem f_cPass_1 (c : Cu) (n : Int) (hp : c.ok) : OK 79 ([.ptr 0 0, .int .i64 n]) ([.cells (eC c)]) (.tuple [.int .i64 (if c.may n = true then (c.p : Int) else 0), .bool (c.may n)]) (some [.cells (eC (c.pass n))]) := by
  refine funOK_of_vc (C := cx []) (good trivial) (fn := Tryd.f79) rfl rfl rfl rfl fun hw hs => ?_
  obtain ⟨h1, h2⟩ := hp
  have hb : c.s.length ≤ 9223372036854775807 := hs.1.1
  repeat' ((conv => whnf); first | apply go5 | (apply go6 <;> intro h))
  all_goals try conv => whnf
  all_goals try (refine Side.mk ?_; try dsimp only)
  all_goals try refine stay ?_
  all_goals (try rw [show IntKind.i64.wrap (↑c.e - ↑c.p) = (c.e : Int) - c.p by (simp (discharger := omega) only [wR]; omega)] at *)
  all_goals
    have hm : c.may n = decide (c.c = 0 ∧ 0 ≤ n ∧ n ≤ c.e - c.p) := rfl
    first
    | rw [decide_eq_true (by omega)] at hm
    | rw [decide_eq_false (by omega)] at hm
    rw [hm]
    unfold Cu.pass
    repeat (first | rw [if_pos (by first | rfl | assumption | omega)] | rw [if_neg (by first | exact Bool.false_ne_true | assumption | omega)])
    refine EndP.mk [] ?_ <;> (repeat' first | trivial | apply andI | apply eqB | apply eqE | apply eqI)
  show IntKind.i64.wrap (c.p + n) = ((c.p + n.toNat : Nat) : Int)
  (simp (discharger := omega) only [wR]; omega)
def sm_cPass : Sm := fun args σ => match args, σ with
  | [.ptr 0 0, .int .i64 n], [.cells ([.str s_c, .int .i64 (.ofNat a_c), .int .i64 (.ofNat e_c), .int .i64 c_c])] => some (True ∧ ((Cu.mk s_c a_c e_c c_c).ok), .tuple [.int .i64 (if (Cu.mk s_c a_c e_c c_c).may n = true then ((Cu.mk s_c a_c e_c c_c).p : Int) else 0), .bool ((Cu.mk s_c a_c e_c c_c).may n)], some [.cells (eC ((Cu.mk s_c a_c e_c c_c).pass n))])
  | _, _ => none
theorem k_cPass : SOK 79 sm_cPass := by
  intro args sg pre x r he hp
  unfold sm_cPass at he
  split at he <;> cases he
  · rw [viewC (hp).1]; exact f_cPass_1 (hp := hp.2) ..
theorem f_cByte1_1 (c : Cu) (n : Int) (x : V) (hp : 0 ≤ n ∧ n < c.s.length) : OK 80 ([.int .i64 n, .ptr 0 0, .ptr 1 0]) ([.cells [.ptr 2 0], .cells [x], .cells (eC c)]) (.tuple []) (some [.cells [.ptr 2 0], .cells [bv (c.s.getD n.toNat 0)], .cells (eC c)]) := by
  refine funOK_of_vc (C := cx []) (good trivial) (fn := Tryd.f80) rfl rfl rfl rfl fun hw hs => ?_
  repeat' ((conv => whnf); first | apply go3 | with_reducible refine goE ?_ fun hc => ?_)
  all_goals try conv => whnf
  all_goals try (refine Side.mk ?_; try dsimp only)
  all_goals first | refine stay ?_ | omega | skip
  refine EndP.mk [] ?_ <;> (repeat' first | trivial)
def sm_cByte1 : Sm := fun args σ => match args, σ with
  | [.int .i64 n, .ptr 0 0, .ptr 1 0], [.cells [.ptr 2 0], .cells [x], .cells ([.str s_c, .int .i64 (.ofNat a_c), .int .i64 (.ofNat e_c), .int .i64 c_c])] => some (True ∧ (0 ≤ n ∧ n < (Cu.mk s_c a_c e_c c_c).s.length), .tuple [], some [.cells [.ptr 2 0], .cells [bv ((Cu.mk s_c a_c e_c c_c).s.getD n.toNat 0)], .cells (eC (Cu.mk s_c a_c e_c c_c))])
  | _, _ => none
theorem k_cByte1 : SOK 80 sm_cByte1 := by
  intro args sg pre x r he hp
  unfold sm_cByte1 at he
  split at he <;> cases he
  · rw [viewC (hp).1]; exact f_cByte1_1 (hp := hp.2) ..
theorem f_cPassB_1 (c : Cu) (n : Int) (x : Int) (hp : c.ok ∧ n = 1 ∧ x = 0) : OK 78 ([.func (.func 79) [.ptr 0 0] [], .int .i64 n, .func (.func 80) [] [.ptr 1 0, .ptr 2 0]]) ([.cells (eC c), .cells [.ptr 0 0], .cells [.int .u8 x]]) (.tuple []) (some [.cells (eC c.byte), .cells [.ptr 0 0], .cells [bv c.byteV]]) := by
  refine funOK_of_vc (C := cx [(79, sm_cPass), (80, sm_cByte1)]) (good ⟨k_cPass, k_cByte1, trivial⟩) (fn := Tryd.f78) rfl rfl rfl rfl fun hw hs => ?_
  obtain ⟨hp, rfl, rfl⟩ := hp
  have h1 := hp.1
  have h2 := hp.2
  have hq := pass_ok hp 1
  repeat' ((conv => whnf); first | apply go3 | (apply go6 <;> intro h))
  all_goals try conv => whnf
  all_goals try (refine Side.mk ?_; try dsimp only)
  all_goals (try simp only [Cu_eta] at *)
  all_goals first | refine stay ?_ | trivial | skip
  · have hm : c.may 1 = true := decide_eq_true (by assumption)
    rw [hm, if_pos rfl, hq.2.1]
    exact ⟨trivial, by omega, by omega⟩
  · have hm : c.may 1 = true := decide_eq_true (by assumption)
    refine EndP.mk [] ?_ <;> (repeat' first | trivial | apply andI | apply eqB | apply eqE | apply eqI)
    rw [hm, if_pos rfl, hq.2.1]
    unfold Cu.byteV
    rw [if_pos (by omega)]
    rfl
  · refine EndP.mk [] ?_ <;> (repeat' first | trivial | apply andI | apply eqB | apply eqE | apply eqI)
    unfold Cu.byteV
    rw [if_neg (by omega)]
    rfl
def sm_cPassB : Sm := fun args σ => match args, σ with
  | [.func (.func 79) [.ptr 0 0] [], .int .i64 n, .func (.func 80) [] [.ptr 1 0, .ptr 2 0]], [.cells ([.str s_c, .int .i64 (.ofNat a_c), .int .i64 (.ofNat e_c), .int .i64 c_c]), .cells [.ptr 0 0], .cells [.int .u8 x]] => some (True ∧ ((Cu.mk s_c a_c e_c c_c).ok ∧ n = 1 ∧ x = 0), .tuple [], some [.cells (eC (Cu.mk s_c a_c e_c c_c).byte), .cells [.ptr 0 0], .cells [bv (Cu.mk s_c a_c e_c c_c).byteV]])
  | _, _ => none
theorem k_cPassB : SOK 78 sm_cPassB := by
  intro args sg pre x r he hp
  unfold sm_cPassB at he
  split at he <;> cases he
  · rw [viewC (hp).1]; exact f_cPassB_1 (hp := hp.2) ..
theorem f_cByte_1 (c : Cu) (hp : c.ok) : OK 76 ([.ptr 0 0]) ([.cells (eC c)]) (bv c.byteV) (some [.cells (eC c.byte)]) := by
  refine funOK_of_vc (C := cx [(78, sm_cPassB)]) (good ⟨k_cPassB, trivial⟩) (fn := Tryd.f76) rfl rfl rfl rfl fun hw hs => ?_
  repeat' ((conv => whnf); apply go3)
  all_goals try conv => whnf
  all_goals try (refine Side.mk ?_; try dsimp only)
  all_goals (try simp only [Cu_eta] at *)
  all_goals first | refine stay ?_ | trivial | skip
  refine EndP.mk [] ?_ <;> (repeat' first | trivial)
def sm_cByte : Sm := fun args σ => match args, σ with
  | [.ptr 0 0], [.cells ([.str s_c, .int .i64 (.ofNat a_c), .int .i64 (.ofNat e_c), .int .i64 c_c])] => some (True ∧ ((Cu.mk s_c a_c e_c c_c).ok), bv (Cu.mk s_c a_c e_c c_c).byteV, some [.cells (eC (Cu.mk s_c a_c e_c c_c).byte)])
  | _, _ => none
theorem k_cByte : SOK 76 sm_cByte := by
  intro args sg pre x r he hp
  unfold sm_cByte at he
  split at he <;> cases he
  · rw [viewC (hp).1]; exact f_cByte_1 (hp := hp.2) ..
end Go.Proofs.YtkkfdkfopdjomaaDoor
