/-
  A part of the proof.
-/
import Derived.Test.YtllncocibkgjkaaGreatTxt0
set_option linter.unusedSimpArgs false
set_option linter.unusedVariables false
set_option maxHeartbeats 4000000
namespace Go.Proofs.YtllncocibkgjkaaGreat
open Go Go.VG
set_option maxRecDepth 100000
structure Cu where
 s : List UInt8
 p : Nat
 e : Nat
 c : Int
abbrev eC (c : Cu) : List V := [.str c.s, .int .i64 c.p, .int .i64 c.e, .int .i64 c.c]
theorem bZ {s : List UInt8} {a e : Nat} {c : Int} (_ : True) : [V.str s, .int .i64 (.ofNat a), .int .i64 (.ofNat e), .int .i64 c] = eC ⟨s, a, e, c⟩ := rfl
@[simp] theorem aP (c : Cu) : Cu.mk c.s c.p c.e c.c = c := rfl
def Cu.ok (c : Cu) : Prop := c.p ≤ c.e ∧ c.e ≤ c.s.length
def Cu.fail (c : Cu) (k : Int) : Cu := if c.c = 0 then { c with c := k } else c
def Cu.get (c : Cu) : UInt8 := c.s.getD c.p 0
def Cu.pass (c : Cu) (n : Int) : Cu := if c.c ≠ 0 then c else if n < 0 then { c with c := 13 } else if n > c.e - c.p then { c with c := 1 } else { c with p := c.p + n.toNat }
def Cu.may (c : Cu) (n : Int) : Bool := decide (c.c = 0 ∧ 0 ≤ n ∧ n ≤ c.e - c.p)
def Cu.byte (c : Cu) : Cu := c.pass 1
def Cu.ah (c : Cu) : UInt8 := if c.c = 0 ∧ c.p < c.e then c.get else 0
def Cu.new (s : List UInt8) : Cu := ⟨s, 0, s.length, 0⟩
def Cu.left (c : Cu) : Int := c.e - c.p
theorem ka {c : Cu} (h : c.ok) (n : Int) : (c.pass n).ok ∧ (c.pass n).s = c.s ∧ (c.pass n).e = c.e := by
 obtain ⟨h1, h2⟩ := h
 unfold Cu.pass
 repeat' split
 all_goals (refine ⟨⟨?_, ?_⟩, rfl, rfl⟩ <;> (try dsimp only) <;> omega)
theorem eV {c : Cu} (h : c.ok) (k : Int) : (c.fail k).ok ∧ (c.fail k).s = c.s ∧ (c.fail k).e = c.e ∧ (c.fail k).p = c.p := by
 unfold Cu.fail; split <;> exact ⟨h, rfl, rfl, rfl⟩
theorem EN (s : List UInt8) (hp : True) : OK 39 ([.str s]) ([]) (.ptr 0 0) (some [.cells (eC (.new s))]) := by
 refine aq (C := cx []) (ar trivial) (fn := Tryz.f39) rfl rfl rfl rfl fun hw hs => ?_
 all_goals try conv => whnf
 all_goals try (refine ab.mk ?_; try dsimp only)
 all_goals try refine stay ?_
 refine a8.mk [] ?_ <;> (repeat' first | trivial)
def wc : Sm := fun args σ => match args, σ with
 | [.str s], [] => some (True, .ptr 0 0, some [.cells (eC (.new s))])
 | _, _ => none
theorem Hm : ay 39 wc := by
 intro args sg pre x r he hp
 unfold wc at he
 split at he <;> cases he
 . exact EN (hp := hp) ..
theorem EK (c : Cu) (hp : True) : OK 73 ([.ptr 0 0]) ([.cells (eC c)]) (.int .i64 c.c) (none) := by
 refine aq (C := cx []) (ar trivial) (fn := Tryz.f73) rfl rfl rfl rfl fun hw hs => ?_
 all_goals try conv => whnf
 all_goals try (refine ab.mk ?_; try dsimp only)
 all_goals try refine stay ?_
 refine a8.mk [] ?_ <;> (repeat' first | trivial)
def jD : Sm := fun args σ => match args, σ with
 | [.ptr 0 0], [.cells ([.str s_c, .int .i64 (.ofNat a_c), .int .i64 (.ofNat e_c), .int .i64 c_c])] => some (True ∧ (True), .int .i64 (Cu.mk s_c a_c e_c c_c).c, none)
 | _, _ => none
theorem kG : ay 73 jD := by
 intro args sg pre x r he hp
 unfold jD at he
 split at he <;> cases he
 . rw [bZ (hp).1]; exact EK (hp := hp.2) ..
theorem EM (c : Cu) (hp : c.ok) : OK 109 ([.ptr 0 0]) ([.cells (eC c)]) (.int .i64 c.left) (none) := by
 refine aq (C := cx []) (ar trivial) (fn := Tryz.f109) rfl rfl rfl rfl fun hw hs => ?_
 obtain ⟨h1, h2⟩ := hp
 have hb : c.s.length ≤ 9223372036854775807 := hs.1.1
 all_goals try conv => whnf
 all_goals try (refine ab.mk ?_; try dsimp only)
 all_goals try refine stay ?_
 refine a8.mk [] ?_ <;> (repeat' first | trivial | apply aj | apply aR)
 unfold Cu.left; (simp (discharger := omega) only [wR]; omega)
def wb : Sm := fun args σ => match args, σ with
 | [.ptr 0 0], [.cells ([.str s_c, .int .i64 (.ofNat a_c), .int .i64 (.ofNat e_c), .int .i64 c_c])] => some (True ∧ ((Cu.mk s_c a_c e_c c_c).ok), .int .i64 (Cu.mk s_c a_c e_c c_c).left, none)
 | _, _ => none
theorem Hl : ay 109 wb := by
 intro args sg pre x r he hp
 unfold wb at he
 split at he <;> cases he
 . rw [bZ (hp).1]; exact EM (hp := hp.2) ..
theorem ER (c : Cu) (hp : c.ok) : OK 96 ([.ptr 0 0]) ([.cells (eC c)]) (.tuple [bv c.ah, .bool (decide (c.c = 0 ∧ c.p < c.e))]) (none) := by
 refine aq (C := cx []) (ar trivial) (fn := Tryz.f96) rfl rfl rfl rfl fun hw hs => ?_
 obtain ⟨h1, h2⟩ := hp
 repeat' ((conv => whnf); first | apply ak | apply aV | (apply al <;> intro h) | with_reducible refine et ?_ fun hc => ?_)
 all_goals try conv => whnf
 all_goals try (refine ab.mk ?_; try dsimp only)
 all_goals first | refine stay ?_ | omega | skip
 all_goals
  unfold Cu.ah
  first | rw [if_pos (by omega)] | rw [if_neg (by omega)]
  refine a8.mk [] ?_ <;> (repeat' first | trivial | apply aj | apply ky | apply jr | apply dm)
  all_goals simp; omega
def lY : Sm := fun args σ => match args, σ with
 | [.ptr 0 0], [.cells ([.str s_c, .int .i64 (.ofNat a_c), .int .i64 (.ofNat e_c), .int .i64 c_c])] => some (True ∧ ((Cu.mk s_c a_c e_c c_c).ok), .tuple [bv (Cu.mk s_c a_c e_c c_c).ah, .bool (decide ((Cu.mk s_c a_c e_c c_c).c = 0 ∧ (Cu.mk s_c a_c e_c c_c).p < (Cu.mk s_c a_c e_c c_c).e))], none)
 | _, _ => none
theorem nY : ay 96 lY := by
 intro args sg pre x r he hp
 unfold lY at he
 split at he <;> cases he
 . rw [bZ (hp).1]; exact ER (hp := hp.2) ..
theorem EL (c : Cu) (k : Int) (hp : True) : OK 104 ([.ptr 0 0, .int .i64 k]) ([.cells (eC c)]) (.tuple []) (some [.cells (eC (c.fail k))]) := by
 refine aq (C := cx []) (ar trivial) (fn := Tryz.f104) rfl rfl rfl rfl fun hw hs => ?_
 repeat' ((conv => whnf); (apply al <;> intro h))
 all_goals try conv => whnf
 all_goals try (refine ab.mk ?_; try dsimp only)
 all_goals try refine stay ?_
 all_goals
  unfold Cu.fail
  first | rw [if_pos (by assumption)] | rw [if_neg (by assumption)]
  refine a8.mk [] ?_ <;> (repeat' first | trivial)
def jE : Sm := fun args σ => match args, σ with
 | [.ptr 0 0, .int .i64 k], [.cells ([.str s_c, .int .i64 (.ofNat a_c), .int .i64 (.ofNat e_c), .int .i64 c_c])] => some (True ∧ (True), .tuple [], some [.cells (eC ((Cu.mk s_c a_c e_c c_c).fail k))])
 | _, _ => none
theorem kH : ay 104 jE := by
 intro args sg pre x r he hp
 unfold jE at he
 split at he <;> cases he
 . rw [bZ (hp).1]; exact EL (hp := hp.2) ..
theorem EP (c : Cu) (n : Int) (hp : c.ok) : OK 122 ([.ptr 0 0, .int .i64 n]) ([.cells (eC c)]) (.tuple [.int .i64 (if c.may n = true then (c.p : Int) else 0), .bool (c.may n)]) (some [.cells (eC (c.pass n))]) := by
 refine aq (C := cx []) (ar trivial) (fn := Tryz.f122) rfl rfl rfl rfl fun hw hs => ?_
 obtain ⟨h1, h2⟩ := hp
 have hb : c.s.length ≤ 9223372036854775807 := hs.1.1
 repeat' ((conv => whnf); first | apply aV | (apply al <;> intro h))
 all_goals try conv => whnf
 all_goals try (refine ab.mk ?_; try dsimp only)
 all_goals try refine stay ?_
 all_goals (try rw [show IntKind.i64.wrap (↑c.e - ↑c.p) = (c.e : Int) - c.p by (simp (discharger := omega) only [wR]; omega)] at *)
 all_goals
  have hm : c.may n = decide (c.c = 0 ∧ 0 ≤ n ∧ n ≤ c.e - c.p) := rfl
  first
  | rw [decide_eq_true (by omega)] at hm
  | rw [decide_eq_false (by omega)] at hm
  rw [hm]
  unfold Cu.pass
  repeat (first | rw [if_pos (by first | rfl | assumption | omega)] | rw [if_neg (by first | exact Bool.false_ne_true | assumption | omega)])
  refine a8.mk [] ?_ <;> (repeat' first | trivial | apply aj | apply aR | apply eqE | apply dm)
 show IntKind.i64.wrap (c.p + n) = ((c.p + n.toNat : Nat) : Int)
 (simp (discharger := omega) only [wR]; omega)
def we : Sm := fun args σ => match args, σ with
 | [.ptr 0 0, .int .i64 n], [.cells ([.str s_c, .int .i64 (.ofNat a_c), .int .i64 (.ofNat e_c), .int .i64 c_c])] => some (True ∧ ((Cu.mk s_c a_c e_c c_c).ok), .tuple [.int .i64 (if (Cu.mk s_c a_c e_c c_c).may n = true then ((Cu.mk s_c a_c e_c c_c).p : Int) else 0), .bool ((Cu.mk s_c a_c e_c c_c).may n)], some [.cells (eC ((Cu.mk s_c a_c e_c c_c).pass n))])
 | _, _ => none
theorem Hn : ay 122 we := by
 intro args sg pre x r he hp
 unfold we at he
 split at he <;> cases he
 . rw [bZ (hp).1]; exact EP (hp := hp.2) ..
theorem EI (c : Cu) (n : Int) (x : V) (hp : 0 ≤ n ∧ n < c.s.length) : OK 123 ([.int .i64 n, .ptr 0 0, .ptr 1 0]) ([.cells [.ptr 2 0], .cells [x], .cells (eC c)]) (.tuple []) (some [.cells [.ptr 2 0], .cells [bv (c.s.getD n.toNat 0)], .cells (eC c)]) := by
 refine aq (C := cx []) (ar trivial) (fn := Tryz.f123) rfl rfl rfl rfl fun hw hs => ?_
 repeat' ((conv => whnf); first | apply ak | with_reducible refine mG ?_ fun hc => ?_)
 all_goals try conv => whnf
 all_goals try (refine ab.mk ?_; try dsimp only)
 all_goals first | refine stay ?_ | omega | skip
 refine a8.mk [] ?_ <;> (repeat' first | trivial)
def wa : Sm := fun args σ => match args, σ with
 | [.int .i64 n, .ptr 0 0, .ptr 1 0], [.cells [.ptr 2 0], .cells [x], .cells ([.str s_c, .int .i64 (.ofNat a_c), .int .i64 (.ofNat e_c), .int .i64 c_c])] => some (True ∧ (0 ≤ n ∧ n < (Cu.mk s_c a_c e_c c_c).s.length), .tuple [], some [.cells [.ptr 2 0], .cells [bv ((Cu.mk s_c a_c e_c c_c).s.getD n.toNat 0)], .cells (eC (Cu.mk s_c a_c e_c c_c))])
 | _, _ => none
theorem Hk : ay 123 wa := by
 intro args sg pre x r he hp
 unfold wa at he
 split at he <;> cases he
 . rw [bZ (hp).1]; exact EI (hp := hp.2) ..
theorem EO (c : Cu) (n : Int) (x : Int) (hp : c.ok ∧ n = 1 ∧ x = 0) : OK 121 ([.func (.func 122) [.ptr 0 0] [], .int .i64 n, .func (.func 123) [] [.ptr 1 0, .ptr 2 0]]) ([.cells (eC c), .cells [.ptr 0 0], .cells [.int .u8 x]]) (.tuple []) (some [.cells (eC c.byte), .cells [.ptr 0 0], .cells [bv c.ah]]) := by
 refine aq (C := cx [(122, we), (123, wa)]) (ar ⟨Hn, Hk, trivial⟩) (fn := Tryz.f121) rfl rfl rfl rfl fun hw hs => ?_
 obtain ⟨hp, rfl, rfl⟩ := hp
 have h1 := hp.1
 have h2 := hp.2
 have hq := ka hp 1
 repeat' ((conv => whnf); first | apply ak | (apply al <;> intro h))
 all_goals try conv => whnf
 all_goals try (refine ab.mk ?_; try dsimp only)
 all_goals (try simp only [aP] at *)
 all_goals first | refine stay ?_ | trivial | skip
 . have hm : c.may 1 = true := decide_eq_true (by assumption)
   rw [hm, if_pos rfl, hq.2.1]
   exact ⟨trivial, by omega, by omega⟩
 . have hm : c.may 1 = true := decide_eq_true (by assumption)
   refine a8.mk [] ?_ <;> (repeat' first | trivial | apply aj | apply aR | apply eqE | apply dm)
   rw [hm, if_pos rfl, hq.2.1]
   unfold Cu.ah
   rw [if_pos (by omega)]
   rfl
 . refine a8.mk [] ?_ <;> (repeat' first | trivial | apply aj | apply aR | apply eqE | apply dm)
   unfold Cu.ah
   rw [if_neg (by omega)]
   rfl
def wg : Sm := fun args σ => match args, σ with
 | [.func (.func 122) [.ptr 0 0] [], .int .i64 n, .func (.func 123) [] [.ptr 1 0, .ptr 2 0]], [.cells ([.str s_c, .int .i64 (.ofNat a_c), .int .i64 (.ofNat e_c), .int .i64 c_c]), .cells [.ptr 0 0], .cells [.int .u8 x]] => some (True ∧ ((Cu.mk s_c a_c e_c c_c).ok ∧ n = 1 ∧ x = 0), .tuple [], some [.cells (eC (Cu.mk s_c a_c e_c c_c).byte), .cells [.ptr 0 0], .cells [bv (Cu.mk s_c a_c e_c c_c).ah]])
 | _, _ => none
theorem Ho : ay 121 wg := by
 intro args sg pre x r he hp
 unfold wg at he
 split at he <;> cases he
 . rw [bZ (hp).1]; exact EO (hp := hp.2) ..
theorem EJ (c : Cu) (hp : c.ok) : OK 98 ([.ptr 0 0]) ([.cells (eC c)]) (bv c.ah) (some [.cells (eC c.byte)]) := by
 refine aq (C := cx [(121, wg)]) (ar ⟨Ho, trivial⟩) (fn := Tryz.f98) rfl rfl rfl rfl fun hw hs => ?_
 repeat' ((conv => whnf); apply ak)
 all_goals try conv => whnf
 all_goals try (refine ab.mk ?_; try dsimp only)
 all_goals (try simp only [aP] at *)
 all_goals first | refine stay ?_ | trivial | skip
 refine a8.mk [] ?_ <;> (repeat' first | trivial)
def jd : Sm := fun args σ => match args, σ with
 | [.ptr 0 0], [.cells ([.str s_c, .int .i64 (.ofNat a_c), .int .i64 (.ofNat e_c), .int .i64 c_c])] => some (True ∧ ((Cu.mk s_c a_c e_c c_c).ok), bv (Cu.mk s_c a_c e_c c_c).ah, some [.cells (eC (Cu.mk s_c a_c e_c c_c).byte)])
 | _, _ => none
theorem jV : ay 98 jd := by
 intro args sg pre x r he hp
 unfold jd at he
 split at he <;> cases he
 . rw [bZ (hp).1]; exact EJ (hp := hp.2) ..
end Go.Proofs.YtllncocibkgjkaaGreat
