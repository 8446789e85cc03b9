/-
  A part of the proof.
-/
import Derived.Test.YtllncocibkgjkaaGreatTxt0
set_option linter.unusedSimpArgs false
set_option linter.unusedVariables false
set_option maxHeartbeats 4000000
namespace Go.Proofs.YtllncocibkgjkaaGreat
open Go Go.VG
set_option maxRecDepth 100000
structure Cu where
 s : List UInt8
 p : Nat
 e : Nat
 c : Int
abbrev eC (c : Cu) : List V := [.str c.s, .int .i64 c.p, .int .i64 c.e, .int .i64 c.c]
theorem c7 {s : List UInt8} {a e : Nat} {c : Int} (_ : True) : [V.str s, .int .i64 (.ofNat a), .int .i64 (.ofNat e), .int .i64 c] = eC ⟨s, a, e, c⟩ := rfl
@[simp] theorem aK (c : Cu) : Cu.mk c.s c.p c.e c.c = c := rfl
def Cu.ok (c : Cu) : Prop := c.p ≤ c.e ∧ c.e ≤ c.s.length
def Cu.fail (c : Cu) (k : Int) : Cu := if c.c = 0 then { c with c := k } else c
def Cu.get (c : Cu) : UInt8 := c.s.getD c.p 0
def Cu.pass (c : Cu) (n : Int) : Cu := if c.c ≠ 0 then c else if n < 0 then { c with c := 13 } else if n > c.e - c.p then { c with c := 1 } else { c with p := c.p + n.toNat }
def Cu.may (c : Cu) (n : Int) : Bool := decide (c.c = 0 ∧ 0 ≤ n ∧ n ≤ c.e - c.p)
def Cu.byte (c : Cu) : Cu := c.pass 1
def Cu.ai (c : Cu) : UInt8 := if c.c = 0 ∧ c.p < c.e then c.get else 0
def Cu.new (s : List UInt8) : Cu := ⟨s, 0, s.length, 0⟩
def Cu.left (c : Cu) : Int := c.e - c.p
def Cu.fin (c : Cu) : Int := if c.c ≠ 0 then c.c else if c.e > c.p then 2 else 0
theorem jZ {c : Cu} (h : c.ok) (n : Int) : (c.pass n).ok ∧ (c.pass n).s = c.s ∧ (c.pass n).e = c.e := by
 obtain ⟨h1, h2⟩ := h
 unfold Cu.pass
 repeat' split
 all_goals (refine ⟨⟨?_, ?_⟩, rfl, rfl⟩ <;> (try dsimp only) <;> omega)
theorem fh {c : Cu} (h : c.ok) (k : Int) : (c.fail k).ok ∧ (c.fail k).s = c.s ∧ (c.fail k).e = c.e ∧ (c.fail k).p = c.p := by
 unfold Cu.fail; split <;> exact ⟨h, rfl, rfl, rfl⟩
theorem Fa (s : List UInt8) (hp : True) : OK 39 ([.str s]) ([]) (.ptr 0 0) (some [.cells (eC (.new s))]) := by
 refine au (C := cx []) (aq trivial) (fn := Tryz.f39) rfl rfl rfl rfl fun hw hs => ?_
 all_goals try conv => whnf
 all_goals try (refine a9.mk ?_; try dsimp only)
 all_goals try refine stay ?_
 refine a8.mk [] ?_ <;> (repeat' first | trivial)
def sZ : Sm := fun args σ => match args, σ with
 | [.str s], [] => some (True, .ptr 0 0, some [.cells (eC (.new s))])
 | _, _ => none
theorem AA : aw 39 sZ := by
 intro args sg pre x r he hp
 unfold sZ at he
 split at he <;> cases he
 . exact Fa (hp := hp) ..
theorem F7 (c : Cu) (hp : True) : OK 73 ([.ptr 0 0]) ([.cells (eC c)]) (.int .i64 c.c) (none) := by
 refine au (C := cx []) (aq trivial) (fn := Tryz.f73) rfl rfl rfl rfl fun hw hs => ?_
 all_goals try conv => whnf
 all_goals try (refine a9.mk ?_; try dsimp only)
 all_goals try refine stay ?_
 refine a8.mk [] ?_ <;> (repeat' first | trivial)
def j8 : Sm := fun args σ => match args, σ with
 | [.ptr 0 0], [.cells ([.str s_c, .int .i64 (.ofNat a_c), .int .i64 (.ofNat e_c), .int .i64 c_c])] => some (True ∧ (True), .int .i64 (Cu.mk s_c a_c e_c c_c).c, none)
 | _, _ => none
theorem jR : aw 73 j8 := by
 intro args sg pre x r he hp
 unfold j8 at he
 split at he <;> cases he
 . rw [c7 (hp).1]; exact F7 (hp := hp.2) ..
theorem F9 (c : Cu) (hp : c.ok) : OK 109 ([.ptr 0 0]) ([.cells (eC c)]) (.int .i64 c.left) (none) := by
 refine au (C := cx []) (aq trivial) (fn := Tryz.f109) rfl rfl rfl rfl fun hw hs => ?_
 obtain ⟨h1, h2⟩ := hp
 have hb : c.s.length ≤ 9223372036854775807 := hs.1.1
 all_goals try conv => whnf
 all_goals try (refine a9.mk ?_; try dsimp only)
 all_goals try refine stay ?_
 refine a8.mk [] ?_ <;> (repeat' first | trivial | apply ae | apply aI)
 unfold Cu.left; (simp (discharger := omega) only [wR]; omega)
def sY : Sm := fun args σ => match args, σ with
 | [.ptr 0 0], [.cells ([.str s_c, .int .i64 (.ofNat a_c), .int .i64 (.ofNat e_c), .int .i64 c_c])] => some (True ∧ ((Cu.mk s_c a_c e_c c_c).ok), .int .i64 (Cu.mk s_c a_c e_c c_c).left, none)
 | _, _ => none
theorem Az : aw 109 sY := by
 intro args sg pre x r he hp
 unfold sY at he
 split at he <;> cases he
 . rw [c7 (hp).1]; exact F9 (hp := hp.2) ..
theorem F6 (c : Cu) (hp : c.ok) : OK 77 ([.ptr 0 0]) ([.cells (eC c)]) (.int .i64 c.fin) (none) := by
 refine au (C := cx [(73, j8), (109, sY)]) (aq ⟨jR, Az, trivial⟩) (fn := Tryz.f77) rfl rfl rfl rfl fun hw hs => ?_
 repeat' ((conv => whnf); first | with_reducible (first | refine go1 (fun j q h => ?_) fun h => ?_ | refine go2 ⟨rfl, rfl⟩ (fun h => ?_) fun j h => ?_ | refine go2 ?_ (fun h => ?_) fun j h => ?_ | refine gb ?_ (fun h => ?_) fun h => ?_) | apply ak | apply jk | apply aW | ((first | apply al | apply go7 | apply go8 | apply ga | apply jN) <;> intro h) | with_reducible (first | refine jy.mk _ rfl ?_ | refine goB ?_ fun hc => ?_ | refine goC ?_ fun hc => ?_ | refine c8 ?_ fun hc => ?_ | refine eH ?_ fun hc => ?_ | apply lR | apply gF | refine mR ?_ fun b hb => ?_) | apply og | apply goJ | apply goK | apply goL | apply goM | apply goN | apply goO | with_reducible refine goP ?_)
 all_goals try conv => whnf
 all_goals try (refine a9.mk ?_; try dsimp only)
 all_goals (try simp only [aK] at *)
 all_goals first | refine stay ?_ | trivial | omega | (simp (discharger := omega) only [wR]; omega) | (simp only [ig]; omega) | (simp (discharger := omega) [-List.getD_eq_getElem?_getD, wR] <;> omega) | skip
 all_goals first
  | exact ⟨trivial, hp⟩
  | skip
 all_goals (try simp only [aK] at *)
 all_goals
  have he : c.left = (c.e : Int) - c.p := rfl
  unfold Cu.fin
  repeat (first | rw [if_pos (by first | assumption | omega)] | rw [if_neg (by first | assumption | omega)])
  refine a8.mk [] ?_ <;> (repeat' first | trivial | rfl | exact eqS _ _ | apply ae | apply cC | apply aI | apply jF | apply br | apply gC | apply eqF | apply fZ | apply hP | apply bU)
def wy : Sm := fun args σ => match args, σ with
 | [.ptr 0 0], [.cells ([.str s_c, .int .i64 (.ofNat a_c), .int .i64 (.ofNat e_c), .int .i64 c_c])] => some (True ∧ ((Cu.mk s_c a_c e_c c_c).ok), .int .i64 (Cu.mk s_c a_c e_c c_c).fin, none)
 | _, _ => none
theorem HM : aw 77 wy := by
 intro args sg pre x r he hp
 unfold wy at he
 split at he <;> cases he
 . rw [c7 (hp).1]; exact F6 (hp := hp.2) ..
theorem Fe (c : Cu) (hp : c.ok) : OK 96 ([.ptr 0 0]) ([.cells (eC c)]) (.tuple [bv c.ai, .bool (decide (c.c = 0 ∧ c.p < c.e))]) (none) := by
 refine au (C := cx []) (aq trivial) (fn := Tryz.f96) rfl rfl rfl rfl fun hw hs => ?_
 obtain ⟨h1, h2⟩ := hp
 repeat' ((conv => whnf); first | apply ak | apply aW | (apply al <;> intro h) | with_reducible refine c8 ?_ fun hc => ?_)
 all_goals try conv => whnf
 all_goals try (refine a9.mk ?_; try dsimp only)
 all_goals first | refine stay ?_ | omega | skip
 all_goals
  unfold Cu.ai
  first | rw [if_pos (by omega)] | rw [if_neg (by omega)]
  refine a8.mk [] ?_ <;> (repeat' first | trivial | apply ae | apply jF | apply hP | apply bU)
  all_goals simp; omega
def me : Sm := fun args σ => match args, σ with
 | [.ptr 0 0], [.cells ([.str s_c, .int .i64 (.ofNat a_c), .int .i64 (.ofNat e_c), .int .i64 c_c])] => some (True ∧ ((Cu.mk s_c a_c e_c c_c).ok), .tuple [bv (Cu.mk s_c a_c e_c c_c).ai, .bool (decide ((Cu.mk s_c a_c e_c c_c).c = 0 ∧ (Cu.mk s_c a_c e_c c_c).p < (Cu.mk s_c a_c e_c c_c).e))], none)
 | _, _ => none
theorem oy : aw 96 me := by
 intro args sg pre x r he hp
 unfold me at he
 split at he <;> cases he
 . rw [c7 (hp).1]; exact Fe (hp := hp.2) ..
theorem F8 (c : Cu) (k : Int) (hp : True) : OK 104 ([.ptr 0 0, .int .i64 k]) ([.cells (eC c)]) (.tuple []) (some [.cells (eC (c.fail k))]) := by
 refine au (C := cx []) (aq trivial) (fn := Tryz.f104) rfl rfl rfl rfl fun hw hs => ?_
 repeat' ((conv => whnf); (apply al <;> intro h))
 all_goals try conv => whnf
 all_goals try (refine a9.mk ?_; try dsimp only)
 all_goals try refine stay ?_
 all_goals
  unfold Cu.fail
  first | rw [if_pos (by assumption)] | rw [if_neg (by assumption)]
  refine a8.mk [] ?_ <;> (repeat' first | trivial)
def jt : Sm := fun args σ => match args, σ with
 | [.ptr 0 0, .int .i64 k], [.cells ([.str s_c, .int .i64 (.ofNat a_c), .int .i64 (.ofNat e_c), .int .i64 c_c])] => some (True ∧ (True), .tuple [], some [.cells (eC ((Cu.mk s_c a_c e_c c_c).fail k))])
 | _, _ => none
theorem kC : aw 104 jt := by
 intro args sg pre x r he hp
 unfold jt at he
 split at he <;> cases he
 . rw [c7 (hp).1]; exact F8 (hp := hp.2) ..
theorem Fc (c : Cu) (n : Int) (hp : c.ok) : OK 122 ([.ptr 0 0, .int .i64 n]) ([.cells (eC c)]) (.tuple [.int .i64 (if c.may n = true then (c.p : Int) else 0), .bool (c.may n)]) (some [.cells (eC (c.pass n))]) := by
 refine au (C := cx []) (aq trivial) (fn := Tryz.f122) rfl rfl rfl rfl fun hw hs => ?_
 obtain ⟨h1, h2⟩ := hp
 have hb : c.s.length ≤ 9223372036854775807 := hs.1.1
 repeat' ((conv => whnf); first | apply aW | (apply al <;> intro h))
 all_goals try conv => whnf
 all_goals try (refine a9.mk ?_; try dsimp only)
 all_goals try refine stay ?_
 all_goals (try rw [show IntKind.i64.wrap (↑c.e - ↑c.p) = (c.e : Int) - c.p by (simp (discharger := omega) only [wR]; omega)] at *)
 all_goals
  have hm : c.may n = decide (c.c = 0 ∧ 0 ≤ n ∧ n ≤ c.e - c.p) := rfl
  first
  | rw [decide_eq_true (by omega)] at hm
  | rw [decide_eq_false (by omega)] at hm
  rw [hm]
  unfold Cu.pass
  repeat (first | rw [if_pos (by first | rfl | assumption | omega)] | rw [if_neg (by first | exact Bool.false_ne_true | assumption | omega)])
  refine a8.mk [] ?_ <;> (repeat' first | trivial | apply ae | apply aI | apply gC | apply bU)
 show IntKind.i64.wrap (c.p + n) = ((c.p + n.toNat : Nat) : Int)
 (simp (discharger := omega) only [wR]; omega)
def wz : Sm := fun args σ => match args, σ with
 | [.ptr 0 0, .int .i64 n], [.cells ([.str s_c, .int .i64 (.ofNat a_c), .int .i64 (.ofNat e_c), .int .i64 c_c])] => some (True ∧ ((Cu.mk s_c a_c e_c c_c).ok), .tuple [.int .i64 (if (Cu.mk s_c a_c e_c c_c).may n = true then ((Cu.mk s_c a_c e_c c_c).p : Int) else 0), .bool ((Cu.mk s_c a_c e_c c_c).may n)], some [.cells (eC ((Cu.mk s_c a_c e_c c_c).pass n))])
 | _, _ => none
theorem HN : aw 122 wz := by
 intro args sg pre x r he hp
 unfold wz at he
 split at he <;> cases he
 . rw [c7 (hp).1]; exact Fc (hp := hp.2) ..
theorem F4 (c : Cu) (n : Int) (x : V) (hp : 0 ≤ n ∧ n < c.s.length) : OK 123 ([.int .i64 n, .ptr 0 0, .ptr 1 0]) ([.cells [.ptr 2 0], .cells [x], .cells (eC c)]) (.tuple []) (some [.cells [.ptr 2 0], .cells [bv (c.s.getD n.toNat 0)], .cells (eC c)]) := by
 refine au (C := cx []) (aq trivial) (fn := Tryz.f123) rfl rfl rfl rfl fun hw hs => ?_
 repeat' ((conv => whnf); first | apply ak | with_reducible refine eH ?_ fun hc => ?_)
 all_goals try conv => whnf
 all_goals try (refine a9.mk ?_; try dsimp only)
 all_goals first | refine stay ?_ | omega | skip
 refine a8.mk [] ?_ <;> (repeat' first | trivial)
def wx : Sm := fun args σ => match args, σ with
 | [.int .i64 n, .ptr 0 0, .ptr 1 0], [.cells [.ptr 2 0], .cells [x], .cells ([.str s_c, .int .i64 (.ofNat a_c), .int .i64 (.ofNat e_c), .int .i64 c_c])] => some (True ∧ (0 ≤ n ∧ n < (Cu.mk s_c a_c e_c c_c).s.length), .tuple [], some [.cells [.ptr 2 0], .cells [bv ((Cu.mk s_c a_c e_c c_c).s.getD n.toNat 0)], .cells (eC (Cu.mk s_c a_c e_c c_c))])
 | _, _ => none
theorem HL : aw 123 wx := by
 intro args sg pre x r he hp
 unfold wx at he
 split at he <;> cases he
 . rw [c7 (hp).1]; exact F4 (hp := hp.2) ..
theorem Fb (c : Cu) (n : Int) (x : Int) (hp : c.ok ∧ n = 1 ∧ x = 0) : OK 121 ([.func (.func 122) [.ptr 0 0] [], .int .i64 n, .func (.func 123) [] [.ptr 1 0, .ptr 2 0]]) ([.cells (eC c), .cells [.ptr 0 0], .cells [.int .u8 x]]) (.tuple []) (some [.cells (eC c.byte), .cells [.ptr 0 0], .cells [bv c.ai]]) := by
 refine au (C := cx [(122, wz), (123, wx)]) (aq ⟨HN, HL, trivial⟩) (fn := Tryz.f121) rfl rfl rfl rfl fun hw hs => ?_
 obtain ⟨hp, rfl, rfl⟩ := hp
 have h1 := hp.1
 have h2 := hp.2
 have hq := jZ hp 1
 repeat' ((conv => whnf); first | apply ak | (apply al <;> intro h))
 all_goals try conv => whnf
 all_goals try (refine a9.mk ?_; try dsimp only)
 all_goals (try simp only [aK] at *)
 all_goals first | refine stay ?_ | trivial | skip
 . have hm : c.may 1 = true := decide_eq_true (by assumption)
   rw [hm, if_pos rfl, hq.2.1]
   exact ⟨trivial, by omega, by omega⟩
 . have hm : c.may 1 = true := decide_eq_true (by assumption)
   refine a8.mk [] ?_ <;> (repeat' first | trivial | apply ae | apply aI | apply gC | apply bU)
   rw [hm, if_pos rfl, hq.2.1]
   unfold Cu.ai
   rw [if_pos (by omega)]
   rfl
 . refine a8.mk [] ?_ <;> (repeat' first | trivial | apply ae | apply aI | apply gC | apply bU)
   unfold Cu.ai
   rw [if_neg (by omega)]
   rfl
def wC : Sm := fun args σ => match args, σ with
 | [.func (.func 122) [.ptr 0 0] [], .int .i64 n, .func (.func 123) [] [.ptr 1 0, .ptr 2 0]], [.cells ([.str s_c, .int .i64 (.ofNat a_c), .int .i64 (.ofNat e_c), .int .i64 c_c]), .cells [.ptr 0 0], .cells [.int .u8 x]] => some (True ∧ ((Cu.mk s_c a_c e_c c_c).ok ∧ n = 1 ∧ x = 0), .tuple [], some [.cells (eC (Cu.mk s_c a_c e_c c_c).byte), .cells [.ptr 0 0], .cells [bv (Cu.mk s_c a_c e_c c_c).ai]])
 | _, _ => none
theorem HO : aw 121 wC := by
 intro args sg pre x r he hp
 unfold wC at he
 split at he <;> cases he
 . rw [c7 (hp).1]; exact Fb (hp := hp.2) ..
theorem F5 (c : Cu) (hp : c.ok) : OK 98 ([.ptr 0 0]) ([.cells (eC c)]) (bv c.ai) (some [.cells (eC c.byte)]) := by
 refine au (C := cx [(121, wC)]) (aq ⟨HO, trivial⟩) (fn := Tryz.f98) rfl rfl rfl rfl fun hw hs => ?_
 repeat' ((conv => whnf); apply ak)
 all_goals try conv => whnf
 all_goals try (refine a9.mk ?_; try dsimp only)
 all_goals (try simp only [aK] at *)
 all_goals first | refine stay ?_ | trivial | skip
 refine a8.mk [] ?_ <;> (repeat' first | trivial)
def j7 : Sm := fun args σ => match args, σ with
 | [.ptr 0 0], [.cells ([.str s_c, .int .i64 (.ofNat a_c), .int .i64 (.ofNat e_c), .int .i64 c_c])] => some (True ∧ ((Cu.mk s_c a_c e_c c_c).ok), bv (Cu.mk s_c a_c e_c c_c).ai, some [.cells (eC (Cu.mk s_c a_c e_c c_c).byte)])
 | _, _ => none
theorem jQ : aw 98 j7 := by
 intro args sg pre x r he hp
 unfold j7 at he
 split at he <;> cases he
 . rw [c7 (hp).1]; exact F5 (hp := hp.2) ..
end Go.Proofs.YtllncocibkgjkaaGreat
