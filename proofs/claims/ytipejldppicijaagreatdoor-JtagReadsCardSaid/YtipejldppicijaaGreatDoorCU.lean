/-
  A part of the proof.
-/
import Derived.Test.YtipejldppicijaaGreatDoorTxt0
set_option linter.unusedSimpArgs false
set_option linter.unusedVariables false
set_option maxHeartbeats 4000000
namespace Go.Proofs.YtipejldppicijaaGreatDoor
open Go Go.VG
set_option maxRecDepth 100000
structure Cu where
 s : List UInt8
 p : Nat
 e : Nat
 c : Int
abbrev eC (c : Cu) : List V := [.str c.s, .int .i64 c.p, .int .i64 c.e, .int .i64 c.c]
theorem bP {s : List UInt8} {a e : Nat} {c : Int} (_ : True) : [V.str s, .int .i64 (.ofNat a), .int .i64 (.ofNat e), .int .i64 c] = eC ⟨s, a, e, c⟩ := rfl
@[simp] theorem aU (c : Cu) : Cu.mk c.s c.p c.e c.c = c := rfl
def Cu.ok (c : Cu) : Prop := c.p ≤ c.e ∧ c.e ≤ c.s.length
def Cu.fail (c : Cu) (k : Int) : Cu := if c.c = 0 then { c with c := k } else c
def Cu.get (c : Cu) : UInt8 := c.s.getD c.p 0
def Cu.pass (c : Cu) (n : Int) : Cu := if c.c ≠ 0 then c else if n < 0 then { c with c := 13 } else if n > c.e - c.p then { c with c := 1 } else { c with p := c.p + n.toNat }
def Cu.may (c : Cu) (n : Int) : Bool := decide (c.c = 0 ∧ 0 ≤ n ∧ n ≤ c.e - c.p)
def Cu.byte (c : Cu) : Cu := c.pass 1
def Cu.ao (c : Cu) : UInt8 := if c.c = 0 ∧ c.p < c.e then c.get else 0
def Cu.new (s : List UInt8) : Cu := ⟨s, 0, s.length, 0⟩
def Cu.left (c : Cu) : Int := c.e - c.p
def Cu.fin (c : Cu) : Int := if c.c ≠ 0 then c.c else if c.e > c.p then 2 else 0
theorem gp {c : Cu} (h : c.ok) (n : Int) : (c.pass n).ok ∧ (c.pass n).s = c.s ∧ (c.pass n).e = c.e := by
 obtain ⟨h1, h2⟩ := h
 unfold Cu.pass
 repeat' split
 all_goals (refine ⟨⟨?_, ?_⟩, rfl, rfl⟩ <;> (try dsimp only) <;> omega)
theorem g9 {c : Cu} (h : c.ok) (k : Int) : (c.fail k).ok ∧ (c.fail k).s = c.s ∧ (c.fail k).e = c.e ∧ (c.fail k).p = c.p := by
 unfold Cu.fail; split <;> exact ⟨h, rfl, rfl, rfl⟩
theorem BI (s : List UInt8) (hp : True) : OK 63 ([.str s]) ([]) (.ptr 0 0) (some [.cells (eC (.new s))]) := by
 refine ah (C := cx []) (ai trivial) (fn := Tryz.f63) rfl rfl rfl rfl fun hw hs => ?_
 all_goals try conv => whnf
 all_goals try (refine a7.mk ?_; try dsimp only)
 all_goals try refine stay ?_
 refine a6.mk [] ?_ <;> (repeat' first | trivial)
def tE : Sm := fun args σ => match args, σ with
 | [.str s], [] => some (True, .ptr 0 0, some [.cells (eC (.new s))])
 | _, _ => none
theorem Ep : a9 63 tE := by
 intro args sg pre x r he hp
 unfold tE at he
 split at he <;> cases he
 . exact BI (hp := hp) ..
theorem BD (c : Cu) (hp : True) : OK 35 ([.ptr 0 0]) ([.cells (eC c)]) (.int .i64 c.c) (none) := by
 refine ah (C := cx []) (ai trivial) (fn := Tryz.f35) rfl rfl rfl rfl fun hw hs => ?_
 all_goals try conv => whnf
 all_goals try (refine a7.mk ?_; try dsimp only)
 all_goals try refine stay ?_
 refine a6.mk [] ?_ <;> (repeat' first | trivial)
def fJ : Sm := fun args σ => match args, σ with
 | [.ptr 0 0], [.cells ([.str s_c, .int .i64 (.ofNat a_c), .int .i64 (.ofNat e_c), .int .i64 c_c])] => some (True ∧ (True), .int .i64 (Cu.mk s_c a_c e_c c_c).c, none)
 | _, _ => none
theorem gj : a9 35 fJ := by
 intro args sg pre x r he hp
 unfold fJ at he
 split at he <;> cases he
 . rw [bP (hp).1]; exact BD (hp := hp.2) ..
theorem BH (c : Cu) (hp : c.ok) : OK 124 ([.ptr 0 0]) ([.cells (eC c)]) (.int .i64 c.left) (none) := by
 refine ah (C := cx []) (ai trivial) (fn := Tryz.f124) rfl rfl rfl rfl fun hw hs => ?_
 obtain ⟨h1, h2⟩ := hp
 have hb : c.s.length ≤ 9223372036854775807 := hs.1.1
 all_goals try conv => whnf
 all_goals try (refine a7.mk ?_; try dsimp only)
 all_goals try refine stay ?_
 refine a6.mk [] ?_ <;> (repeat' first | trivial | apply ak | apply az)
 unfold Cu.left; (simp (discharger := omega) only [wR]; omega)
def om : Sm := fun args σ => match args, σ with
 | [.ptr 0 0], [.cells ([.str s_c, .int .i64 (.ofNat a_c), .int .i64 (.ofNat e_c), .int .i64 c_c])] => some (True ∧ ((Cu.mk s_c a_c e_c c_c).ok), .int .i64 (Cu.mk s_c a_c e_c c_c).left, none)
 | _, _ => none
theorem sj : a9 124 om := by
 intro args sg pre x r he hp
 unfold om at he
 split at he <;> cases he
 . rw [bP (hp).1]; exact BH (hp := hp.2) ..
theorem Bx (c : Cu) (hp : True) : OK 36 ([.ptr 0 0]) ([.cells (eC c)]) (.int .i64 c.p) (none) := by
 refine ah (C := cx []) (ai trivial) (fn := Tryz.f36) rfl rfl rfl rfl fun hw hs => ?_
 all_goals try conv => whnf
 all_goals try (refine a7.mk ?_; try dsimp only)
 all_goals try refine stay ?_
 refine a6.mk [] ?_ <;> (repeat' first | trivial)
def qg : Sm := fun args σ => match args, σ with
 | [.ptr 0 0], [.cells ([.str s_c, .int .i64 (.ofNat a_c), .int .i64 (.ofNat e_c), .int .i64 c_c])] => some (True ∧ (True), .int .i64 (Cu.mk s_c a_c e_c c_c).p, none)
 | _, _ => none
theorem wV : a9 36 qg := by
 intro args sg pre x r he hp
 unfold qg at he
 split at he <;> cases he
 . rw [bP (hp).1]; exact Bx (hp := hp.2) ..
theorem BC (c : Cu) (hp : c.ok) : OK 93 ([.ptr 0 0]) ([.cells (eC c)]) (.int .i64 c.fin) (none) := by
 refine ah (C := cx [(35, fJ), (124, om)]) (ai ⟨gj, sj, trivial⟩) (fn := Tryz.f93) rfl rfl rfl rfl fun hw hs => ?_
 repeat' ((conv => whnf); first | with_reducible (first | refine go1 (fun j q h => ?_) fun h => ?_ | refine go2 ⟨rfl, rfl⟩ (fun h => ?_) fun j h => ?_ | refine go2 ?_ (fun h => ?_) fun j h => ?_ | refine goQ ?_ (fun h => ?_) fun h => ?_) | apply ab | apply go4 | apply ax | ((first | apply ae | apply go7 | apply go8 | apply kM | apply aV) <;> intro h) | with_reducible (first | refine eH.mk _ rfl ?_ | refine goB ?_ fun hc => ?_ | refine goC ?_ fun hc => ?_ | refine goD ?_ fun hc => ?_ | refine gJ ?_ fun hc => ?_ | apply m5 | apply kN | refine goH ?_ fun b hb => ?_) | apply goI | apply goJ | apply goK | apply goL | apply goM | apply goN | apply goO | with_reducible refine goP ?_)
 all_goals try conv => whnf
 all_goals try (refine a7.mk ?_; try dsimp only)
 all_goals (try simp only [aU] at *)
 all_goals first | refine stay ?_ | trivial | omega | (simp (discharger := omega) only [wR]; omega) | (simp only [fX]; omega) | (simp (discharger := omega) [-List.getD_eq_getElem?_getD, wR] <;> omega) | skip
 all_goals first
  | exact ⟨trivial, hp⟩
  | skip
 all_goals (try simp only [aU] at *)
 all_goals
  have he : c.left = (c.e : Int) - c.p := rfl
  unfold Cu.fin
  repeat (first | rw [if_pos (by first | assumption | omega)] | rw [if_neg (by first | assumption | omega)])
  refine a6.mk [] ?_ <;> (repeat' first | trivial | rfl | exact fw _ _ | apply ak | apply dp | apply az | apply cQ | apply bI | apply dz | apply er | apply dq | apply bT | apply bo)
def tD : Sm := fun args σ => match args, σ with
 | [.ptr 0 0], [.cells ([.str s_c, .int .i64 (.ofNat a_c), .int .i64 (.ofNat e_c), .int .i64 c_c])] => some (True ∧ ((Cu.mk s_c a_c e_c c_c).ok), .int .i64 (Cu.mk s_c a_c e_c c_c).fin, none)
 | _, _ => none
theorem Eo : a9 93 tD := by
 intro args sg pre x r he hp
 unfold tD at he
 split at he <;> cases he
 . rw [bP (hp).1]; exact BC (hp := hp.2) ..
theorem BE (c : Cu) (k : Int) (hp : True) : OK 66 ([.ptr 0 0, .int .i64 k]) ([.cells (eC c)]) (.tuple []) (some [.cells (eC (c.fail k))]) := by
 refine ah (C := cx []) (ai trivial) (fn := Tryz.f66) rfl rfl rfl rfl fun hw hs => ?_
 repeat' ((conv => whnf); (apply ae <;> intro h))
 all_goals try conv => whnf
 all_goals try (refine a7.mk ?_; try dsimp only)
 all_goals try refine stay ?_
 all_goals
  unfold Cu.fail
  first | rw [if_pos (by assumption)] | rw [if_neg (by assumption)]
  refine a6.mk [] ?_ <;> (repeat' first | trivial)
def eZ : Sm := fun args σ => match args, σ with
 | [.ptr 0 0, .int .i64 k], [.cells ([.str s_c, .int .i64 (.ofNat a_c), .int .i64 (.ofNat e_c), .int .i64 c_c])] => some (True ∧ (True), .tuple [], some [.cells (eC ((Cu.mk s_c a_c e_c c_c).fail k))])
 | _, _ => none
theorem fW : a9 66 eZ := by
 intro args sg pre x r he hp
 unfold eZ at he
 split at he <;> cases he
 . rw [bP (hp).1]; exact BE (hp := hp.2) ..
theorem BL (c : Cu) (n : Int) (hp : c.ok) : OK 121 ([.ptr 0 0, .int .i64 n]) ([.cells (eC c)]) (.tuple [.int .i64 (if c.may n = true then (c.p : Int) else 0), .bool (c.may n)]) (some [.cells (eC (c.pass n))]) := by
 refine ah (C := cx []) (ai trivial) (fn := Tryz.f121) rfl rfl rfl rfl fun hw hs => ?_
 obtain ⟨h1, h2⟩ := hp
 have hb : c.s.length ≤ 9223372036854775807 := hs.1.1
 repeat' ((conv => whnf); first | apply ax | (apply ae <;> intro h))
 all_goals try conv => whnf
 all_goals try (refine a7.mk ?_; try dsimp only)
 all_goals try refine stay ?_
 all_goals (try rw [show IntKind.i64.wrap (↑c.e - ↑c.p) = (c.e : Int) - c.p by (simp (discharger := omega) only [wR]; omega)] at *)
 all_goals
  have hm : c.may n = decide (c.c = 0 ∧ 0 ≤ n ∧ n ≤ c.e - c.p) := rfl
  first
  | rw [decide_eq_true (by omega)] at hm
  | rw [decide_eq_false (by omega)] at hm
  rw [hm]
  unfold Cu.pass
  repeat (first | rw [if_pos (by first | rfl | assumption | omega)] | rw [if_neg (by first | exact Bool.false_ne_true | assumption | omega)])
  refine a6.mk [] ?_ <;> (repeat' first | trivial | apply ak | apply az | apply dz | apply bo)
 show IntKind.i64.wrap (c.p + n) = ((c.p + n.toNat : Nat) : Int)
 (simp (discharger := omega) only [wR]; omega)
def qh : Sm := fun args σ => match args, σ with
 | [.ptr 0 0, .int .i64 n], [.cells ([.str s_c, .int .i64 (.ofNat a_c), .int .i64 (.ofNat e_c), .int .i64 c_c])] => some (True ∧ ((Cu.mk s_c a_c e_c c_c).ok), .tuple [.int .i64 (if (Cu.mk s_c a_c e_c c_c).may n = true then ((Cu.mk s_c a_c e_c c_c).p : Int) else 0), .bool ((Cu.mk s_c a_c e_c c_c).may n)], some [.cells (eC ((Cu.mk s_c a_c e_c c_c).pass n))])
 | _, _ => none
theorem wW : a9 121 qh := by
 intro args sg pre x r he hp
 unfold qh at he
 split at he <;> cases he
 . rw [bP (hp).1]; exact BL (hp := hp.2) ..
theorem By (c : Cu) (n : Int) (x : V) (hp : 0 ≤ n ∧ n < c.s.length) : OK 122 ([.int .i64 n, .ptr 0 0, .ptr 1 0]) ([.cells [.ptr 2 0], .cells [x], .cells (eC c)]) (.tuple []) (some [.cells [.ptr 2 0], .cells [bv (c.s.getD n.toNat 0)], .cells (eC c)]) := by
 refine ah (C := cx []) (ai trivial) (fn := Tryz.f122) rfl rfl rfl rfl fun hw hs => ?_
 repeat' ((conv => whnf); first | apply ab | with_reducible refine gJ ?_ fun hc => ?_)
 all_goals try conv => whnf
 all_goals try (refine a7.mk ?_; try dsimp only)
 all_goals first | refine stay ?_ | omega | skip
 refine a6.mk [] ?_ <;> (repeat' first | trivial)
def tC : Sm := fun args σ => match args, σ with
 | [.int .i64 n, .ptr 0 0, .ptr 1 0], [.cells [.ptr 2 0], .cells [x], .cells ([.str s_c, .int .i64 (.ofNat a_c), .int .i64 (.ofNat e_c), .int .i64 c_c])] => some (True ∧ (0 ≤ n ∧ n < (Cu.mk s_c a_c e_c c_c).s.length), .tuple [], some [.cells [.ptr 2 0], .cells [bv ((Cu.mk s_c a_c e_c c_c).s.getD n.toNat 0)], .cells (eC (Cu.mk s_c a_c e_c c_c))])
 | _, _ => none
theorem En : a9 122 tC := by
 intro args sg pre x r he hp
 unfold tC at he
 split at he <;> cases he
 . rw [bP (hp).1]; exact By (hp := hp.2) ..
theorem BJ (c : Cu) (n : Int) (x : Int) (hp : c.ok ∧ n = 1 ∧ x = 0) : OK 120 ([.func (.func 121) [.ptr 0 0] [], .int .i64 n, .func (.func 122) [] [.ptr 1 0, .ptr 2 0]]) ([.cells (eC c), .cells [.ptr 0 0], .cells [.int .u8 x]]) (.tuple []) (some [.cells (eC c.byte), .cells [.ptr 0 0], .cells [bv c.ao]]) := by
 refine ah (C := cx [(121, qh), (122, tC)]) (ai ⟨wW, En, trivial⟩) (fn := Tryz.f120) rfl rfl rfl rfl fun hw hs => ?_
 obtain ⟨hp, rfl, rfl⟩ := hp
 have h1 := hp.1
 have h2 := hp.2
 have hq := gp hp 1
 repeat' ((conv => whnf); first | apply ab | (apply ae <;> intro h))
 all_goals try conv => whnf
 all_goals try (refine a7.mk ?_; try dsimp only)
 all_goals (try simp only [aU] at *)
 all_goals first | refine stay ?_ | trivial | skip
 . have hm : c.may 1 = true := decide_eq_true (by assumption)
   rw [hm, if_pos rfl, hq.2.1]
   exact ⟨trivial, by omega, by omega⟩
 . have hm : c.may 1 = true := decide_eq_true (by assumption)
   refine a6.mk [] ?_ <;> (repeat' first | trivial | apply ak | apply az | apply dz | apply bo)
   rw [hm, if_pos rfl, hq.2.1]
   unfold Cu.ao
   rw [if_pos (by omega)]
   rfl
 . refine a6.mk [] ?_ <;> (repeat' first | trivial | apply ak | apply az | apply dz | apply bo)
   unfold Cu.ao
   rw [if_neg (by omega)]
   rfl
def tF : Sm := fun args σ => match args, σ with
 | [.func (.func 121) [.ptr 0 0] [], .int .i64 n, .func (.func 122) [] [.ptr 1 0, .ptr 2 0]], [.cells ([.str s_c, .int .i64 (.ofNat a_c), .int .i64 (.ofNat e_c), .int .i64 c_c]), .cells [.ptr 0 0], .cells [.int .u8 x]] => some (True ∧ ((Cu.mk s_c a_c e_c c_c).ok ∧ n = 1 ∧ x = 0), .tuple [], some [.cells (eC (Cu.mk s_c a_c e_c c_c).byte), .cells [.ptr 0 0], .cells [bv (Cu.mk s_c a_c e_c c_c).ao]])
 | _, _ => none
theorem Es : a9 120 tF := by
 intro args sg pre x r he hp
 unfold tF at he
 split at he <;> cases he
 . rw [bP (hp).1]; exact BJ (hp := hp.2) ..
theorem Bz (c : Cu) (hp : c.ok) : OK 64 ([.ptr 0 0]) ([.cells (eC c)]) (bv c.ao) (some [.cells (eC c.byte)]) := by
 refine ah (C := cx [(120, tF)]) (ai ⟨Es, trivial⟩) (fn := Tryz.f64) rfl rfl rfl rfl fun hw hs => ?_
 repeat' ((conv => whnf); apply ab)
 all_goals try conv => whnf
 all_goals try (refine a7.mk ?_; try dsimp only)
 all_goals (try simp only [aU] at *)
 all_goals first | refine stay ?_ | trivial | skip
 refine a6.mk [] ?_ <;> (repeat' first | trivial)
def gS : Sm := fun args σ => match args, σ with
 | [.ptr 0 0], [.cells ([.str s_c, .int .i64 (.ofNat a_c), .int .i64 (.ofNat e_c), .int .i64 c_c])] => some (True ∧ ((Cu.mk s_c a_c e_c c_c).ok), bv (Cu.mk s_c a_c e_c c_c).ao, some [.cells (eC (Cu.mk s_c a_c e_c c_c).byte)])
 | _, _ => none
theorem iX : a9 64 gS := by
 intro args sg pre x r he hp
 unfold gS at he
 split at he <;> cases he
 . rw [bP (hp).1]; exact Bz (hp := hp.2) ..
end Go.Proofs.YtipejldppicijaaGreatDoor
