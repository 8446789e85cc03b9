/-
  A cursor over a text, which reads byte by byte.
-/
import Derived.Test.YtllncocibkgjkaaTxt0
set_option linter.unusedSimpArgs false
set_option linter.unusedVariables false
set_option maxHeartbeats 4000000
namespace Go.Proofs.Ytllncocibkgjkaa
open Go Go.VG
set_option maxRecDepth 100000
structure Cu where
  s : List UInt8
  p : Nat
  e : Nat
  c : Int
abbrev eC (c : Cu) : List V := [.str c.s, .int .i64 c.p, .int .i64 c.e, .int .i64 c.c]
theorem acr {s : List UInt8} {a e : Nat} {c : Int} (_ : True) : [V.str s, .int .i64 (.ofNat a), .int .i64 (.ofNat e), .int .i64 c] = eC ⟨s, a, e, c⟩ := rfl
@[simp] theorem aa3 (c : Cu) : Cu.mk c.s c.p c.e c.c = c := rfl
def Cu.ok (c : Cu) : Prop := c.p ≤ c.e ∧ c.e ≤ c.s.length
def Cu.fail (c : Cu) (k : Int) : Cu := if c.c = 0 then { c with c := k } else c
def Cu.get (c : Cu) : UInt8 := c.s.getD c.p 0
def Cu.pass (c : Cu) (n : Int) : Cu := if c.c ≠ 0 then c else if n < 0 then { c with c := 13 } else if n > c.e - c.p then { c with c := 1 } else { c with p := c.p + n.toNat }
def Cu.may (c : Cu) (n : Int) : Bool := decide (c.c = 0 ∧ 0 ≤ n ∧ n ≤ c.e - c.p)
def Cu.byte (c : Cu) : Cu := c.pass 1
def Cu.aa2 (c : Cu) : UInt8 := if c.c = 0 ∧ c.p < c.e then c.get else 0
def Cu.new (s : List UInt8) : Cu := ⟨s, 0, s.length, 0⟩
def Cu.left (c : Cu) : Int := c.e - c.p
theorem agw {c : Cu} (h : c.ok) (n : Int) : (c.pass n).ok ∧ (c.pass n).s = c.s ∧ (c.pass n).e = c.e := by
  obtain ⟨h1, h2⟩ := h
  unfold Cu.pass
  repeat' split
  all_goals (refine ⟨⟨?_, ?_⟩, rfl, rfl⟩ <;> (try dsimp only) <;> omega)
theorem ac9 {c : Cu} (h : c.ok) (k : Int) : (c.fail k).ok ∧ (c.fail k).s = c.s ∧ (c.fail k).e = c.e ∧ (c.fail k).p = c.p := by
  unfold Cu.fail; split <;> exact ⟨h, rfl, rfl, rfl⟩
theorem a9s (s : List UInt8) (hp : True) : OK 17 ([.str s]) ([]) (.ptr 0 0) (some [.cells (eC (.new s))]) := by
  refine aa0 (C := cx []) (abh trivial) (fn := Try.f17) rfl rfl rfl rfl fun hw hs => ?_
  repeat' ((conv => whnf); first | with_reducible (first | refine go1 (fun j q h => ?_) fun h => ?_ | refine go2 ⟨rfl, rfl⟩ (fun h => ?_) fun j h => ?_ | refine go2 ?_ (fun h => ?_) fun j h => ?_ | refine goQ ?_ (fun h => ?_) fun h => ?_) | refine go3 ?_ ?_ | refine go4 ?_ ?_ | refine go5 ?_ | ((first | refine go6 ?_ ?_ | refine go7 ?_ ?_ | refine go8 ?_ ?_ | refine go9 ?_ ?_ | refine goA ?_ ?_) <;> intro h) | with_reducible (first | refine aai.mk _ rfl ?_ | refine goB ?_ fun hc => ?_ | refine goC ?_ fun hc => ?_ | refine goD ?_ fun hc => ?_ | refine goE ?_ fun hc => ?_ | refine goF ?_ ?_ | refine goG ?_ ?_ | refine goH ?_ fun b hb => ?_) | refine goI ?_ | refine goJ ?_ ?_ | refine goK ?_ ?_ ?_ | refine goL ?_ ?_ ?_ ?_ | refine goM ?_ ?_ ?_ ?_ ?_ | refine goN ?_ ?_ | refine goO ?_ ?_ | with_reducible refine goP ?_)
  all_goals try conv => whnf
  all_goals try (refine aac.mk ?_; try dsimp only)
  all_goals (try simp only [aa3] at *)
  all_goals first
    | (refine stay ?_)
    | (first | trivial | omega | (simp (discharger := omega) only [wR]; omega) | (simp only [lnS]; omega) | (simp (discharger := omega) [-List.getD_eq_getElem?_getD, wR] <;> omega)) | skip
  refine aa9.mk [] ?_ <;> (repeat' first | trivial | rfl | exact eqS _ _ | apply And.intro | apply eqA | apply eqB | apply eqC | apply eqD | apply eqE | apply eqF | apply eqG | apply eqH | apply eqI)
def aun : Sm := fun args σ => match args, σ with
  | [.str s], [] => some (True, .ptr 0 0, some [.cells (eC (.new s))])
  | _, _ => none
theorem bcd : SOK 17 aun := by
  intro args sg pre x r he hp
  unfold aun at he
  split at he <;> cases he
  · exact a9s (hp := hp) ..
theorem a9r (c : Cu) (hp : True) : OK 21 ([.ptr 0 0]) ([.cells (eC c)]) (.int .i64 c.c) (none) := by
  refine aa0 (C := cx []) (abh trivial) (fn := Try.f21) rfl rfl rfl rfl fun hw hs => ?_
  repeat' ((conv => whnf); first | with_reducible (first | refine go1 (fun j q h => ?_) fun h => ?_ | refine go2 ⟨rfl, rfl⟩ (fun h => ?_) fun j h => ?_ | refine go2 ?_ (fun h => ?_) fun j h => ?_ | refine goQ ?_ (fun h => ?_) fun h => ?_) | refine go3 ?_ ?_ | refine go4 ?_ ?_ | refine go5 ?_ | ((first | refine go6 ?_ ?_ | refine go7 ?_ ?_ | refine go8 ?_ ?_ | refine go9 ?_ ?_ | refine goA ?_ ?_) <;> intro h) | with_reducible (first | refine aai.mk _ rfl ?_ | refine goB ?_ fun hc => ?_ | refine goC ?_ fun hc => ?_ | refine goD ?_ fun hc => ?_ | refine goE ?_ fun hc => ?_ | refine goF ?_ ?_ | refine goG ?_ ?_ | refine goH ?_ fun b hb => ?_) | refine goI ?_ | refine goJ ?_ ?_ | refine goK ?_ ?_ ?_ | refine goL ?_ ?_ ?_ ?_ | refine goM ?_ ?_ ?_ ?_ ?_ | refine goN ?_ ?_ | refine goO ?_ ?_ | with_reducible refine goP ?_)
  all_goals try conv => whnf
  all_goals try (refine aac.mk ?_; try dsimp only)
  all_goals (try simp only [aa3] at *)
  all_goals first
    | (refine stay ?_)
    | (first | trivial | omega | (simp (discharger := omega) only [wR]; omega) | (simp only [lnS]; omega) | (simp (discharger := omega) [-List.getD_eq_getElem?_getD, wR] <;> omega)) | skip
  refine aa9.mk [] ?_ <;> (repeat' first | trivial | rfl | exact eqS _ _ | apply And.intro | apply eqA | apply eqB | apply eqC | apply eqD | apply eqE | apply eqF | apply eqG | apply eqH | apply eqI)
def af2 : Sm := fun args σ => match args, σ with
  | [.ptr 0 0], [.cells ([.str s_c, .int .i64 (.ofNat a_c), .int .i64 (.ofNat e_c), .int .i64 c_c])] => some (True ∧ (True), .int .i64 (Cu.mk s_c a_c e_c c_c).c, none)
  | _, _ => none
theorem ak2 : SOK 21 af2 := by
  intro args sg pre x r he hp
  unfold af2 at he
  split at he <;> cases he
  · rw [acr (hp).1]; exact a9r (hp := hp.2) ..
theorem a62 (c : Cu) (hp : c.ok) : OK 115 ([.ptr 0 0]) ([.cells (eC c)]) (.int .i64 c.left) (none) := by
  refine aa0 (C := cx []) (abh trivial) (fn := Try.f115) rfl rfl rfl rfl fun hw hs => ?_
  obtain ⟨h1, h2⟩ := hp
  have hb : c.s.length ≤ 9223372036854775807 := hs.1.1
  repeat' ((conv => whnf); first | with_reducible (first | refine go1 (fun j q h => ?_) fun h => ?_ | refine go2 ⟨rfl, rfl⟩ (fun h => ?_) fun j h => ?_ | refine go2 ?_ (fun h => ?_) fun j h => ?_ | refine goQ ?_ (fun h => ?_) fun h => ?_) | refine go3 ?_ ?_ | refine go4 ?_ ?_ | refine go5 ?_ | ((first | refine go6 ?_ ?_ | refine go7 ?_ ?_ | refine go8 ?_ ?_ | refine go9 ?_ ?_ | refine goA ?_ ?_) <;> intro h) | with_reducible (first | refine aai.mk _ rfl ?_ | refine goB ?_ fun hc => ?_ | refine goC ?_ fun hc => ?_ | refine goD ?_ fun hc => ?_ | refine goE ?_ fun hc => ?_ | refine goF ?_ ?_ | refine goG ?_ ?_ | refine goH ?_ fun b hb => ?_) | refine goI ?_ | refine goJ ?_ ?_ | refine goK ?_ ?_ ?_ | refine goL ?_ ?_ ?_ ?_ | refine goM ?_ ?_ ?_ ?_ ?_ | refine goN ?_ ?_ | refine goO ?_ ?_ | with_reducible refine goP ?_)
  all_goals try conv => whnf
  all_goals try (refine aac.mk ?_; try dsimp only)
  all_goals (try simp only [aa3] at *)
  all_goals first
    | (refine stay ?_)
    | (first | trivial | omega | (simp (discharger := omega) only [wR]; omega) | (simp only [lnS]; omega) | (simp (discharger := omega) [-List.getD_eq_getElem?_getD, wR] <;> omega)) | skip
  refine aa9.mk [] ?_ <;> (repeat' first | trivial | rfl | exact eqS _ _ | apply And.intro | apply eqA | apply eqB | apply eqC | apply eqD | apply eqE | apply eqF | apply eqG | apply eqH | apply eqI)
  unfold Cu.left; (first | omega | (simp (discharger := omega) only [wR]; omega) | (simp only [lnS]; omega) | (simp (discharger := omega) [-List.getD_eq_getElem?_getD, wR] <;> omega))
def aum : Sm := fun args σ => match args, σ with
  | [.ptr 0 0], [.cells ([.str s_c, .int .i64 (.ofNat a_c), .int .i64 (.ofNat e_c), .int .i64 c_c])] => some (True ∧ ((Cu.mk s_c a_c e_c c_c).ok), .int .i64 (Cu.mk s_c a_c e_c c_c).left, none)
  | _, _ => none
theorem bdm : SOK 115 aum := by
  intro args sg pre x r he hp
  unfold aum at he
  split at he <;> cases he
  · rw [acr (hp).1]; exact a62 (hp := hp.2) ..
theorem a65 (c : Cu) (hp : c.ok) : OK 43 ([.ptr 0 0]) ([.cells (eC c)]) (.tuple [bv c.aa2, .bool (decide (c.c = 0 ∧ c.p < c.e))]) (none) := by
  refine aa0 (C := cx []) (abh trivial) (fn := Try.f43) rfl rfl rfl rfl fun hw hs => ?_
  obtain ⟨h1, h2⟩ := hp
  repeat' ((conv => whnf); first | with_reducible (first | refine go1 (fun j q h => ?_) fun h => ?_ | refine go2 ⟨rfl, rfl⟩ (fun h => ?_) fun j h => ?_ | refine go2 ?_ (fun h => ?_) fun j h => ?_ | refine goQ ?_ (fun h => ?_) fun h => ?_) | refine go3 ?_ ?_ | refine go4 ?_ ?_ | refine go5 ?_ | ((first | refine go6 ?_ ?_ | refine go7 ?_ ?_ | refine go8 ?_ ?_ | refine go9 ?_ ?_ | refine goA ?_ ?_) <;> intro h) | with_reducible (first | refine aai.mk _ rfl ?_ | refine goB ?_ fun hc => ?_ | refine goC ?_ fun hc => ?_ | refine goD ?_ fun hc => ?_ | refine goE ?_ fun hc => ?_ | refine goF ?_ ?_ | refine goG ?_ ?_ | refine goH ?_ fun b hb => ?_) | refine goI ?_ | refine goJ ?_ ?_ | refine goK ?_ ?_ ?_ | refine goL ?_ ?_ ?_ ?_ | refine goM ?_ ?_ ?_ ?_ ?_ | refine goN ?_ ?_ | refine goO ?_ ?_ | with_reducible refine goP ?_)
  all_goals try conv => whnf
  all_goals try (refine aac.mk ?_; try dsimp only)
  all_goals (try simp only [aa3] at *)
  all_goals first
    | (refine stay ?_)
    | (first | trivial | omega | (simp (discharger := omega) only [wR]; omega) | (simp only [lnS]; omega) | (simp (discharger := omega) [-List.getD_eq_getElem?_getD, wR] <;> omega)) | skip
  all_goals
    unfold Cu.aa2
    first | rw [if_pos (by omega)] | rw [if_neg (by omega)]
    refine aa9.mk [] ?_ <;> (repeat' first | trivial | rfl | exact eqS _ _ | apply And.intro | apply eqA | apply eqB | apply eqC | apply eqD | apply eqE | apply eqF | apply eqG | apply eqH | apply eqI)
    all_goals simp; omega
def agp : Sm := fun args σ => match args, σ with
  | [.ptr 0 0], [.cells ([.str s_c, .int .i64 (.ofNat a_c), .int .i64 (.ofNat e_c), .int .i64 c_c])] => some (True ∧ ((Cu.mk s_c a_c e_c c_c).ok), .tuple [bv (Cu.mk s_c a_c e_c c_c).aa2, .bool (decide ((Cu.mk s_c a_c e_c c_c).c = 0 ∧ (Cu.mk s_c a_c e_c c_c).p < (Cu.mk s_c a_c e_c c_c).e))], none)
  | _, _ => none
theorem amv : SOK 43 agp := by
  intro args sg pre x r he hp
  unfold agp at he
  split at he <;> cases he
  · rw [acr (hp).1]; exact a65 (hp := hp.2) ..
theorem a61 (c : Cu) (k : Int) (hp : True) : OK 49 ([.ptr 0 0, .int .i64 k]) ([.cells (eC c)]) (.tuple []) (some [.cells (eC (c.fail k))]) := by
  refine aa0 (C := cx []) (abh trivial) (fn := Try.f49) rfl rfl rfl rfl fun hw hs => ?_
  repeat' ((conv => whnf); first | with_reducible (first | refine go1 (fun j q h => ?_) fun h => ?_ | refine go2 ⟨rfl, rfl⟩ (fun h => ?_) fun j h => ?_ | refine go2 ?_ (fun h => ?_) fun j h => ?_ | refine goQ ?_ (fun h => ?_) fun h => ?_) | refine go3 ?_ ?_ | refine go4 ?_ ?_ | refine go5 ?_ | ((first | refine go6 ?_ ?_ | refine go7 ?_ ?_ | refine go8 ?_ ?_ | refine go9 ?_ ?_ | refine goA ?_ ?_) <;> intro h) | with_reducible (first | refine aai.mk _ rfl ?_ | refine goB ?_ fun hc => ?_ | refine goC ?_ fun hc => ?_ | refine goD ?_ fun hc => ?_ | refine goE ?_ fun hc => ?_ | refine goF ?_ ?_ | refine goG ?_ ?_ | refine goH ?_ fun b hb => ?_) | refine goI ?_ | refine goJ ?_ ?_ | refine goK ?_ ?_ ?_ | refine goL ?_ ?_ ?_ ?_ | refine goM ?_ ?_ ?_ ?_ ?_ | refine goN ?_ ?_ | refine goO ?_ ?_ | with_reducible refine goP ?_)
  all_goals try conv => whnf
  all_goals try (refine aac.mk ?_; try dsimp only)
  all_goals (try simp only [aa3] at *)
  all_goals first
    | (refine stay ?_)
    | (first | trivial | omega | (simp (discharger := omega) only [wR]; omega) | (simp only [lnS]; omega) | (simp (discharger := omega) [-List.getD_eq_getElem?_getD, wR] <;> omega)) | skip
  all_goals
    unfold Cu.fail
    first | rw [if_pos (by assumption)] | rw [if_neg (by assumption)]
    refine aa9.mk [] ?_ <;> (repeat' first | trivial | rfl | exact eqS _ _ | apply And.intro | apply eqA | apply eqB | apply eqC | apply eqD | apply eqE | apply eqF | apply eqG | apply eqH | apply eqI)
def ae9 : Sm := fun args σ => match args, σ with
  | [.ptr 0 0, .int .i64 k], [.cells ([.str s_c, .int .i64 (.ofNat a_c), .int .i64 (.ofNat e_c), .int .i64 c_c])] => some (True ∧ (True), .tuple [], some [.cells (eC ((Cu.mk s_c a_c e_c c_c).fail k))])
  | _, _ => none
theorem ahx : SOK 49 ae9 := by
  intro args sg pre x r he hp
  unfold ae9 at he
  split at he <;> cases he
  · rw [acr (hp).1]; exact a61 (hp := hp.2) ..
theorem a64 (c : Cu) (n : Int) (hp : c.ok) : OK 75 ([.ptr 0 0, .int .i64 n]) ([.cells (eC c)]) (.tuple [.int .i64 (if c.may n = true then (c.p : Int) else 0), .bool (c.may n)]) (some [.cells (eC (c.pass n))]) := by
  refine aa0 (C := cx []) (abh trivial) (fn := Try.f75) rfl rfl rfl rfl fun hw hs => ?_
  obtain ⟨h1, h2⟩ := hp
  have hb : c.s.length ≤ 9223372036854775807 := hs.1.1
  repeat' ((conv => whnf); first | with_reducible (first | refine go1 (fun j q h => ?_) fun h => ?_ | refine go2 ⟨rfl, rfl⟩ (fun h => ?_) fun j h => ?_ | refine go2 ?_ (fun h => ?_) fun j h => ?_ | refine goQ ?_ (fun h => ?_) fun h => ?_) | refine go3 ?_ ?_ | refine go4 ?_ ?_ | refine go5 ?_ | ((first | refine go6 ?_ ?_ | refine go7 ?_ ?_ | refine go8 ?_ ?_ | refine go9 ?_ ?_ | refine goA ?_ ?_) <;> intro h) | with_reducible (first | refine aai.mk _ rfl ?_ | refine goB ?_ fun hc => ?_ | refine goC ?_ fun hc => ?_ | refine goD ?_ fun hc => ?_ | refine goE ?_ fun hc => ?_ | refine goF ?_ ?_ | refine goG ?_ ?_ | refine goH ?_ fun b hb => ?_) | refine goI ?_ | refine goJ ?_ ?_ | refine goK ?_ ?_ ?_ | refine goL ?_ ?_ ?_ ?_ | refine goM ?_ ?_ ?_ ?_ ?_ | refine goN ?_ ?_ | refine goO ?_ ?_ | with_reducible refine goP ?_)
  all_goals try conv => whnf
  all_goals try (refine aac.mk ?_; try dsimp only)
  all_goals (try simp only [aa3] at *)
  all_goals first
    | (refine stay ?_)
    | (first | trivial | omega | (simp (discharger := omega) only [wR]; omega) | (simp only [lnS]; omega) | (simp (discharger := omega) [-List.getD_eq_getElem?_getD, wR] <;> omega)) | skip
  all_goals (try rw [show IntKind.i64.wrap (↑c.e - ↑c.p) = (c.e : Int) - c.p by (first | omega | (simp (discharger := omega) only [wR]; omega) | (simp only [lnS]; omega) | (simp (discharger := omega) [-List.getD_eq_getElem?_getD, wR] <;> omega))] at *)
  all_goals
    have hm : c.may n = decide (c.c = 0 ∧ 0 ≤ n ∧ n ≤ c.e - c.p) := rfl
    first
    | rw [decide_eq_true (by omega)] at hm
    | rw [decide_eq_false (by omega)] at hm
    rw [hm]
    unfold Cu.pass
    repeat (first | rw [if_pos (by first | rfl | assumption | omega)] | rw [if_neg (by first | exact Bool.false_ne_true | assumption | omega)])
    refine aa9.mk [] ?_ <;> (repeat' first | trivial | rfl | exact eqS _ _ | apply And.intro | apply eqA | apply eqB | apply eqC | apply eqD | apply eqE | apply eqF | apply eqG | apply eqH | apply eqI)
  show IntKind.i64.wrap (c.p + n) = ((c.p + n.toNat : Nat) : Int)
  (first | omega | (simp (discharger := omega) only [wR]; omega) | (simp only [lnS]; omega) | (simp (discharger := omega) [-List.getD_eq_getElem?_getD, wR] <;> omega))
def auo : Sm := fun args σ => match args, σ with
  | [.ptr 0 0, .int .i64 n], [.cells ([.str s_c, .int .i64 (.ofNat a_c), .int .i64 (.ofNat e_c), .int .i64 c_c])] => some (True ∧ ((Cu.mk s_c a_c e_c c_c).ok), .tuple [.int .i64 (if (Cu.mk s_c a_c e_c c_c).may n = true then ((Cu.mk s_c a_c e_c c_c).p : Int) else 0), .bool ((Cu.mk s_c a_c e_c c_c).may n)], some [.cells (eC ((Cu.mk s_c a_c e_c c_c).pass n))])
  | _, _ => none
theorem bdn : SOK 75 auo := by
  intro args sg pre x r he hp
  unfold auo at he
  split at he <;> cases he
  · rw [acr (hp).1]; exact a64 (hp := hp.2) ..
theorem a2v (c : Cu) (n : Int) (x : V) (hp : 0 ≤ n ∧ n < c.s.length) : OK 76 ([.int .i64 n, .ptr 0 0, .ptr 1 0]) ([.cells [.ptr 2 0], .cells [x], .cells (eC c)]) (.tuple []) (some [.cells [.ptr 2 0], .cells [bv (c.s.getD n.toNat 0)], .cells (eC c)]) := by
  refine aa0 (C := cx []) (abh trivial) (fn := Try.f76) rfl rfl rfl rfl fun hw hs => ?_
  repeat' ((conv => whnf); first | with_reducible (first | refine go1 (fun j q h => ?_) fun h => ?_ | refine go2 ⟨rfl, rfl⟩ (fun h => ?_) fun j h => ?_ | refine go2 ?_ (fun h => ?_) fun j h => ?_ | refine goQ ?_ (fun h => ?_) fun h => ?_) | refine go3 ?_ ?_ | refine go4 ?_ ?_ | refine go5 ?_ | ((first | refine go6 ?_ ?_ | refine go7 ?_ ?_ | refine go8 ?_ ?_ | refine go9 ?_ ?_ | refine goA ?_ ?_) <;> intro h) | with_reducible (first | refine aai.mk _ rfl ?_ | refine goB ?_ fun hc => ?_ | refine goC ?_ fun hc => ?_ | refine goD ?_ fun hc => ?_ | refine goE ?_ fun hc => ?_ | refine goF ?_ ?_ | refine goG ?_ ?_ | refine goH ?_ fun b hb => ?_) | refine goI ?_ | refine goJ ?_ ?_ | refine goK ?_ ?_ ?_ | refine goL ?_ ?_ ?_ ?_ | refine goM ?_ ?_ ?_ ?_ ?_ | refine goN ?_ ?_ | refine goO ?_ ?_ | with_reducible refine goP ?_)
  all_goals try conv => whnf
  all_goals try (refine aac.mk ?_; try dsimp only)
  all_goals (try simp only [aa3] at *)
  all_goals first
    | (refine stay ?_)
    | (first | trivial | omega | (simp (discharger := omega) only [wR]; omega) | (simp only [lnS]; omega) | (simp (discharger := omega) [-List.getD_eq_getElem?_getD, wR] <;> omega)) | skip
  refine aa9.mk [] ?_ <;> (repeat' first | trivial | rfl | exact eqS _ _ | apply And.intro | apply eqA | apply eqB | apply eqC | apply eqD | apply eqE | apply eqF | apply eqG | apply eqH | apply eqI)
def aqe : Sm := fun args σ => match args, σ with
  | [.int .i64 n, .ptr 0 0, .ptr 1 0], [.cells [.ptr 2 0], .cells [x], .cells ([.str s_c, .int .i64 (.ofNat a_c), .int .i64 (.ofNat e_c), .int .i64 c_c])] => some (True ∧ (0 ≤ n ∧ n < (Cu.mk s_c a_c e_c c_c).s.length), .tuple [], some [.cells [.ptr 2 0], .cells [bv ((Cu.mk s_c a_c e_c c_c).s.getD n.toNat 0)], .cells (eC (Cu.mk s_c a_c e_c c_c))])
  | _, _ => none
theorem ba8 : SOK 76 aqe := by
  intro args sg pre x r he hp
  unfold aqe at he
  split at he <;> cases he
  · rw [acr (hp).1]; exact a2v (hp := hp.2) ..
theorem a2w (c : Cu) (n : Int) (x : Int) (hp : c.ok ∧ n = 1 ∧ x = 0) : OK 74 ([.func (.func 75) [.ptr 0 0] [], .int .i64 n, .func (.func 76) [] [.ptr 1 0, .ptr 2 0]]) ([.cells (eC c), .cells [.ptr 0 0], .cells [.int .u8 x]]) (.tuple []) (some [.cells (eC c.byte), .cells [.ptr 0 0], .cells [bv c.aa2]]) := by
  refine aa0 (C := cx [(75, auo), (76, aqe)]) (abh ⟨bdn, ba8, trivial⟩) (fn := Try.f74) rfl rfl rfl rfl fun hw hs => ?_
  obtain ⟨hp, rfl, rfl⟩ := hp
  have h1 := hp.1
  have h2 := hp.2
  have hq := agw hp 1
  repeat' ((conv => whnf); first | with_reducible (first | refine go1 (fun j q h => ?_) fun h => ?_ | refine go2 ⟨rfl, rfl⟩ (fun h => ?_) fun j h => ?_ | refine go2 ?_ (fun h => ?_) fun j h => ?_ | refine goQ ?_ (fun h => ?_) fun h => ?_) | refine go3 ?_ ?_ | refine go4 ?_ ?_ | refine go5 ?_ | ((first | refine go6 ?_ ?_ | refine go7 ?_ ?_ | refine go8 ?_ ?_ | refine go9 ?_ ?_ | refine goA ?_ ?_) <;> intro h) | with_reducible (first | refine aai.mk _ rfl ?_ | refine goB ?_ fun hc => ?_ | refine goC ?_ fun hc => ?_ | refine goD ?_ fun hc => ?_ | refine goE ?_ fun hc => ?_ | refine goF ?_ ?_ | refine goG ?_ ?_ | refine goH ?_ fun b hb => ?_) | refine goI ?_ | refine goJ ?_ ?_ | refine goK ?_ ?_ ?_ | refine goL ?_ ?_ ?_ ?_ | refine goM ?_ ?_ ?_ ?_ ?_ | refine goN ?_ ?_ | refine goO ?_ ?_ | with_reducible refine goP ?_)
  all_goals try conv => whnf
  all_goals try (refine aac.mk ?_; try dsimp only)
  all_goals (try simp only [aa3] at *)
  all_goals first
    | (refine stay ?_)
    | (first | trivial | omega | (simp (discharger := omega) only [wR]; omega) | (simp only [lnS]; omega) | (simp (discharger := omega) [-List.getD_eq_getElem?_getD, wR] <;> omega)) | skip
  · have hm : c.may 1 = true := decide_eq_true (by assumption)
    rw [hm, if_pos rfl, hq.2.1]
    exact ⟨trivial, by omega, by omega⟩
  · have hm : c.may 1 = true := decide_eq_true (by assumption)
    refine aa9.mk [] ?_ <;> (repeat' first | trivial | rfl | exact eqS _ _ | apply And.intro | apply eqA | apply eqB | apply eqC | apply eqD | apply eqE | apply eqF | apply eqG | apply eqH | apply eqI)
    rw [hm, if_pos rfl, hq.2.1]
    unfold Cu.aa2
    rw [if_pos (by omega)]
    rfl
  · refine aa9.mk [] ?_ <;> (repeat' first | trivial | rfl | exact eqS _ _ | apply And.intro | apply eqA | apply eqB | apply eqC | apply eqD | apply eqE | apply eqF | apply eqG | apply eqH | apply eqI)
    unfold Cu.aa2
    rw [if_neg (by omega)]
    rfl
def aqf : Sm := fun args σ => match args, σ with
  | [.func (.func 75) [.ptr 0 0] [], .int .i64 n, .func (.func 76) [] [.ptr 1 0, .ptr 2 0]], [.cells ([.str s_c, .int .i64 (.ofNat a_c), .int .i64 (.ofNat e_c), .int .i64 c_c]), .cells [.ptr 0 0], .cells [.int .u8 x]] => some (True ∧ ((Cu.mk s_c a_c e_c c_c).ok ∧ n = 1 ∧ x = 0), .tuple [], some [.cells (eC (Cu.mk s_c a_c e_c c_c).byte), .cells [.ptr 0 0], .cells [bv (Cu.mk s_c a_c e_c c_c).aa2]])
  | _, _ => none
theorem ba9 : SOK 74 aqf := by
  intro args sg pre x r he hp
  unfold aqf at he
  split at he <;> cases he
  · rw [acr (hp).1]; exact a2w (hp := hp.2) ..
theorem a60 (c : Cu) (hp : c.ok) : OK 44 ([.ptr 0 0]) ([.cells (eC c)]) (bv c.aa2) (some [.cells (eC c.byte)]) := by
  refine aa0 (C := cx [(74, aqf)]) (abh ⟨ba9, trivial⟩) (fn := Try.f44) rfl rfl rfl rfl fun hw hs => ?_
  repeat' ((conv => whnf); first | with_reducible (first | refine go1 (fun j q h => ?_) fun h => ?_ | refine go2 ⟨rfl, rfl⟩ (fun h => ?_) fun j h => ?_ | refine go2 ?_ (fun h => ?_) fun j h => ?_ | refine goQ ?_ (fun h => ?_) fun h => ?_) | refine go3 ?_ ?_ | refine go4 ?_ ?_ | refine go5 ?_ | ((first | refine go6 ?_ ?_ | refine go7 ?_ ?_ | refine go8 ?_ ?_ | refine go9 ?_ ?_ | refine goA ?_ ?_) <;> intro h) | with_reducible (first | refine aai.mk _ rfl ?_ | refine goB ?_ fun hc => ?_ | refine goC ?_ fun hc => ?_ | refine goD ?_ fun hc => ?_ | refine goE ?_ fun hc => ?_ | refine goF ?_ ?_ | refine goG ?_ ?_ | refine goH ?_ fun b hb => ?_) | refine goI ?_ | refine goJ ?_ ?_ | refine goK ?_ ?_ ?_ | refine goL ?_ ?_ ?_ ?_ | refine goM ?_ ?_ ?_ ?_ ?_ | refine goN ?_ ?_ | refine goO ?_ ?_ | with_reducible refine goP ?_)
  all_goals try conv => whnf
  all_goals try (refine aac.mk ?_; try dsimp only)
  all_goals (try simp only [aa3] at *)
  all_goals first
    | (refine stay ?_)
    | (first | trivial | omega | (simp (discharger := omega) only [wR]; omega) | (simp only [lnS]; omega) | (simp (discharger := omega) [-List.getD_eq_getElem?_getD, wR] <;> omega)) | skip
  refine aa9.mk [] ?_ <;> (repeat' first | trivial | rfl | exact eqS _ _ | apply And.intro | apply eqA | apply eqB | apply eqC | apply eqD | apply eqE | apply eqF | apply eqG | apply eqH | apply eqI)
def adn : Sm := fun args σ => match args, σ with
  | [.ptr 0 0], [.cells ([.str s_c, .int .i64 (.ofNat a_c), .int .i64 (.ofNat e_c), .int .i64 c_c])] => some (True ∧ ((Cu.mk s_c a_c e_c c_c).ok), bv (Cu.mk s_c a_c e_c c_c).aa2, some [.cells (eC (Cu.mk s_c a_c e_c c_c).byte)])
  | _, _ => none
theorem agu : SOK 44 adn := by
  intro args sg pre x r he hp
  unfold adn at he
  split at he <;> cases he
  · rw [acr (hp).1]; exact a60 (hp := hp.2) ..
end Go.Proofs.Ytllncocibkgjkaa
