/-
  A cursor over a text, which reads byte by byte.
-/
import Derived.Test.YtjkbahllghofoaaTxt0
set_option linter.unusedSimpArgs false
set_option linter.unusedVariables false
set_option maxHeartbeats 4000000
namespace Go.Proofs.Ytjkbahllghofoaa
open Go Go.VG
set_option maxRecDepth 100000
structure Cu where
  s : List UInt8
  p : Nat
  e : Nat
  c : Int
abbrev eC (c : Cu) : List V := [.str c.s, .int .i64 c.p, .int .i64 c.e, .int .i64 c.c]
theorem viewC {s : List UInt8} {a e : Nat} {c : Int} (_ : True) : [V.str s, .int .i64 (.ofNat a), .int .i64 (.ofNat e), .int .i64 c] = eC ⟨s, a, e, c⟩ := rfl
@[simp] theorem Cu_eta (c : Cu) : Cu.mk c.s c.p c.e c.c = c := rfl
def Cu.ok (c : Cu) : Prop := c.p ≤ c.e ∧ c.e ≤ c.s.length
def Cu.fail (c : Cu) (k : Int) : Cu := if c.c = 0 then { c with c := k } else c
def Cu.get (c : Cu) : UInt8 := c.s.getD c.p 0
def Cu.pass (c : Cu) (n : Int) : Cu := if c.c ≠ 0 then c else if n < 0 then { c with c := 13 } else if n > c.e - c.p then { c with c := 1 } else { c with p := c.p + n.toNat }
def Cu.may (c : Cu) (n : Int) : Bool := decide (c.c = 0 ∧ 0 ≤ n ∧ n ≤ c.e - c.p)
def Cu.byte (c : Cu) : Cu := c.pass 1
def Cu.byteV (c : Cu) : UInt8 := if c.c = 0 ∧ c.p < c.e then c.get else 0
def Cu.new (s : List UInt8) : Cu := ⟨s, 0, s.length, 0⟩
def Cu.left (c : Cu) : Int := c.e - c.p
def Cu.fin (c : Cu) : Int := if c.c ≠ 0 then c.c else if c.e > c.p then 2 else 0
theorem pass_ok {c : Cu} (h : c.ok) (n : Int) : (c.pass n).ok ∧ (c.pass n).s = c.s ∧ (c.pass n).e = c.e := by
  obtain ⟨h1, h2⟩ := h
  unfold Cu.pass
  repeat' split
  all_goals (refine ⟨⟨?_, ?_⟩, rfl, rfl⟩ <;> (try dsimp only) <;> omega)
theorem fail_ok {c : Cu} (h : c.ok) (k : Int) : (c.fail k).ok ∧ (c.fail k).s = c.s ∧ (c.fail k).e = c.e ∧ (c.fail k).p = c.p := by
  unfold Cu.fail; split <;> exact ⟨h, rfl, rfl, rfl⟩
end Go.Proofs.Ytjkbahllghofoaa
