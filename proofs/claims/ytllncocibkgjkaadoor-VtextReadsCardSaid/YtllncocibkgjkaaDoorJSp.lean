/-
  A part of the proof.
-/
import Derived.Test.YtllncocibkgjkaaDoorTxt0
import Derived.Test.YtllncocibkgjkaaDoorUTFp
set_option linter.unusedSimpArgs false
set_option linter.unusedVariables false
set_option maxHeartbeats 4000000
namespace Go.Proofs.YtllncocibkgjkaaDoor
open Go Go.VG
set_option maxRecDepth 100000
structure Cu where
 s : List UInt8
 p : Nat
 e : Nat
 c : Int
abbrev eC (c : Cu) : List V := [.str c.s, .int .i64 c.p, .int .i64 c.e, .int .i64 c.c]
theorem cR {s : List UInt8} {a e : Nat} {c : Int} (_ : True) : [V.str s, .int .i64 (.ofNat a), .int .i64 (.ofNat e), .int .i64 c] = eC ⟨s, a, e, c⟩ := rfl
@[simp] theorem bJ (c : Cu) : Cu.mk c.s c.p c.e c.c = c := rfl
def Cu.ok (c : Cu) : Prop := c.p ≤ c.e ∧ c.e ≤ c.s.length
def Cu.fail (c : Cu) (k : Int) : Cu := if c.c = 0 then { c with c := k } else c
def Cu.get (c : Cu) : UInt8 := c.s.getD c.p 0
def Cu.pass (c : Cu) (n : Int) : Cu := if c.c ≠ 0 then c else if n < 0 then { c with c := 13 } else if n > c.e - c.p then { c with c := 1 } else { c with p := c.p + n.toNat }
def Cu.may (c : Cu) (n : Int) : Bool := decide (c.c = 0 ∧ 0 ≤ n ∧ n ≤ c.e - c.p)
def Cu.byte (c : Cu) : Cu := c.pass 1
def Cu.af (c : Cu) : UInt8 := if c.c = 0 ∧ c.p < c.e then c.get else 0
def Cu.new (s : List UInt8) : Cu := ⟨s, 0, s.length, 0⟩
def Cu.left (c : Cu) : Int := c.e - c.p
theorem kd {c : Cu} (h : c.ok) (n : Int) : (c.pass n).ok ∧ (c.pass n).s = c.s ∧ (c.pass n).e = c.e := by
 obtain ⟨h1, h2⟩ := h
 unfold Cu.pass
 repeat' split
 all_goals (refine ⟨⟨?_, ?_⟩, rfl, rfl⟩ <;> (try dsimp only) <;> omega)
theorem fA {c : Cu} (h : c.ok) (k : Int) : (c.fail k).ok ∧ (c.fail k).s = c.s ∧ (c.fail k).e = c.e ∧ (c.fail k).p = c.p := by
 unfold Cu.fail; split <;> exact ⟨h, rfl, rfl, rfl⟩
theorem Ey (s : List UInt8) (hp : True) : OK 17 ([.str s]) ([]) (.ptr 0 0) (some [.cells (eC (.new s))]) := by
 refine aI (C := cx []) (aG trivial) (fn := Tryd.f17) rfl rfl rfl rfl fun hw hs => ?_
 all_goals try conv => whnf
 all_goals try (refine a8.mk ?_; try dsimp only)
 all_goals try refine stay ?_
 refine ab.mk [] ?_ <;> (repeat' first | trivial)
def vZ : Sm := fun args σ => match args, σ with
 | [.str s], [] => some (True, .ptr 0 0, some [.cells (eC (.new s))])
 | _, _ => none
theorem Gm : aE 17 vZ := by
 intro args sg pre x r he hp
 unfold vZ at he
 split at he <;> cases he
 . exact Ey (hp := hp) ..
theorem Eu (c : Cu) (hp : True) : OK 30 ([.ptr 0 0]) ([.cells (eC c)]) (.int .i64 c.c) (none) := by
 refine aI (C := cx []) (aG trivial) (fn := Tryd.f30) rfl rfl rfl rfl fun hw hs => ?_
 all_goals try conv => whnf
 all_goals try (refine a8.mk ?_; try dsimp only)
 all_goals try refine stay ?_
 refine ab.mk [] ?_ <;> (repeat' first | trivial)
def jJ : Sm := fun args σ => match args, σ with
 | [.ptr 0 0], [.cells ([.str s_c, .int .i64 (.ofNat a_c), .int .i64 (.ofNat e_c), .int .i64 c_c])] => some (True ∧ (True), .int .i64 (Cu.mk s_c a_c e_c c_c).c, none)
 | _, _ => none
theorem kJ : aE 30 jJ := by
 intro args sg pre x r he hp
 unfold jJ at he
 split at he <;> cases he
 . rw [cR (hp).1]; exact Eu (hp := hp.2) ..
theorem Ew (c : Cu) (hp : c.ok) : OK 80 ([.ptr 0 0]) ([.cells (eC c)]) (.int .i64 c.left) (none) := by
 refine aI (C := cx []) (aG trivial) (fn := Tryd.f80) rfl rfl rfl rfl fun hw hs => ?_
 obtain ⟨h1, h2⟩ := hp
 have hb : c.s.length ≤ 9223372036854775807 := hs.1.1
 all_goals try conv => whnf
 all_goals try (refine a8.mk ?_; try dsimp only)
 all_goals try refine stay ?_
 refine ab.mk [] ?_ <;> (repeat' first | trivial | apply aa | apply ar)
 unfold Cu.left; (simp (discharger := omega) only [wR]; omega)
def vY : Sm := fun args σ => match args, σ with
 | [.ptr 0 0], [.cells ([.str s_c, .int .i64 (.ofNat a_c), .int .i64 (.ofNat e_c), .int .i64 c_c])] => some (True ∧ ((Cu.mk s_c a_c e_c c_c).ok), .int .i64 (Cu.mk s_c a_c e_c c_c).left, none)
 | _, _ => none
theorem Gl : aE 80 vY := by
 intro args sg pre x r he hp
 unfold vY at he
 split at he <;> cases he
 . rw [cR (hp).1]; exact Ew (hp := hp.2) ..
theorem EB (c : Cu) (hp : c.ok) : OK 41 ([.ptr 0 0]) ([.cells (eC c)]) (.tuple [bv c.af, .bool (decide (c.c = 0 ∧ c.p < c.e))]) (none) := by
 refine aI (C := cx []) (aG trivial) (fn := Tryd.f41) rfl rfl rfl rfl fun hw hs => ?_
 obtain ⟨h1, h2⟩ := hp
 repeat' ((conv => whnf); first | apply ai | apply aw | (apply aj <;> intro h) | with_reducible refine aY ?_ fun hc => ?_)
 all_goals try conv => whnf
 all_goals try (refine a8.mk ?_; try dsimp only)
 all_goals first | refine stay ?_ | omega | skip
 all_goals
  unfold Cu.af
  first | rw [if_pos (by omega)] | rw [if_neg (by omega)]
  refine ab.mk [] ?_ <;> (repeat' first | trivial | apply aa | apply aK | apply aO | apply aJ)
  all_goals simp; omega
def mb : Sm := fun args σ => match args, σ with
 | [.ptr 0 0], [.cells ([.str s_c, .int .i64 (.ofNat a_c), .int .i64 (.ofNat e_c), .int .i64 c_c])] => some (True ∧ ((Cu.mk s_c a_c e_c c_c).ok), .tuple [bv (Cu.mk s_c a_c e_c c_c).af, .bool (decide ((Cu.mk s_c a_c e_c c_c).c = 0 ∧ (Cu.mk s_c a_c e_c c_c).p < (Cu.mk s_c a_c e_c c_c).e))], none)
 | _, _ => none
theorem ot : aE 41 mb := by
 intro args sg pre x r he hp
 unfold mb at he
 split at he <;> cases he
 . rw [cR (hp).1]; exact EB (hp := hp.2) ..
theorem Ev (c : Cu) (k : Int) (hp : True) : OK 49 ([.ptr 0 0, .int .i64 k]) ([.cells (eC c)]) (.tuple []) (some [.cells (eC (c.fail k))]) := by
 refine aI (C := cx []) (aG trivial) (fn := Tryd.f49) rfl rfl rfl rfl fun hw hs => ?_
 repeat' ((conv => whnf); (apply aj <;> intro h))
 all_goals try conv => whnf
 all_goals try (refine a8.mk ?_; try dsimp only)
 all_goals try refine stay ?_
 all_goals
  unfold Cu.fail
  first | rw [if_pos (by assumption)] | rw [if_neg (by assumption)]
  refine ab.mk [] ?_ <;> (repeat' first | trivial)
def jK : Sm := fun args σ => match args, σ with
 | [.ptr 0 0, .int .i64 k], [.cells ([.str s_c, .int .i64 (.ofNat a_c), .int .i64 (.ofNat e_c), .int .i64 c_c])] => some (True ∧ (True), .tuple [], some [.cells (eC ((Cu.mk s_c a_c e_c c_c).fail k))])
 | _, _ => none
theorem kK : aE 49 jK := by
 intro args sg pre x r he hp
 unfold jK at he
 split at he <;> cases he
 . rw [cR (hp).1]; exact Ev (hp := hp.2) ..
theorem EA (c : Cu) (n : Int) (hp : c.ok) : OK 60 ([.ptr 0 0, .int .i64 n]) ([.cells (eC c)]) (.tuple [.int .i64 (if c.may n = true then (c.p : Int) else 0), .bool (c.may n)]) (some [.cells (eC (c.pass n))]) := by
 refine aI (C := cx []) (aG trivial) (fn := Tryd.f60) rfl rfl rfl rfl fun hw hs => ?_
 obtain ⟨h1, h2⟩ := hp
 have hb : c.s.length ≤ 9223372036854775807 := hs.1.1
 repeat' ((conv => whnf); first | apply aw | (apply aj <;> intro h))
 all_goals try conv => whnf
 all_goals try (refine a8.mk ?_; try dsimp only)
 all_goals try refine stay ?_
 all_goals (try rw [show IntKind.i64.wrap (↑c.e - ↑c.p) = (c.e : Int) - c.p by (simp (discharger := omega) only [wR]; omega)] at *)
 all_goals
  have hm : c.may n = decide (c.c = 0 ∧ 0 ≤ n ∧ n ≤ c.e - c.p) := rfl
  first
  | rw [decide_eq_true (by omega)] at hm
  | rw [decide_eq_false (by omega)] at hm
  rw [hm]
  unfold Cu.pass
  repeat (first | rw [if_pos (by first | rfl | assumption | omega)] | rw [if_neg (by first | exact Bool.false_ne_true | assumption | omega)])
  refine ab.mk [] ?_ <;> (repeat' first | trivial | apply aa | apply ar | apply aS | apply aJ)
 show IntKind.i64.wrap (c.p + n) = ((c.p + n.toNat : Nat) : Int)
 (simp (discharger := omega) only [wR]; omega)
def w8 : Sm := fun args σ => match args, σ with
 | [.ptr 0 0, .int .i64 n], [.cells ([.str s_c, .int .i64 (.ofNat a_c), .int .i64 (.ofNat e_c), .int .i64 c_c])] => some (True ∧ ((Cu.mk s_c a_c e_c c_c).ok), .tuple [.int .i64 (if (Cu.mk s_c a_c e_c c_c).may n = true then ((Cu.mk s_c a_c e_c c_c).p : Int) else 0), .bool ((Cu.mk s_c a_c e_c c_c).may n)], some [.cells (eC ((Cu.mk s_c a_c e_c c_c).pass n))])
 | _, _ => none
theorem Gn : aE 60 w8 := by
 intro args sg pre x r he hp
 unfold w8 at he
 split at he <;> cases he
 . rw [cR (hp).1]; exact EA (hp := hp.2) ..
theorem Es (c : Cu) (n : Int) (x : V) (hp : 0 ≤ n ∧ n < c.s.length) : OK 61 ([.int .i64 n, .ptr 0 0, .ptr 1 0]) ([.cells [.ptr 2 0], .cells [x], .cells (eC c)]) (.tuple []) (some [.cells [.ptr 2 0], .cells [bv (c.s.getD n.toNat 0)], .cells (eC c)]) := by
 refine aI (C := cx []) (aG trivial) (fn := Tryd.f61) rfl rfl rfl rfl fun hw hs => ?_
 repeat' ((conv => whnf); first | apply ai | with_reducible refine b9 ?_ fun hc => ?_)
 all_goals try conv => whnf
 all_goals try (refine a8.mk ?_; try dsimp only)
 all_goals first | refine stay ?_ | omega | skip
 refine ab.mk [] ?_ <;> (repeat' first | trivial)
def vX : Sm := fun args σ => match args, σ with
 | [.int .i64 n, .ptr 0 0, .ptr 1 0], [.cells [.ptr 2 0], .cells [x], .cells ([.str s_c, .int .i64 (.ofNat a_c), .int .i64 (.ofNat e_c), .int .i64 c_c])] => some (True ∧ (0 ≤ n ∧ n < (Cu.mk s_c a_c e_c c_c).s.length), .tuple [], some [.cells [.ptr 2 0], .cells [bv ((Cu.mk s_c a_c e_c c_c).s.getD n.toNat 0)], .cells (eC (Cu.mk s_c a_c e_c c_c))])
 | _, _ => none
theorem Gk : aE 61 vX := by
 intro args sg pre x r he hp
 unfold vX at he
 split at he <;> cases he
 . rw [cR (hp).1]; exact Es (hp := hp.2) ..
theorem Ez (c : Cu) (n : Int) (x : Int) (hp : c.ok ∧ n = 1 ∧ x = 0) : OK 59 ([.func (.func 60) [.ptr 0 0] [], .int .i64 n, .func (.func 61) [] [.ptr 1 0, .ptr 2 0]]) ([.cells (eC c), .cells [.ptr 0 0], .cells [.int .u8 x]]) (.tuple []) (some [.cells (eC c.byte), .cells [.ptr 0 0], .cells [bv c.af]]) := by
 refine aI (C := cx [(60, w8), (61, vX)]) (aG ⟨Gn, Gk, trivial⟩) (fn := Tryd.f59) rfl rfl rfl rfl fun hw hs => ?_
 obtain ⟨hp, rfl, rfl⟩ := hp
 have h1 := hp.1
 have h2 := hp.2
 have hq := kd hp 1
 repeat' ((conv => whnf); first | apply ai | (apply aj <;> intro h))
 all_goals try conv => whnf
 all_goals try (refine a8.mk ?_; try dsimp only)
 all_goals (try simp only [bJ] at *)
 all_goals first | refine stay ?_ | trivial | skip
 . have hm : c.may 1 = true := decide_eq_true (by assumption)
   rw [hm, if_pos rfl, hq.2.1]
   exact ⟨trivial, by omega, by omega⟩
 . have hm : c.may 1 = true := decide_eq_true (by assumption)
   refine ab.mk [] ?_ <;> (repeat' first | trivial | apply aa | apply ar | apply aS | apply aJ)
   rw [hm, if_pos rfl, hq.2.1]
   unfold Cu.af
   rw [if_pos (by omega)]
   rfl
 . refine ab.mk [] ?_ <;> (repeat' first | trivial | apply aa | apply ar | apply aS | apply aJ)
   unfold Cu.af
   rw [if_neg (by omega)]
   rfl
def w9 : Sm := fun args σ => match args, σ with
 | [.func (.func 60) [.ptr 0 0] [], .int .i64 n, .func (.func 61) [] [.ptr 1 0, .ptr 2 0]], [.cells ([.str s_c, .int .i64 (.ofNat a_c), .int .i64 (.ofNat e_c), .int .i64 c_c]), .cells [.ptr 0 0], .cells [.int .u8 x]] => some (True ∧ ((Cu.mk s_c a_c e_c c_c).ok ∧ n = 1 ∧ x = 0), .tuple [], some [.cells (eC (Cu.mk s_c a_c e_c c_c).byte), .cells [.ptr 0 0], .cells [bv (Cu.mk s_c a_c e_c c_c).af]])
 | _, _ => none
theorem Gp : aE 59 w9 := by
 intro args sg pre x r he hp
 unfold w9 at he
 split at he <;> cases he
 . rw [cR (hp).1]; exact Ez (hp := hp.2) ..
theorem Et (c : Cu) (hp : c.ok) : OK 43 ([.ptr 0 0]) ([.cells (eC c)]) (bv c.af) (some [.cells (eC c.byte)]) := by
 refine aI (C := cx [(59, w9)]) (aG ⟨Gp, trivial⟩) (fn := Tryd.f43) rfl rfl rfl rfl fun hw hs => ?_
 repeat' ((conv => whnf); apply ai)
 all_goals try conv => whnf
 all_goals try (refine a8.mk ?_; try dsimp only)
 all_goals (try simp only [bJ] at *)
 all_goals first | refine stay ?_ | trivial | skip
 refine ab.mk [] ?_ <;> (repeat' first | trivial)
def jq : Sm := fun args σ => match args, σ with
 | [.ptr 0 0], [.cells ([.str s_c, .int .i64 (.ofNat a_c), .int .i64 (.ofNat e_c), .int .i64 c_c])] => some (True ∧ ((Cu.mk s_c a_c e_c c_c).ok), bv (Cu.mk s_c a_c e_c c_c).af, some [.cells (eC (Cu.mk s_c a_c e_c c_c).byte)])
 | _, _ => none
theorem jX : aE 43 jq := by
 intro args sg pre x r he hp
 unfold jq at he
 split at he <;> cases he
 . rw [cR (hp).1]; exact Et (hp := hp.2) ..
end Go.Proofs.YtllncocibkgjkaaDoor
namespace Go.Proofs.YtllncocibkgjkaaDoor
open Go Go.VG
set_option maxRecDepth 100000
def g8 (b : UInt8) : Bool := decide ((48 ≤ b.toNat ∧ b.toNat ≤ 57) ∨ (97 ≤ b.toNat ∧ b.toNat ≤ 102))
def fF (b : UInt8) : Nat := if 48 ≤ b.toNat ∧ b.toNat ≤ 57 then b.toNat - 48 else if 97 ≤ b.toNat ∧ b.toNat ≤ 102 then b.toNat - 87 else 0
def dF (b : UInt8) : UInt8 := if 65 ≤ b.toNat ∧ b.toNat ≤ 70 then byte (b.toNat + 32) else b
def Cu.fB (c : Cu) : Cu := if g8 (dF c.af) = true then c.byte else c.byte.fail 6
def Cu.jW (c : Cu) : Nat := fF (dF c.af)
def dX : Nat → Cu → Int → Cu × Int
 | 0, c, u => (c, u)
 | k + 1, c, u => if c.fB.c ≠ 0 then (c.fB, 0) else dX k c.fB (16 * u + c.jW)
termination_by k => k
def Cu.four (c : Cu) : Cu × Int := dX 4 c 0
def Cu.cO (c : Cu) (b : UInt8) : Cu := if c.af.toNat = b.toNat then c.byte else c.byte.fail 6
def Cu.number (c : Cu) : Cu × Int :=
 if c.four.2 < 55296 ∨ 57344 ≤ c.four.2 then c.four
 else if 56320 ≤ c.four.2 then (c.four.1.fail 6, 0)
 else if ((c.four.1.cO 92).cO 117).four.2 < 56320 ∨ 57344 ≤ ((c.four.1.cO 92).cO 117).four.2 then (((c.four.1.cO 92).cO 117).four.1.fail 6, 0)
 else (((c.four.1.cO 92).cO 117).four.1, 65536 + (c.four.2 - 55296) * 1024 + (((c.four.1.cO 92).cO 117).four.2 - 56320))
def iJ (b : UInt8) : Bool := decide (b.toNat = 34 ∨ b.toNat = 92 ∨ b.toNat = 47 ∨ b.toNat = 98 ∨ b.toNat = 102 ∨ b.toNat = 110 ∨ b.toNat = 114 ∨ b.toNat = 116)
def n8 (b : UInt8) : Nat := if b.toNat = 34 ∨ b.toNat = 92 ∨ b.toNat = 47 then b.toNat else if b.toNat = 98 then 8 else if b.toNat = 102 then 12 else if b.toNat = 110 then 10 else if b.toNat = 114 then 13 else if b.toNat = 116 then 9 else 0
def Cu.dW (c : Cu) : Cu := if c.af.toNat = 117 then c.byte.number.1 else if iJ c.af = true then c.byte else c.byte.fail 6
def Cu.gp (c : Cu) : List UInt8 := if c.af.toNat = 117 then (if c.byte.number.1.c = 0 then bQ c.byte.number.2 else []) else if iJ c.af = true then [Go.VG.byte (n8 c.af)] else []
def cQ (b : UInt8) : Nat := if b.toNat < 192 then 0 else if b.toNat < 224 then 1 else if b.toNat < 240 then 2 else 3
def db : Nat → Cu → List UInt8 → Cu × List UInt8
 | 0, c, s => (c, s)
 | k + 1, c, s => if c.c = 0 ∧ c.p < c.e ∧ cont c.af = true then db k c.byte (s ++ [c.af]) else (c, s)
termination_by k => k
def Cu.fg (c : Cu) (b : UInt8) : Cu := if 0 ≤ fi (db (cQ b) c [b]).2 then (db (cQ b) c [b]).1.fail 5 else (db (cQ b) c [b]).1
def Cu.hP (c : Cu) (b : UInt8) : List UInt8 := if 0 ≤ fi (db (cQ b) c [b]).2 then [] else (db (cQ b) c [b]).2
theorem eK {c : Cu} (h : c.ok) : c.byte.ok := (kd h 1).1
theorem uB {c : Cu} (h : c.ok) : c.fB.ok := by
 unfold Cu.fB; split
 . exact eK h
 . exact (fA (eK h) 6).1
theorem zd : ∀ (k : Nat) (c : Cu) (u : Int), c.ok → (dX k c u).1.ok
 | 0, _, _, h => by rw [dX]; exact h
 | k + 1, c, u, h => by
   rw [dX]; split
   . exact uB h
   . exact zd k _ _ (uB h)
theorem sw (b : UInt8) : fF b < 16 := by        unfold fF; repeat' split
                                                all_goals omega
theorem zc : ∀ (k : Nat) (c : Cu) (u : Int) (m : Nat), 0 ≤ u → u < m → 0 < m → 0 ≤ (dX k c u).2 ∧ (dX k c u).2 < ((m * 16 ^ k : Nat) : Int)
 | 0, _, _, _, h1, h, _ => by rw [dX]; simpa using ⟨h1, h⟩
 | k + 1, c, u, m, h1, h, h0 => by
   have hp : 0 < 16 ^ k := Nat.pow_pos (by decide)
   rw [dX]; split
   . have : 0 < m * 16 ^ (k + 1) := Nat.mul_pos h0 (Nat.pow_pos (by decide))
     simp only; omega
   . have hv := sw (dF c.af)
     have := zc k c.fB (16 * u + c.jW) (16 * m) (by omega) (by unfold Cu.jW; omega) (by omega)
     rw [Nat.pow_succ, ← Nat.mul_assoc, Nat.mul_right_comm, Nat.mul_comm m 16]; exact this
theorem rQ {c : Cu} (h : c.ok) : c.four.1.ok := zd 4 c 0 h
theorem rP (c : Cu) : 0 ≤ c.four.2 ∧ c.four.2 < 65536 := by have := zc 4 c 0 1 (by decide) (by decide) (by decide); simpa [Cu.four] using this
theorem oC {c : Cu} (h : c.ok) (b : UInt8) : (c.cO b).ok := by
 unfold Cu.cO; split
 . exact eK h
 . exact (fA (eK h) 6).1
theorem AU {c : Cu} (h : c.ok) : c.number.1.ok := by
 have h1 := rQ h
 have h2 := rQ (oC (oC h1 92) 117)
 unfold Cu.number
 repeat' split
 . exact h1
 . exact (fA h1 6).1
 . exact (fA h2 6).1
 . exact h2
theorem I4 {c : Cu} (h : c.number.1.c = 0) : d6 c.number.2 = true := by
 have h1 := rP c
 have h2 := rP ((c.four.1.cO 92).cO 117)
 rw [iN]
 have hf : ∀ x : Cu, (x.fail 6).c ≠ 0 := fun x => by
  unfold Cu.fail; split
  . simp
  . assumption
 unfold Cu.number at h ⊢
 repeat' split at h
 . rename_i q; rw [if_pos q]; omega
 . exact absurd h (hf _)
 . exact absurd h (hf _)
 . rename_i q1 q2 q3
   rw [if_neg q1, if_neg q2, if_neg q3]
   simp only; omega
theorem mF {c : Cu} (h : c.ok) : c.dW.ok := by
 unfold Cu.dW; repeat' split
 . exact AU (eK h)
 . exact eK h
 . exact (fA (eK h) 6).1
theorem Bl : ∀ (k : Nat) (c : Cu) (s : List UInt8), c.ok → (db k c s).1.ok
 | 0, _, _, h => by rw [db]; exact h
 | k + 1, c, s, h => by
   rw [db]; split
   . exact Bl k _ _ (eK h)
   . exact h
theorem Bk : ∀ (k : Nat) (c : Cu) (s : List UInt8), (db k c s).2.length ≤ s.length + k
 | 0, _, _ => by simp [db]
 | k + 1, c, s => by
   rw [db]; split
   . have := Bk k c.byte (s ++ [c.af]); simp at this; omega
   . simp only; omega
theorem C4 (b : UInt8) : cQ b ≤ 3 := by
 unfold cQ; repeat' split
 all_goals omega
theorem nf {c : Cu} (h : c.ok) (b : UInt8) : (c.fg b).ok := by
 have := Bl (cQ b) c [b] h
 unfold Cu.fg; split
 . exact (fA this 5).1
 . exact this
end Go.Proofs.YtllncocibkgjkaaDoor
namespace Go.Proofs.YtllncocibkgjkaaDoor
open Go Go.VG
set_option maxRecDepth 100000
theorem HN : ∀ i, i < 16 → fF (hexDigits.getD i 0) = i ∧ g8 (hexDigits.getD i 0) = true ∧ (hexDigits.getD i 0).toNat < 128 := by decide
theorem HP : ∀ n, n < 256 → g8 (.ofNat n) = true → hexDigits.getD (fF (.ofNat n)) 0 = .ofNat n := by decide
theorem HO {b : UInt8} (h : g8 b = true) : hexDigits.getD (fF b) 0 = b := by
 have := HP b.toNat b.toNat_lt
 rw [UInt8.ofNat_toNat] at this
 exact this h
theorem HQ {b : UInt8} (h : g8 b = false) : fF b = 0 := by
 unfold g8 at h
 rw [decide_eq_false_iff_not] at h
 unfold fF
 rw [if_neg (by omega), if_neg (by omega)]
theorem Fb (b : UInt8) (hp : True) : OK 84 ([bv b]) ([]) (.tuple [.int .i64 (fF b), .bool (g8 b)]) (none) := by
 refine aI (C := cx []) (aG trivial) (fn := Tryd.f84) rfl rfl rfl rfl fun hw hs => ?_
 have hb : b.toNat < 256 := b.toNat_lt
 all_goals try conv => whnf
 all_goals try (refine a8.mk ?_; try dsimp only)
 all_goals (try simp only [bJ] at *)
 all_goals try refine stay ?_
 refine cB.mk Nat (fun i => i ≤ 16 ∧ ∀ j, j < i → hexDigits.getD j 0 ≠ b) (fun i => ⟨16, [(0, .int .u8 b.toNat), (6, .ptr 0 0)], [.siter hexDigits i], []⟩) (fun i => 16 - i) [] 0 ⟨by omega, by simp⟩ ?_ (fun i ⟨hi, hj⟩ _ _ => ?_)
 . refine Go.VG.Sub.mk rfl ?_ ?_ ?_ ?_ <;> (repeat' first | trivial)
 have hl : hexDigits.length = 16 := rfl
 have hd : i < 16 → hexDigits[i]? = some (hexDigits.getD i 0) := fun h => by
  rw [List.getD_eq_getElem?_getD, List.getElem?_eq_getElem (by rw [hl]; exact h)]; rfl
 have hn := HN i
 repeat' ((conv => whnf); (apply aj <;> intro h))
 all_goals try conv => whnf
 all_goals try (refine a8.mk ?_; try dsimp only)
 all_goals (try simp only [bJ] at *)
 all_goals try refine stay ?_
 . rw [hd (by omega)]
   have hn := hn (by omega)
   generalize hx : hexDigits.getD i 0 = x at *
   have hwb : IntKind.i32.wrap (b.toNat : Int) = b.toNat := by (simp (discharger := omega) only [wR]; omega)
   repeat' ((conv => whnf); first | apply ai | (apply aj <;> intro h))
   all_goals try conv => whnf
   all_goals try (refine a8.mk ?_; try dsimp only)
   all_goals (try rw [hwb] at *)
   all_goals (try simp only [bJ] at *)
   all_goals first | refine stay ?_ | omega | skip
   . have : x = b := UInt8.toNat_inj.1 (by omega)
     subst this
     refine ab.mk [] ?_ <;> (repeat' first | trivial | apply aa | apply ar | apply aK | apply aO | apply aJ)
     . rw [hn.1]
     . rw [hn.2.1]
   . refine ⟨[], i + 1, ⟨by omega, fun j hjj => ?_⟩, ?_, by omega⟩
     . by_cases e : j = i
       . subst e; rw [hx]; intro e; subst e; omega
       . exact hj j (by omega)
     . refine Go.VG.Sub.mk rfl ?_ ?_ ?_ ?_ <;> (repeat' first | trivial)
 . have hf : g8 b = false := by
     cases h : g8 b with
     | false => rfl
     | true =>
       exfalso
       refine hj (fF b) ?_ (HO h)
       have := sw b; omega
   refine ab.mk [] ?_ <;> (repeat' first | trivial | apply aa | apply ar | apply aK | apply aO | apply aJ)
   . rw [HQ hf]; rfl
   . rw [hf]
def wJ : Sm := fun args σ => match args, σ with
 | [.int .u8 n_b], [] => some ((0 ≤ n_b ∧ n_b ≤ 255) ∧ (True), .tuple [.int .i64 (fF (byte n_b)), .bool (g8 (byte n_b))], none)
 | _, _ => none
theorem GO : aE 84 wJ := by
 intro args sg pre x r he hp
 unfold wJ at he
 split at he <;> cases he
 . rw [gI (hp).1]; exact Fb (hp := hp.2) ..
theorem EU (c : Cu) (o : List V) (hp : c.ok) : OK 81 ([.ptr 0 0]) ([.cells [.ptr 1 0, .buf 2], .cells (eC c), .buf 1 0 o]) (.int .i32 c.jW) (some [.cells [.ptr 1 0, .buf 2], .cells (eC c.fB), .buf 1 0 o]) := by
 refine aI (C := cx [(43, jq), (84, wJ), (49, jK)]) (aG ⟨jX, GO, kK, trivial⟩) (fn := Tryd.f81) rfl rfl rfl rfl fun hw hs => ?_
 have hb : c.af.toNat < 256 := c.af.toNat_lt
 have e1 : 65 ≤ c.af.toNat ∧ c.af.toNat ≤ 70 → byte (IntKind.u8.wrap (c.af.toNat + 32)) = dF c.af := fun h => by
  unfold dF; rw [if_pos h, mh, show ((c.af.toNat : Int) + 32) % 256 = c.af.toNat + 32 by omega]
 have e2 : ¬ (65 ≤ c.af.toNat ∧ c.af.toNat ≤ 70) → byte c.af.toNat = dF c.af := fun h => by
  unfold dF; rw [if_neg h, dx]
 have hv := sw (dF c.af)
 repeat' ((conv => whnf); first | apply ai | apply aw | (apply aj <;> intro h))
 all_goals try conv => whnf
 all_goals try (refine a8.mk ?_; try dsimp only)
 all_goals (try simp only [bJ] at *)
 all_goals first | refine stay ?_ | trivial | (simp (discharger := omega) [-List.getD_eq_getElem?_getD, wR] <;> omega) | skip
 all_goals first
  | exact ⟨by omega, trivial⟩
  | (first | rw [e1 (by omega)] at * | rw [e2 (by omega)] at *)
 all_goals
  first
  | have hn : g8 (dF c.af) = true := decide_eq_true (by assumption)
  | have hn : g8 (dF c.af) = false := decide_eq_false (by assumption)
  unfold Cu.fB Cu.jW
  rw [hn]
  first | rw [if_pos rfl] | rw [if_neg Bool.false_ne_true]
  refine ab.mk [] ?_ <;> (repeat' first | trivial | apply aa | apply ar)
 all_goals (simp (discharger := omega) only [wR]; omega)
def wq : Sm := fun args σ => match args, σ with
 | [.ptr 0 0], [.cells [.ptr 1 0, .buf 2], .cells ([.str s_c, .int .i64 (.ofNat a_c), .int .i64 (.ofNat e_c), .int .i64 c_c]), .buf 1 0 o] => some (True ∧ ((Cu.mk s_c a_c e_c c_c).ok), .int .i32 (Cu.mk s_c a_c e_c c_c).jW, some [.cells [.ptr 1 0, .buf 2], .cells (eC (Cu.mk s_c a_c e_c c_c).fB), .buf 1 0 o])
 | _, _ => none
theorem GB : aE 81 wq := by
 intro args sg pre x r he hp
 unfold wq at he
 split at he <;> cases he
 . rw [cR (hp).1]; exact EU (hp := hp.2) ..
theorem Ik (a b : Nat) (ha : a < 65536) (hb : b < 16) : jf .i32 (jF .i32 a 4) b = ((16 * a + b : Nat) : Int) := by
 have e : jF .i32 (a : Int) 4 = ((a * 2 ^ 4 : Nat) : Int) := by
  show IntKind.i32.wrap ((a : Int) * 2 ^ (min 4 32)) = _
  rw [mf, show ((2 : Int) ^ (min 4 32)) = 16 from rfl]; omega
 rw [e]
 show IntKind.i32.wrap ((BitVec.ofInt 32 ((a * 2 ^ 4 : Nat) : Int) ||| BitVec.ofInt 32 (b : Int)).toNat : Int) = _
 rw [BitVec.ofInt_natCast, BitVec.ofInt_natCast, BitVec.toNat_or, BitVec.toNat_ofNat, BitVec.toNat_ofNat, Nat.mod_eq_of_lt (by omega), Nat.mod_eq_of_lt (by omega), vr a b 4 hb]
 rw [mf]; omega
theorem ET (c : Cu) (o : List V) (hp : c.ok) : OK 73 ([.ptr 0 0]) ([.cells [.ptr 1 0, .buf 2], .cells (eC c), .buf 1 0 o]) (.int .i32 c.four.2) (some [.cells [.ptr 1 0, .buf 2], .cells (eC c.four.1), .buf 1 0 o]) := by
 refine aI (C := cx [(81, wq), (30, jJ)]) (aG ⟨GB, kJ, trivial⟩) (fn := Tryd.f73) rfl rfl rfl rfl fun hw hs => ?_
 refine cB.mk (Nat × Cu × Nat) (fun | (k, d, u) => k ≤ 4 ∧ d.ok ∧ u < 16 ^ k ∧ dX (4 - k) d (u : Int) = dX 4 c 0)
  (fun | (k, d, u) => ⟨19, [(0, .ptr 0 0), (3, .int .i32 u), (4, .int .i64 k)], [.cells [.ptr 1 0, .buf 2], .cells (eC d), .buf 1 0 o], [2]⟩) (fun x => 4 - x.1) [] (0, c, 0) ⟨by omega, hp, by decide, rfl⟩ ?_ (fun ⟨k, d, u⟩ ⟨hk, hd, hu, he⟩ _ _ => ?_)
 . refine Go.VG.Sub.mk rfl ?_ ?_ ?_ ?_ <;> (repeat' first | trivial)
 have hv := sw (dF d.af)
 have h16 : k < 4 → u < 4096 := fun h => by
  have : (16 : Nat) ^ k ≤ 16 ^ 3 := Nat.pow_le_pow_right (by decide) (by omega)
  omega
 repeat' ((conv => whnf); first | apply ai | apply aw | (apply aj <;> intro h))
 all_goals try conv => whnf
 all_goals try (refine a8.mk ?_; try dsimp only)
 all_goals (try simp only [bJ] at *)
 all_goals first | refine stay ?_ | trivial | skip
 . rw [show 4 - k = (4 - k - 1) + 1 by omega, dX, if_neg (by omega)] at he
   have hu' := h16 (by omega)
   refine ⟨[], (k + 1, d.fB, 16 * u + d.jW), ⟨by omega, uB hd, ?_, ?_⟩, ?_, by omega⟩
   . unfold Cu.jW
     show 16 * u + fF (dF d.af) < 16 ^ k * 16
     omega
   . rw [show 4 - (k + 1) = 4 - k - 1 by omega]; exact he
   . refine Go.VG.Sub.mk rfl ?_ ?_ ?_ ?_ <;> (repeat' first | trivial | apply aa | apply ar)
     . exact Ik _ _ (by omega) hv
     . (simp (discharger := omega) only [wR]; omega)
 . rw [show 4 - k = (4 - k - 1) + 1 by omega, dX, if_pos (by omega)] at he
   unfold Cu.four
   rw [← he]
   refine ab.mk [] ?_ <;> (repeat' first | trivial)
 . rw [show 4 - k = 0 by omega, dX] at he
   unfold Cu.four
   rw [← he]
   refine ab.mk [] ?_ <;> (repeat' first | trivial)
def wo : Sm := fun args σ => match args, σ with
 | [.ptr 0 0], [.cells [.ptr 1 0, .buf 2], .cells ([.str s_c, .int .i64 (.ofNat a_c), .int .i64 (.ofNat e_c), .int .i64 c_c]), .buf 1 0 o] => some (True ∧ ((Cu.mk s_c a_c e_c c_c).ok), .int .i32 (Cu.mk s_c a_c e_c c_c).four.2, some [.cells [.ptr 1 0, .buf 2], .cells (eC (Cu.mk s_c a_c e_c c_c).four.1), .buf 1 0 o])
 | _, _ => none
theorem GA : aE 73 wo := by
 intro args sg pre x r he hp
 unfold wo at he
 split at he <;> cases he
 . rw [cR (hp).1]; exact ET (hp := hp.2) ..
theorem EV (c : Cu) (o : List V) (b : UInt8) (hp : c.ok) : OK 74 ([.ptr 0 0, bv b]) ([.cells [.ptr 1 0, .buf 2], .cells (eC c), .buf 1 0 o]) (.tuple []) (some [.cells [.ptr 1 0, .buf 2], .cells (eC (c.cO b)), .buf 1 0 o]) := by
 refine aI (C := cx [(43, jq), (49, jK)]) (aG ⟨jX, kK, trivial⟩) (fn := Tryd.f74) rfl rfl rfl rfl fun hw hs => ?_
 repeat' ((conv => whnf); first | apply ai | apply aw | (apply aj <;> intro h))
 all_goals try conv => whnf
 all_goals try (refine a8.mk ?_; try dsimp only)
 all_goals (try simp only [bJ] at *)
 all_goals first | refine stay ?_ | trivial | skip
 all_goals
  unfold Cu.cO
  first | rw [if_pos (by omega)] | rw [if_neg (by omega)]
  refine ab.mk [] ?_ <;> (repeat' first | trivial)
def wu : Sm := fun args σ => match args, σ with
 | [.ptr 0 0, .int .u8 n_b], [.cells [.ptr 1 0, .buf 2], .cells ([.str s_c, .int .i64 (.ofNat a_c), .int .i64 (.ofNat e_c), .int .i64 c_c]), .buf 1 0 o] => some ((0 ≤ n_b ∧ n_b ≤ 255) ∧ (True ∧ ((Cu.mk s_c a_c e_c c_c).ok)), .tuple [], some [.cells [.ptr 1 0, .buf 2], .cells (eC ((Cu.mk s_c a_c e_c c_c).cO (byte n_b))), .buf 1 0 o])
 | _, _ => none
theorem GC : aE 74 wu := by
 intro args sg pre x r he hp
 unfold wu at he
 split at he <;> cases he
 . rw [gI (hp).1]; rw [cR (hp.2).1]; exact EV (hp := hp.2.2) ..
theorem EX (b : UInt8) (hp : True) : OK 68 ([bv b]) ([]) (.tuple [.int .i32 (n8 b), .bool (iJ b)]) (none) := by
 refine aI (C := cx []) (aG trivial) (fn := Tryd.f68) rfl rfl rfl rfl fun hw hs => ?_
 have hb : b.toNat < 256 := b.toNat_lt
 repeat' ((conv => whnf); (apply aj <;> intro h))
 all_goals try conv => whnf
 all_goals try (refine a8.mk ?_; try dsimp only)
 all_goals try refine stay ?_
 all_goals
  unfold iJ n8
  first | rw [decide_eq_true (by omega)] | rw [decide_eq_false (by omega)]
  repeat (first | rw [if_pos (by omega)] | rw [if_neg (by omega)])
  refine ab.mk [] ?_ <;> (repeat' first | trivial | apply aa | apply ar | apply aO | apply aJ)
 all_goals (simp (discharger := omega) only [wR]; omega)
def wx : Sm := fun args σ => match args, σ with
 | [.int .u8 n_b], [] => some ((0 ≤ n_b ∧ n_b ≤ 255) ∧ (True), .tuple [.int .i32 (n8 (byte n_b)), .bool (iJ (byte n_b))], none)
 | _, _ => none
theorem GF : aE 68 wx := by
 intro args sg pre x r he hp
 unfold wx at he
 split at he <;> cases he
 . rw [gI (hp).1]; exact EX (hp := hp.2) ..
theorem F0 (b : UInt8) (hp : True) : OK 69 ([bv b]) ([]) (.int .i64 (cQ b)) (none) := by
 refine aI (C := cx []) (aG trivial) (fn := Tryd.f69) rfl rfl rfl rfl fun hw hs => ?_
 repeat' ((conv => whnf); (apply aj <;> intro h))
 all_goals try conv => whnf
 all_goals try (refine a8.mk ?_; try dsimp only)
 all_goals try refine stay ?_
 all_goals
  unfold cQ
  repeat (first | rw [if_pos (by omega)] | rw [if_neg (by omega)])
  refine ab.mk [] ?_ <;> (repeat' first | trivial)
def wC : Sm := fun args σ => match args, σ with
 | [.int .u8 n_b], [] => some ((0 ≤ n_b ∧ n_b ≤ 255) ∧ (True), .int .i64 (cQ (byte n_b)), none)
 | _, _ => none
theorem GI : aE 69 wC := by
 intro args sg pre x r he hp
 unfold wC at he
 split at he <;> cases he
 . rw [gI (hp).1]; exact F0 (hp := hp.2) ..
theorem shl10 (a : Int) : jF .i32 a 10 = IntKind.i32.wrap (a * 1024) := rfl
theorem EW (c : Cu) (o : List V) (hp : c.ok) : OK 66 ([.ptr 0 0]) ([.cells [.ptr 1 0, .buf 2], .cells (eC c), .buf 1 0 o]) (.int .i32 c.number.2) (some [.cells [.ptr 1 0, .buf 2], .cells (eC c.number.1), .buf 1 0 o]) := by
 refine aI (C := cx [(73, wo), (74, wu), (49, jK)]) (aG ⟨GA, GC, kK, trivial⟩) (fn := Tryd.f66) rfl rfl rfl rfl fun hw hs => ?_
 have h1 := rP c
 have h2 := rP ((c.four.1.cO 92).cO 117)
 have k1 := rQ hp
 have k2 := oC k1 92
 have k3 := oC k2 117
 repeat' ((conv => whnf); first | apply ai | (apply aj <;> intro h))
 all_goals try conv => whnf
 all_goals try (refine a8.mk ?_; try dsimp only)
 all_goals (try simp only [bJ] at *)
 all_goals first | refine stay ?_ | trivial | skip
 all_goals (try simp only [show byte 92 = (92 : UInt8) from rfl, show byte 117 = (117 : UInt8) from rfl, shl10] at *)
 all_goals
  unfold Cu.number
  repeat (first | rw [if_pos (by omega)] | rw [if_neg (by omega)])
  refine ab.mk [] ?_ <;> (repeat' first | trivial | apply aa | apply ar)
 simp only [mf]; omega
def wv : Sm := fun args σ => match args, σ with
 | [.ptr 0 0], [.cells [.ptr 1 0, .buf 2], .cells ([.str s_c, .int .i64 (.ofNat a_c), .int .i64 (.ofNat e_c), .int .i64 c_c]), .buf 1 0 o] => some (True ∧ ((Cu.mk s_c a_c e_c c_c).ok), .int .i32 (Cu.mk s_c a_c e_c c_c).number.2, some [.cells [.ptr 1 0, .buf 2], .cells (eC (Cu.mk s_c a_c e_c c_c).number.1), .buf 1 0 o])
 | _, _ => none
theorem GD : aE 66 wv := by
 intro args sg pre x r he hp
 unfold wv at he
 split at he <;> cases he
 . rw [cR (hp).1]; exact EW (hp := hp.2) ..
end Go.Proofs.YtllncocibkgjkaaDoor
