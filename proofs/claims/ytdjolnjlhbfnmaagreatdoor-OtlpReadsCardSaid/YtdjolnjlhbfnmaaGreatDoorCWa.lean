/-
  A part of the proof.
-/
import Derived.Test.YtdjolnjlhbfnmaaGreatDoorB
set_option linter.unusedSimpArgs false
set_option linter.unusedVariables false
set_option maxHeartbeats 4000000
namespace Go.Proofs.YtdjolnjlhbfnmaaGreatDoor
open Go Go.VG
set_option maxRecDepth 100000
def be : Nat → Nat → List UInt8
 | 0, _ => []
 | n + 1, u => be n (u / 256) ++ [.ofNat (u % 256)]
end Go.Proofs.YtdjolnjlhbfnmaaGreatDoor
namespace Go.Proofs.YtdjolnjlhbfnmaaGreatDoor
open Go Go.VG
set_option maxRecDepth 100000
structure Cu where
 s : List UInt8
 p : Nat
 e : Nat
 c : Int
abbrev eC (c : Cu) : List V := [.str c.s, .int .i64 c.p, .int .i64 c.e, .int .i64 c.c]
theorem gm {s : List UInt8} {a e : Nat} {c : Int} (_ : True) : [V.str s, .int .i64 (.ofNat a), .int .i64 (.ofNat e), .int .i64 c] = eC ⟨s, a, e, c⟩ := rfl
@[simp] theorem dc (c : Cu) : Cu.mk c.s c.p c.e c.c = c := rfl
def Cu.ok (c : Cu) : Prop := c.p ≤ c.e ∧ c.e ≤ c.s.length
def Cu.fail (c : Cu) (k : Int) : Cu := if c.c = 0 then { c with c := k } else c
def Cu.get (c : Cu) : UInt8 := c.s.getD c.p 0
def Cu.pass (c : Cu) (n : Int) : Cu := if c.c ≠ 0 then c else if n < 0 then { c with c := 13 } else if n > c.e - c.p then { c with c := 1 } else { c with p := c.p + n.toNat }
def Cu.may (c : Cu) (n : Int) : Bool := decide (c.c = 0 ∧ 0 ≤ n ∧ n ≤ c.e - c.p)
def Cu.byte (c : Cu) : Cu := c.pass 1
def Cu.dG (c : Cu) : UInt8 := if c.c = 0 ∧ c.p < c.e then c.get else 0
def Cu.new (s : List UInt8) : Cu := ⟨s, 0, s.length, 0⟩
def Cu.left (c : Cu) : Int := c.e - c.p
theorem kT {c : Cu} (h : c.ok) (n : Int) : (c.pass n).ok ∧ (c.pass n).s = c.s ∧ (c.pass n).e = c.e := by
 obtain ⟨h1, h2⟩ := h
 unfold Cu.pass
 repeat' split
 all_goals (refine ⟨⟨?_, ?_⟩, rfl, rfl⟩ <;> (try dsimp only) <;> omega)
theorem kD {c : Cu} (h : c.ok) (k : Int) : (c.fail k).ok ∧ (c.fail k).s = c.s ∧ (c.fail k).e = c.e ∧ (c.fail k).p = c.p := by
 unfold Cu.fail; split <;> exact ⟨h, rfl, rfl, rfl⟩
theorem Hg (s : List UInt8) (hp : True) : OK 50 ([.str s]) ([]) (.ptr 0 0) (some [.cells (eC (.new s))]) := by
 refine al (C := cx []) (aq trivial) (fn := Tryz.f50) rfl rfl rfl rfl fun hw hs => ?_
 all_goals try conv => whnf
 all_goals try (refine ae.mk ?_; try dsimp only)
 all_goals try refine stay ?_
 refine af.mk [] ?_ <;> (repeat' first | trivial)
def y4 : Sm := fun args σ => match args, σ with
 | [.str s], [] => some (True, .ptr 0 0, some [.cells (eC (.new s))])
 | _, _ => none
theorem La : au 50 y4 := by
 intro args sg pre x r he hp
 unfold y4 at he
 split at he <;> cases he
 . exact Hg (hp := hp) ..
theorem Hd (c : Cu) (hp : True) : OK 52 ([.ptr 0 0]) ([.cells (eC c)]) (.int .i64 c.c) (none) := by
 refine al (C := cx []) (aq trivial) (fn := Tryz.f52) rfl rfl rfl rfl fun hw hs => ?_
 all_goals try conv => whnf
 all_goals try (refine ae.mk ?_; try dsimp only)
 all_goals try refine stay ?_
 refine af.mk [] ?_ <;> (repeat' first | trivial)
def ni : Sm := fun args σ => match args, σ with
 | [.ptr 0 0], [.cells ([.str s_c, .int .i64 (.ofNat a_c), .int .i64 (.ofNat e_c), .int .i64 c_c])] => some (True ∧ (True), .int .i64 (Cu.mk s_c a_c e_c c_c).c, none)
 | _, _ => none
theorem pR : au 52 ni := by
 intro args sg pre x r he hp
 unfold ni at he
 split at he <;> cases he
 . rw [gm (hp).1]; exact Hd (hp := hp.2) ..
theorem Hf (c : Cu) (hp : c.ok) : OK 75 ([.ptr 0 0]) ([.cells (eC c)]) (.int .i64 c.left) (none) := by
 refine al (C := cx []) (aq trivial) (fn := Tryz.f75) rfl rfl rfl rfl fun hw hs => ?_
 obtain ⟨h1, h2⟩ := hp
 have hb : c.s.length ≤ 9223372036854775807 := hs.1.1
 all_goals try conv => whnf
 all_goals try (refine ae.mk ?_; try dsimp only)
 all_goals try refine stay ?_
 refine af.mk [] ?_ <;> (repeat' first | trivial | apply ax | apply aH)
 unfold Cu.left; (simp (discharger := omega) only [wR]; omega)
def uL : Sm := fun args σ => match args, σ with
 | [.ptr 0 0], [.cells ([.str s_c, .int .i64 (.ofNat a_c), .int .i64 (.ofNat e_c), .int .i64 c_c])] => some (True ∧ ((Cu.mk s_c a_c e_c c_c).ok), .int .i64 (Cu.mk s_c a_c e_c c_c).left, none)
 | _, _ => none
theorem C8 : au 75 uL := by
 intro args sg pre x r he hp
 unfold uL at he
 split at he <;> cases he
 . rw [gm (hp).1]; exact Hf (hp := hp.2) ..
theorem He (c : Cu) (k : Int) (hp : True) : OK 145 ([.ptr 0 0, .int .i64 k]) ([.cells (eC c)]) (.tuple []) (some [.cells (eC (c.fail k))]) := by
 refine al (C := cx []) (aq trivial) (fn := Tryz.f145) rfl rfl rfl rfl fun hw hs => ?_
 repeat' ((conv => whnf); (apply aw <;> intro h))
 all_goals try conv => whnf
 all_goals try (refine ae.mk ?_; try dsimp only)
 all_goals try refine stay ?_
 all_goals
  unfold Cu.fail
  first | rw [if_pos (by assumption)] | rw [if_neg (by assumption)]
  refine af.mk [] ?_ <;> (repeat' first | trivial)
def sx : Sm := fun args σ => match args, σ with
 | [.ptr 0 0, .int .i64 k], [.cells ([.str s_c, .int .i64 (.ofNat a_c), .int .i64 (.ofNat e_c), .int .i64 c_c])] => some (True ∧ (True), .tuple [], some [.cells (eC ((Cu.mk s_c a_c e_c c_c).fail k))])
 | _, _ => none
theorem wH : au 145 sx := by
 intro args sg pre x r he hp
 unfold sx at he
 split at he <;> cases he
 . rw [gm (hp).1]; exact He (hp := hp.2) ..
theorem Hj (c : Cu) (n : Int) (hp : c.ok) : OK 160 ([.ptr 0 0, .int .i64 n]) ([.cells (eC c)]) (.tuple [.int .i64 (if c.may n = true then (c.p : Int) else 0), .bool (c.may n)]) (some [.cells (eC (c.pass n))]) := by
 refine al (C := cx []) (aq trivial) (fn := Tryz.f160) rfl rfl rfl rfl fun hw hs => ?_
 obtain ⟨h1, h2⟩ := hp
 have hb : c.s.length ≤ 9223372036854775807 := hs.1.1
 repeat' ((conv => whnf); first | apply aO | (apply aw <;> intro h))
 all_goals try conv => whnf
 all_goals try (refine ae.mk ?_; try dsimp only)
 all_goals try refine stay ?_
 all_goals (try rw [show IntKind.i64.wrap (↑c.e - ↑c.p) = (c.e : Int) - c.p by (simp (discharger := omega) only [wR]; omega)] at *)
 all_goals
  have hm : c.may n = decide (c.c = 0 ∧ 0 ≤ n ∧ n ≤ c.e - c.p) := rfl
  first
  | rw [decide_eq_true (by omega)] at hm
  | rw [decide_eq_false (by omega)] at hm
  rw [hm]
  unfold Cu.pass
  repeat (first | rw [if_pos (by first | rfl | assumption | omega)] | rw [if_neg (by first | exact Bool.false_ne_true | assumption | omega)])
  refine af.mk [] ?_ <;> (repeat' first | trivial | apply ax | apply aH | apply cS | apply bE)
 show IntKind.i64.wrap (c.p + n) = ((c.p + n.toNat : Nat) : Int)
 (simp (discharger := omega) only [wR]; omega)
def uM : Sm := fun args σ => match args, σ with
 | [.ptr 0 0, .int .i64 n], [.cells ([.str s_c, .int .i64 (.ofNat a_c), .int .i64 (.ofNat e_c), .int .i64 c_c])] => some (True ∧ ((Cu.mk s_c a_c e_c c_c).ok), .tuple [.int .i64 (if (Cu.mk s_c a_c e_c c_c).may n = true then ((Cu.mk s_c a_c e_c c_c).p : Int) else 0), .bool ((Cu.mk s_c a_c e_c c_c).may n)], some [.cells (eC ((Cu.mk s_c a_c e_c c_c).pass n))])
 | _, _ => none
theorem C9 : au 160 uM := by
 intro args sg pre x r he hp
 unfold uM at he
 split at he <;> cases he
 . rw [gm (hp).1]; exact Hj (hp := hp.2) ..
theorem Hb (c : Cu) (n : Int) (x : V) (hp : 0 ≤ n ∧ n < c.s.length) : OK 161 ([.int .i64 n, .ptr 0 0, .ptr 1 0]) ([.cells [.ptr 2 0], .cells [x], .cells (eC c)]) (.tuple []) (some [.cells [.ptr 2 0], .cells [bv (c.s.getD n.toNat 0)], .cells (eC c)]) := by
 refine al (C := cx []) (aq trivial) (fn := Tryz.f161) rfl rfl rfl rfl fun hw hs => ?_
 repeat' ((conv => whnf); first | apply aj | with_reducible refine jL ?_ fun hc => ?_)
 all_goals try conv => whnf
 all_goals try (refine ae.mk ?_; try dsimp only)
 all_goals first | refine stay ?_ | omega | skip
 refine af.mk [] ?_ <;> (repeat' first | trivial)
def y3 : Sm := fun args σ => match args, σ with
 | [.int .i64 n, .ptr 0 0, .ptr 1 0], [.cells [.ptr 2 0], .cells [x], .cells ([.str s_c, .int .i64 (.ofNat a_c), .int .i64 (.ofNat e_c), .int .i64 c_c])] => some (True ∧ (0 ≤ n ∧ n < (Cu.mk s_c a_c e_c c_c).s.length), .tuple [], some [.cells [.ptr 2 0], .cells [bv ((Cu.mk s_c a_c e_c c_c).s.getD n.toNat 0)], .cells (eC (Cu.mk s_c a_c e_c c_c))])
 | _, _ => none
theorem L9 : au 161 y3 := by
 intro args sg pre x r he hp
 unfold y3 at he
 split at he <;> cases he
 . rw [gm (hp).1]; exact Hb (hp := hp.2) ..
theorem Hh (c : Cu) (n : Int) (x : Int) (hp : c.ok ∧ n = 1 ∧ x = 0) : OK 159 ([.func (.func 160) [.ptr 0 0] [], .int .i64 n, .func (.func 161) [] [.ptr 1 0, .ptr 2 0]]) ([.cells (eC c), .cells [.ptr 0 0], .cells [.int .u8 x]]) (.tuple []) (some [.cells (eC c.byte), .cells [.ptr 0 0], .cells [bv c.dG]]) := by
 refine al (C := cx [(160, uM), (161, y3)]) (aq ⟨C9, L9, trivial⟩) (fn := Tryz.f159) rfl rfl rfl rfl fun hw hs => ?_
 obtain ⟨hp, rfl, rfl⟩ := hp
 have h1 := hp.1
 have h2 := hp.2
 have hq := kT hp 1
 repeat' ((conv => whnf); first | apply aj | (apply aw <;> intro h))
 all_goals try conv => whnf
 all_goals try (refine ae.mk ?_; try dsimp only)
 all_goals (try simp only [dc] at *)
 all_goals first | refine stay ?_ | trivial | skip
 . have hm : c.may 1 = true := decide_eq_true (by assumption)
   rw [hm, if_pos rfl, hq.2.1]
   exact ⟨trivial, by omega, by omega⟩
 . have hm : c.may 1 = true := decide_eq_true (by assumption)
   refine af.mk [] ?_ <;> (repeat' first | trivial | apply ax | apply aH | apply cS | apply bE)
   rw [hm, if_pos rfl, hq.2.1]
   unfold Cu.dG
   rw [if_pos (by omega)]
   rfl
 . refine af.mk [] ?_ <;> (repeat' first | trivial | apply ax | apply aH | apply cS | apply bE)
   unfold Cu.dG
   rw [if_neg (by omega)]
   rfl
def y5 : Sm := fun args σ => match args, σ with
 | [.func (.func 160) [.ptr 0 0] [], .int .i64 n, .func (.func 161) [] [.ptr 1 0, .ptr 2 0]], [.cells ([.str s_c, .int .i64 (.ofNat a_c), .int .i64 (.ofNat e_c), .int .i64 c_c]), .cells [.ptr 0 0], .cells [.int .u8 x]] => some (True ∧ ((Cu.mk s_c a_c e_c c_c).ok ∧ n = 1 ∧ x = 0), .tuple [], some [.cells (eC (Cu.mk s_c a_c e_c c_c).byte), .cells [.ptr 0 0], .cells [bv (Cu.mk s_c a_c e_c c_c).dG]])
 | _, _ => none
theorem Lb : au 159 y5 := by
 intro args sg pre x r he hp
 unfold y5 at he
 split at he <;> cases he
 . rw [gm (hp).1]; exact Hh (hp := hp.2) ..
theorem Hc (c : Cu) (hp : c.ok) : OK 146 ([.ptr 0 0]) ([.cells (eC c)]) (bv c.dG) (some [.cells (eC c.byte)]) := by
 refine al (C := cx [(159, y5)]) (aq ⟨Lb, trivial⟩) (fn := Tryz.f146) rfl rfl rfl rfl fun hw hs => ?_
 repeat' ((conv => whnf); apply aj)
 all_goals try conv => whnf
 all_goals try (refine ae.mk ?_; try dsimp only)
 all_goals (try simp only [dc] at *)
 all_goals first | refine stay ?_ | trivial | skip
 refine af.mk [] ?_ <;> (repeat' first | trivial)
def y0 : Sm := fun args σ => match args, σ with
 | [.ptr 0 0], [.cells ([.str s_c, .int .i64 (.ofNat a_c), .int .i64 (.ofNat e_c), .int .i64 c_c])] => some (True ∧ ((Cu.mk s_c a_c e_c c_c).ok), bv (Cu.mk s_c a_c e_c c_c).dG, some [.cells (eC (Cu.mk s_c a_c e_c c_c).byte)])
 | _, _ => none
theorem L8 : au 146 y0 := by
 intro args sg pre x r he hp
 unfold y0 at he
 split at he <;> cases he
 . rw [gm (hp).1]; exact Hc (hp := hp.2) ..
end Go.Proofs.YtdjolnjlhbfnmaaGreatDoor
namespace Go.Proofs.YtdjolnjlhbfnmaaGreatDoor
open Go Go.VG
set_option maxRecDepth 100000
def jx : Nat → Nat → List UInt8
 | 0, u => [.ofNat u]
 | k + 1, u => if u < 128 then [.ofNat u] else .ofNat (128 + u % 128) :: jx k (u / 128)
def cm (u : Nat) : List UInt8 := jx u u
theorem vn : ∀ (k j u : Nat), u ≤ k → u ≤ j → jx k u = jx j u
 | 0, 0, u, _, _ => rfl
 | 0, j + 1, u, h, _ => by rw [jx, jx, if_pos (by omega)]
 | k + 1, 0, u, _, h => by rw [jx, jx, if_pos (by omega)]
 | k + 1, j + 1, u, h, h2 => by
   rw [jx, jx]
   split
   . rfl
   . rw [vn k j (u / 128) (by omega) (by omega)]
theorem sO {u : Nat} (h : u < 128) : cm u = [.ofNat u] := by
 unfold cm
 rw [vn u (u + 1) u (Nat.le_refl _) (by omega), jx, if_pos h]
theorem vo {u : Nat} (h : ¬ u < 128) : cm u = .ofNat (128 + u % 128) :: cm (u / 128) := by
 unfold cm
 rw [vn u (u + 1) u (Nat.le_refl _) (by omega), jx, if_neg h, vn u (u / 128) (u / 128) (by omega) (Nat.le_refl _)]
theorem F5 : ∀ (k u : Nat), u < 128 ^ (k + 1) → 1 ≤ (cm u).length ∧ (cm u).length ≤ k + 1
 | 0, u, h => by
   rw [sO (by omega)]
   simp
 | k + 1, u, h => by
   by_cases c : u < 128
   . rw [sO c]; simp
   . rw [vo c]
     have := F5 k (u / 128) (by rw [Nat.pow_succ] at h; omega)
     simp only [List.length_cons]; omega
theorem iZ {u : Nat} (h : u ≤ 18446744073709551615) : 1 ≤ (cm u).length ∧ (cm u).length ≤ 10 := F5 9 u (by omega)
theorem Dj : ∀ n : Nat, n < 256 → mN .u8 n 128 = ((128 + n % 128 : Nat) : Int) := by decide
def uk (b : Int) : Int := ((2 ^ b.toNat : Nat) : Int)
def len8 : List UInt8 := [0, 1, 2, 2, 3, 3, 3, 3, 4, 4, 4, 4, 4, 4, 4, 4, 5, 5, 5, 5, 5, 5, 5, 5, 5, 5, 5, 5, 5, 5, 5, 5, 6, 6, 6, 6, 6, 6, 6, 6, 6, 6, 6, 6, 6, 6, 6, 6, 6, 6, 6, 6, 6, 6, 6, 6, 6, 6, 6, 6, 6, 6, 6, 6, 7, 7, 7, 7, 7, 7, 7, 7, 7, 7, 7, 7, 7, 7, 7, 7, 7, 7, 7, 7, 7, 7, 7, 7, 7, 7, 7, 7, 7, 7, 7, 7, 7, 7, 7, 7, 7, 7, 7, 7, 7, 7, 7, 7, 7, 7, 7, 7, 7, 7, 7, 7, 7, 7, 7, 7, 7, 7, 7, 7, 7, 7, 7, 7, 8, 8, 8, 8, 8, 8, 8, 8, 8, 8, 8, 8, 8, 8, 8, 8, 8, 8, 8, 8, 8, 8, 8, 8, 8, 8, 8, 8, 8, 8, 8, 8, 8, 8, 8, 8, 8, 8, 8, 8, 8, 8, 8, 8, 8, 8, 8, 8, 8, 8, 8, 8, 8, 8, 8, 8, 8, 8, 8, 8, 8, 8, 8, 8, 8, 8, 8, 8, 8, 8, 8, 8, 8, 8, 8, 8, 8, 8, 8, 8, 8, 8, 8, 8, 8, 8, 8, 8, 8, 8, 8, 8, 8, 8, 8, 8, 8, 8, 8, 8, 8, 8, 8, 8, 8, 8, 8, 8, 8, 8, 8, 8, 8, 8, 8, 8, 8, 8, 8, 8, 8, 8, 8, 8, 8, 8, 8, 8]
def mU (u : Nat) : Nat := if u ≥ 256 then 8 + (len8.getD (u / 256) 0).toNat else (len8.getD u 0).toNat
def mV (u : Nat) : Nat := if u ≥ 65536 then 16 + mU (u / 65536) else mU u
def jO (u : Nat) : Nat := if u ≥ 4294967296 then 32 + mV (u / 4294967296) else mV u
theorem tZ : ∀ i, (len8.getD i 0).toNat ≤ 8 := by
 intro i
 have h : ∀ x ∈ len8, x.toNat ≤ 8 := by decide
 rw [List.getD_eq_getElem?_getD]
 cases e : len8[i]? with
 | none => simp
 | some x => exact h x (List.mem_of_getElem? e)
theorem CL (u : Nat) : jO u ≤ 64 := by
 have := tZ
 have h1 : ∀ u, mU u ≤ 16 := fun u => by unfold mU; split <;> (have := tZ (u / 256); have := tZ u; omega)
 have h2 : ∀ u, mV u ≤ 32 := fun u => by unfold mV; split <;> (have := h1 (u / 65536); have := h1 u; omega)
 unfold jO; split <;> (have := h2 (u / 4294967296); have := h2 u; omega)
theorem Mt {l : List UInt8} (h : l = len8) {n : Nat} (hn : n < 256) : l.getD (IntKind.u8.wrap (n : Int)).toNat 0 = len8.getD n 0 := by
 rw [h, show (IntKind.u8.wrap (n : Int)).toNat = n by (simp (discharger := omega) only [wR]; omega)]
theorem Ho (q : Int) (hp : 0 ≤ q ∧ q ≤ 18446744073709551615) : OK 134 ([.int .u64 q]) ([]) (.int .i64 (jO q.toNat : Nat)) (none) := by
 refine al (C := cx []) (aq trivial) (fn := Tryz.f134) rfl rfl rfl rfl fun hw hs => ?_
 obtain ⟨u, rfl⟩ := Int.eq_ofNat_of_zero_le hp.1
 rw [Int.toNat_natCast]
 have h32 : ∀ n : Nat, jM .u64 n 32 = ((n / 4294967296 : Nat) : Int) := fun n => pL .u64 n 32
 have h16 : ∀ n : Nat, jM .u64 n 16 = ((n / 65536 : Nat) : Int) := fun n => pL .u64 n 16
 have h8 : ∀ n : Nat, jM .u64 n 8 = ((n / 256 : Nat) : Int) := fun n => pL .u64 n 8
 have hb := tZ
 repeat' ((conv => whnf); first | apply aj | (apply aw <;> intro h) | with_reducible refine jL ?_ fun hc => ?_)
 all_goals try conv => whnf
 all_goals try (refine ae.mk ?_; try dsimp only)
 all_goals (try simp only [h32, h16, h8] at *)
 all_goals first
  | (show (0 : Int) ≤ _; (first | omega | (simp (discharger := omega) only [wR]; omega)))
  | (refine Nat.lt_of_lt_of_le (m := 256) ?_ (Nat.le_of_eq rfl); (simp (discharger := omega) only [wR]; omega))
  | skip
 all_goals
  unfold jO mV mU
  repeat (first | rw [if_pos (by omega)] | rw [if_neg (by omega)])
  refine af.mk [] ?_ <;> (repeat' first | trivial | apply ax | apply aH)
  rw [Mt]
  . generalize hk : (len8.getD _ 0).toNat = k
    have hk8 : k ≤ 8 := hk ▸ hb _
    (simp (discharger := omega) only [wR]; omega)
  . rfl
  . omega
def ya : Sm := fun args σ => match args, σ with
 | [.int .u64 q], [] => some (0 ≤ q ∧ q ≤ 18446744073709551615, .int .i64 (jO q.toNat : Nat), none)
 | _, _ => none
theorem Lf : au 134 ya := by
 intro args sg pre x r he hp
 unfold ya at he
 split at he <;> cases he
 . exact Ho (hp := hp) ..
def i6 (u : Nat) : Nat := ((max (jO u) 1) + 6) / 7
theorem su (u : Nat) : 1 ≤ i6 u ∧ i6 u ≤ 10 := by have := CL u; unfold i6; omega
theorem KE (u : Int) (hp : 0 ≤ u ∧ u ≤ 18446744073709551615) : OK 185 ([.int .u64 u]) ([]) (.int .i64 (i6 u.toNat : Nat)) (none) := by
 refine al (C := cx [(134, ya)]) (aq ⟨Lf, trivial⟩) (fn := Tryz.f185) rfl rfl rfl rfl fun hw hs => ?_
 obtain ⟨n, rfl⟩ := Int.eq_ofNat_of_zero_le hp.1
 rw [Int.toNat_natCast]
 have := CL n
 repeat' ((conv => whnf); apply aj)
 all_goals try conv => whnf
 all_goals try (refine ae.mk ?_; try dsimp only)
 all_goals first | refine stay ?_ | trivial | skip
 unfold i6
 refine af.mk [] ?_ <;> (repeat' first | trivial | apply ax | apply aH)
 simp only [Int.toNat_natCast]
 split <;> (simp (discharger := omega) only [wR]; omega)
def oN : Sm := fun args σ => match args, σ with
 | [.int .u64 u], [] => some (0 ≤ u ∧ u ≤ 18446744073709551615, .int .i64 (i6 u.toNat : Nat), none)
 | _, _ => none
theorem rF : au 185 oN := by
 intro args sg pre x r he hp
 unfold oN at he
 split at he <;> cases he
 . exact KE (hp := hp) ..
theorem KB (l : List V) (u : Int) (hp : (0 ≤ u ∧ u ≤ 18446744073709551615) ∧ l.length ≤ 2000000000) : OK 182 ([.buf 0, .int .u64 u]) ([.buf 1 0 l]) (.buf 1) (some [.buf 1 0 l, .buf 1 0 (l ++ bl (cm u.toNat))]) := by
 refine al (C := cx [(185, oN)]) (aq ⟨rF, trivial⟩) (fn := Tryz.f182) rfl rfl rfl rfl fun hw hs => ?_
 obtain ⟨hp, hq⟩ := hp
 obtain ⟨n, rfl⟩ := Int.eq_ofNat_of_zero_le hp.1
 rw [Int.toNat_natCast]
 have hz := su n
 have hv := iZ (u := n) (by omega)
 repeat' ((conv => whnf); apply aj)
 all_goals try conv => whnf
 all_goals try (refine ae.mk ?_; try dsimp only)
 all_goals first | refine stay ?_ | trivial | (simp (discharger := omega) [-List.getD_eq_getElem?_getD, wR] <;> omega) | skip
 refine aT.mk (Nat × List UInt8) (fun | (w, o) => w ≤ 18446744073709551615 ∧ cm n = o ++ cm w) (fun | (w, o) => ⟨32, [(0, .buf 0), (1, .int .u64 w), (4, .list true 0 []), (5, .buf 1)], [.buf 1 0 l, .buf 1 0 (l ++ bl o)], [1]⟩) (fun x => x.1) [] (n, []) ⟨by omega, rfl⟩ ?_ (fun ⟨w, o⟩ ⟨hw, he⟩ _ _ => ?_)
 . refine Go.VG.Sub.mk rfl ?_ ?_ ?_ ?_ <;> (repeat' first | trivial | apply ax | apply bo)
   simp [bl]
 have hs7 : jM .u64 w 7 = ((w / 128 : Nat) : Int) := pL .u64 w 7
 have ho := eY o
 have hvw := iZ hw
 have hel := congrArg List.length he
 rw [List.length_append] at hel
 have ob : mN .u8 (IntKind.u8.wrap w) 128 = (((UInt8.ofNat (128 + w % 128)).toNat : Nat) : Int) := by
  rw [show IntKind.u8.wrap (w : Int) = ((w % 256 : Nat) : Int) by rw [wu8]; omega, Dj _ (by omega), UInt8.toNat_ofNat']
  omega
 have on : IntKind.u8.wrap w = (((UInt8.ofNat w).toNat : Nat) : Int) := by rw [wu8, UInt8.toNat_ofNat']; omega
 repeat' ((conv => whnf); first | apply aj | (apply aw <;> intro h))
 all_goals try conv => whnf
 all_goals try (refine ae.mk ?_; try dsimp only)
 all_goals first | refine stay ?_ | trivial | (simp only [cL]; omega) | skip
 . refine ⟨[], (w / 128, o ++ [.ofNat (128 + w % 128)]), ⟨by omega, by rw [he, vo (by omega)]; simp⟩, ?_, by show w / 128 < w; omega⟩
   refine Go.VG.Sub.mk rfl ?_ ?_ ?_ ?_ <;> (repeat' first | trivial | apply ax | apply aH | apply bo)
   rw [dF, List.append_assoc]; simp [bl, bv, ob]
 . rw [he, sO (by omega)]
   refine af.mk [] ?_ <;> (repeat' first | trivial | apply ax | apply bo)
   rw [dF, List.append_assoc]; simp [bl, bv, on]
theorem BE (c : Bool) (l : List V) (u : Int) (hp : (0 ≤ u ∧ u ≤ 18446744073709551615) ∧ l.length ≤ 2000000000) : OK 182 ([.list c 1 l, .int .u64 u]) ([]) (.buf 0) (some [.buf 1 0 (l ++ bl (cm u.toNat))]) := by
 refine al (C := cx [(185, oN)]) (aq ⟨rF, trivial⟩) (fn := Tryz.f182) rfl rfl rfl rfl fun hw hs => ?_
 obtain ⟨hp, hq⟩ := hp
 obtain ⟨n, rfl⟩ := Int.eq_ofNat_of_zero_le hp.1
 rw [Int.toNat_natCast]
 have hz := su n
 have hv := iZ (u := n) (by omega)
 repeat' ((conv => whnf); apply aj)
 all_goals try conv => whnf
 all_goals try (refine ae.mk ?_; try dsimp only)
 all_goals first | refine stay ?_ | trivial | (simp (discharger := omega) [-List.getD_eq_getElem?_getD, wR] <;> omega) | skip
 refine aT.mk (Nat × List UInt8) (fun | (w, o) => w ≤ 18446744073709551615 ∧ cm n = o ++ cm w) (fun | (w, o) => ⟨32, [(0, .list c 1 l), (1, .int .u64 w), (4, .list true 0 []), (5, .buf 0)], [.buf 1 0 (l ++ bl o)], [0]⟩) (fun x => x.1) [] (n, []) ⟨by omega, rfl⟩ ?_ (fun ⟨w, o⟩ ⟨hw, he⟩ _ _ => ?_)
 . refine Go.VG.Sub.mk rfl ?_ ?_ ?_ ?_ <;> (repeat' first | trivial | apply ax | apply bo)
   simp [bl]
 have hs7 : jM .u64 w 7 = ((w / 128 : Nat) : Int) := pL .u64 w 7
 have ho := eY o
 have hvw := iZ hw
 have hel := congrArg List.length he
 rw [List.length_append] at hel
 have ob : mN .u8 (IntKind.u8.wrap w) 128 = (((UInt8.ofNat (128 + w % 128)).toNat : Nat) : Int) := by
  rw [show IntKind.u8.wrap (w : Int) = ((w % 256 : Nat) : Int) by rw [wu8]; omega, Dj _ (by omega), UInt8.toNat_ofNat']
  omega
 have on : IntKind.u8.wrap w = (((UInt8.ofNat w).toNat : Nat) : Int) := by rw [wu8, UInt8.toNat_ofNat']; omega
 repeat' ((conv => whnf); first | apply aj | (apply aw <;> intro h))
 all_goals try conv => whnf
 all_goals try (refine ae.mk ?_; try dsimp only)
 all_goals first | refine stay ?_ | trivial | (simp only [cL]; omega) | skip
 . refine ⟨[], (w / 128, o ++ [.ofNat (128 + w % 128)]), ⟨by omega, by rw [he, vo (by omega)]; simp⟩, ?_, by show w / 128 < w; omega⟩
   refine Go.VG.Sub.mk rfl ?_ ?_ ?_ ?_ <;> (repeat' first | trivial | apply ax | apply aH | apply bo)
   rw [dF, List.append_assoc]; simp [bl, bv, ob]
 . rw [he, sO (by omega)]
   refine af.mk [] ?_ <;> (repeat' first | trivial | apply ax | apply bo)
   rw [dF, List.append_assoc]; simp [bl, bv, on]
theorem KC (z : Nat) (u : Int) (hp : 0 ≤ u ∧ u ≤ 18446744073709551615) : OK 182 ([.list true z [], .int .u64 u]) ([]) (.buf 0) (some [.buf 1 0 (bl (cm u.toNat))]) := by
 exact (BE true [] u ⟨hp, by simp⟩).args (aE.cons (Wk.nil (.inl rfl)) (aE.refl _))
def oM : Sm := fun args σ => match args, σ with
 | [.buf 0, .int .u64 u], [.buf 1 0 l] => some ((0 ≤ u ∧ u ≤ 18446744073709551615) ∧ l.length ≤ 2000000000, .buf 1, some [.buf 1 0 l, .buf 1 0 (l ++ bl (cm u.toNat))])
 | [.list c 1 l, .int .u64 u], [] => some ((0 ≤ u ∧ u ≤ 18446744073709551615) ∧ l.length ≤ 2000000000, .buf 0, some [.buf 1 0 (l ++ bl (cm u.toNat))])
 | [.list true z [], .int .u64 u], [] => some (0 ≤ u ∧ u ≤ 18446744073709551615, .buf 0, some [.buf 1 0 (bl (cm u.toNat))])
 | _, _ => none
theorem rE : au 182 oM := by
 intro args sg pre x r he hp
 unfold oM at he
 split at he <;> cases he
 . exact KB (hp := hp) ..
 . exact BE (hp := hp) ..
 . exact KC (hp := hp) ..
end Go.Proofs.YtdjolnjlhbfnmaaGreatDoor
