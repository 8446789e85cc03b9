/-
  A part of the proof.
-/
import Derived.Test.YtipejldppicijaaGreatDoorCRt
import Derived.Test.YtipejldppicijaaGreatDoorCWm
set_option linter.unusedSimpArgs false
set_option linter.unusedVariables false
set_option maxHeartbeats 4000000
namespace Go.Proofs.YtipejldppicijaaGreatDoor
open Go Go.VG
set_option maxRecDepth 100000
def dj (id k : Int) (d : Cu) : (Int × Int) × Cu :=
 if d.c ≠ 0 then ((0, 0), d) else if id < -32768 ∨ id > 32767 then ((0, 0), d.fail 4) else ((id, k), d)
def Cu.aC (c : Cu) (last : Int) : (Int × Int) × Cu :=
 if c.byte.c ≠ 0 then ((0, 0), c.byte)
 else if c.ao.toNat = 0 then ((0, 0), c.byte)
 else if dH (Go.VG.byte ((c.ao.toNat % 16 : Nat) : Int)) = true then
  if c.ao.toNat / 16 > 0 then dj (IntKind.i64.wrap (last + ((c.ao.toNat / 16 : Nat) : Int))) ((c.ao.toNat % 16 : Nat) : Int) c.byte
  else dj (db c.byte.av.1) ((c.ao.toNat % 16 : Nat) : Int) c.byte.av.2
 else ((0, 0), c.byte.fail 7)
structure Fd where
 id : Int
 k : Int
 num : Int
 bits : Int
 text : List UInt8
 raw : List UInt8
abbrev eK (f : Fd) : List V := [.int .i64 f.id, .int .u8 f.k, .int .i64 f.num, .int .u64 f.bits, .str f.text, .str f.raw]
abbrev bE (f : Fd) : V := .agg (eK f)
theorem uz {i k n b : Int} {t r : List UInt8} (_ : True) : [V.int .i64 i, .int .u8 k, .int .i64 n, .int .u64 b, .str t, .str r] = eK ⟨i, k, n, b, t, r⟩ := rfl
def kOk (k : Int) : Prop := k = 1 ∨ k = 2 ∨ k = 6 ∨ k = 7 ∨ k = 8
instance (k : Int) : Decidable (kOk k) := by unfold kOk; infer_instance
def Cu.num64 (c : Cu) : Int := if c.av.2.c = 0 then db c.av.1 else 0
theorem D9 (s : List UInt8) (hp : True) : OK 32 ([.str s]) ([]) (.ptr 1 0) (some [.cells (eC (.new s)), .cells [.str s, .ptr 0 0]]) := by
 refine ah (C := cx [(63, tE)]) (ai ⟨Ep, trivial⟩) (fn := Tryz.f32) rfl rfl rfl rfl fun hw hs => ?_
 repeat' ((conv => whnf); apply ab)
 all_goals try conv => whnf
 all_goals try (refine a7.mk ?_; try dsimp only)
 all_goals (try simp only [aU] at *)
 all_goals try refine stay ?_
 refine a6.mk [] ?_ <;> (repeat' first | trivial)
def mH : Sm := fun args σ => match args, σ with
 | [.str s], [] => some (True, .ptr 1 0, some [.cells (eC (.new s)), .cells [.str s, .ptr 0 0]])
 | _, _ => none
theorem pK : a9 32 mH := by
 intro args sg pre x r he hp
 unfold mH at he
 split at he <;> cases he
 . exact D9 (hp := hp) ..
def sm_rNum : Sm := fun args σ => match args, σ with
 | [.ptr 0 0, .int .i64 64], [.cells [.str s, .ptr 1 0], .cells ([.str s_c, .int .i64 (.ofNat a_c), .int .i64 (.ofNat e_c), .int .i64 c_c])] => some (True ∧ ((Cu.mk s_c a_c e_c c_c).ok), .int .i64 (Cu.mk s_c a_c e_c c_c).num64, some [.cells [.str s, .ptr 1 0], .cells (eC (Cu.mk s_c a_c e_c c_c).av.2)])
 | _, _ => none
theorem Db (s : List UInt8) (c : Cu) (hp : c.ok ∧ c.s.length ≤ 9223372036854775807) : OK 72 ([.ptr 0 0]) ([.cells [.str s, .ptr 1 0], .cells (eC c)]) (.str c.text.1) (some [.cells [.str s, .ptr 1 0], .cells (eC c.text.2)]) := by
 refine ah (C := cx [(68, jb), (35, fJ), (124, om), (66, eZ), (123, lg)]) (ai ⟨kT, gj, sj, fW, nB, trivial⟩) (fn := Tryz.f72) rfl rfl rfl rfl fun hw hs => ?_
 obtain ⟨hp, hb⟩ := hp
 have h1 := @mR c
 have hv := lp hp
 have hf := g9 hv.1 1
 have hl : c.av.2.left = (c.av.2.e : Int) - c.av.2.p := rfl
 have hw1 := hv.1.1
 have hw2 := hv.1.2
 have hs1 : c.av.2.s.length = c.s.length := by rw [hv.2.1]
 have hwl : IntKind.u64.wrap c.av.2.left = c.av.2.left := by rw [hl, cm]; omega
 repeat' ((conv => whnf); first | apply ab | (apply ae <;> intro h))
 all_goals try conv => whnf
 all_goals try (refine a7.mk ?_; try dsimp only)
 all_goals (try simp only [Int.toNat_natCast, hwl] at *)
 all_goals (try simp only [aU] at *)
 all_goals first | refine stay ?_ | trivial | skip
 all_goals first
  | exact ⟨trivial, hv.1⟩
  | exact ⟨trivial, hf.1⟩
  | (show a6 _ _ _ _ _ _
     have he : c.text = c.text := rfl
     conv at he => rhs; unfold Cu.text
     dsimp only at he
     first | rw [if_pos ⟨by assumption, by omega⟩] at he | rw [if_neg (by omega)] at he
     rw [he])
  | skip
 . have hfc : ¬ (c.av.2.fail 1).c = 0 := by
     unfold Cu.fail; rw [if_pos (by assumption)]; exact (by decide : ¬ (1 : Int) = 0)
   have ht := pk hfc (IntKind.i64.wrap c.av.1)
   simp only [ht.1, ht.2]
   refine a6.mk [] ?_ <;> (repeat' first | trivial)
 . have hwn : IntKind.i64.wrap c.av.1 = c.av.1 := by rw [bL]; omega
   simp only [hwn]
   refine a6.mk [] ?_ <;> (repeat' first | trivial)
 . have ht := pk (c := c.av.2) (by assumption)
   simp only [(ht _).1, (ht _).2]
   refine a6.mk [] ?_ <;> (repeat' first | trivial)
def u9 : Sm := fun args σ => match args, σ with
 | [.ptr 0 0], [.cells [.str s, .ptr 1 0], .cells ([.str s_c, .int .i64 (.ofNat a_c), .int .i64 (.ofNat e_c), .int .i64 c_c])] => some (True ∧ ((Cu.mk s_c a_c e_c c_c).ok ∧ (Cu.mk s_c a_c e_c c_c).s.length ≤ 9223372036854775807), .str (Cu.mk s_c a_c e_c c_c).text.1, some [.cells [.str s, .ptr 1 0], .cells (eC (Cu.mk s_c a_c e_c c_c).text.2)])
 | _, _ => none
theorem EY : a9 72 u9 := by
 intro args sg pre x r he hp
 unfold u9 at he
 split at he <;> cases he
 . rw [bP (hp).1]; exact Db (hp := hp.2) ..
end Go.Proofs.YtipejldppicijaaGreatDoor
