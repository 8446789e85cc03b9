/-
  A part of the proof.
-/
import Derived.Test.YtipejldppicijaaGreatDoorCRt
import Derived.Test.YtipejldppicijaaGreatDoorCWm
set_option linter.unusedSimpArgs false
set_option linter.unusedVariables false
set_option maxHeartbeats 4000000
namespace Go.Proofs.YtipejldppicijaaGreatDoor
open Go Go.VG
set_option maxRecDepth 100000
def fW (id k : Int) (d : Cu) : (Int × Int) × Cu :=
 if d.c ≠ 0 then ((0, 0), d) else if id < -32768 ∨ id > 32767 then ((0, 0), d.fail 4) else ((id, k), d)
def Cu.aI (c : Cu) (last : Int) : (Int × Int) × Cu :=
 if c.byte.c ≠ 0 then ((0, 0), c.byte)
 else if c.aL.toNat = 0 then ((0, 0), c.byte)
 else if il (Go.VG.byte ((c.aL.toNat % 16 : Nat) : Int)) = true then
  if c.aL.toNat / 16 > 0 then fW (IntKind.i64.wrap (last + ((c.aL.toNat / 16 : Nat) : Int))) ((c.aL.toNat % 16 : Nat) : Int) c.byte
  else fW (fL c.byte.aK.1) ((c.aL.toNat % 16 : Nat) : Int) c.byte.aK.2
 else ((0, 0), c.byte.fail 7)
structure Fd where
 id : Int
 k : Int
 num : Int
 bits : Int
 text : List UInt8
 raw : List UInt8
abbrev gO (f : Fd) : List V := [.int .i64 f.id, .int .u8 f.k, .int .i64 f.num, .int .u64 f.bits, .str f.text, .str f.raw]
abbrev cM (f : Fd) : V := .agg (gO f)
theorem Ak {i k n b : Int} {t r : List UInt8} (_ : True) : [V.int .i64 i, .int .u8 k, .int .i64 n, .int .u64 b, .str t, .str r] = gO ⟨i, k, n, b, t, r⟩ := rfl
def kOk (k : Int) : Prop := k = 1 ∨ k = 2 ∨ k = 6 ∨ k = 7 ∨ k = 8
instance (k : Int) : Decidable (kOk k) := by unfold kOk; infer_instance
def Cu.num64 (c : Cu) : Int := if c.aK.2.c = 0 then fL c.aK.1 else 0
theorem Ej {n : Int} (h : -9223372036854775808 ≤ n ∧ n ≤ 9223372036854775807) : bJ n 64 = 0 := by
 unfold bJ nZ
 rw [show dN (64 - 1) = 9223372036854775808 from rfl, if_pos (decide_eq_true (by omega))]
theorem Dn (s : List UInt8) (hp : True) : OK 32 ([.str s]) ([]) (.ptr 1 0) (some [.cells (eC (.new s)), .cells [.str s, .ptr 0 0]]) := by
 refine ai (C := cx [(63, um)]) (aj ⟨EU, trivial⟩) (fn := Tryz.f32) rfl rfl rfl rfl fun hw hs => ?_
 repeat' ((conv => whnf); apply a9)
 all_goals try conv => whnf
 all_goals try (refine a8.mk ?_; try dsimp only)
 all_goals (try simp only [bM] at *)
 all_goals try refine stay ?_
 refine a7.mk [] ?_ <;> (repeat' first | trivial)
def nk : Sm := fun args σ => match args, σ with
 | [.str s], [] => some (True, .ptr 1 0, some [.cells (eC (.new s)), .cells [.str s, .ptr 0 0]])
 | _, _ => none
theorem qD : aa 32 nk := by
 intro args sg pre x r he hp
 unfold nk at he
 split at he <;> cases he
 . exact Dn (hp := hp) ..
def sm_rNum : Sm := fun args σ => match args, σ with
 | [.ptr 0 0, .int .i64 64], [.cells [.str s, .ptr 1 0], .cells ([.str s_c, .int .i64 (.ofNat a_c), .int .i64 (.ofNat e_c), .int .i64 c_c])] => some (True ∧ ((Cu.mk s_c a_c e_c c_c).ok), .int .i64 (Cu.mk s_c a_c e_c c_c).num64, some [.cells [.str s, .ptr 1 0], .cells (eC (Cu.mk s_c a_c e_c c_c).aK.2)])
 | _, _ => none
theorem Dq (s : List UInt8) (c : Cu) (hp : c.ok ∧ c.s.length ≤ 9223372036854775807) : OK 72 ([.ptr 0 0]) ([.cells [.str s, .ptr 1 0], .cells (eC c)]) (.str c.text.1) (some [.cells [.str s, .ptr 1 0], .cells (eC c.text.2)]) := by
 refine ai (C := cx [(68, jh), (35, fK), (124, pr), (66, ff), (123, lM)]) (aj ⟨lp, gu, sX, fY, oe, trivial⟩) (fn := Tryz.f72) rfl rfl rfl rfl fun hw hs => ?_
 obtain ⟨hp, hb⟩ := hp
 have h1 := @pK c
 have hv := rV hp
 have hf := jH hv.1 1
 have hl : c.aK.2.left = (c.aK.2.e : Int) - c.aK.2.p := rfl
 have hw1 := hv.1.1
 have hw2 := hv.1.2
 have hs1 : c.aK.2.s.length = c.s.length := by rw [hv.2.1]
 have hwl : IntKind.u64.wrap c.aK.2.left = c.aK.2.left := by rw [hl, eo]; omega
 repeat' ((conv => whnf); first | apply a9 | (apply ao <;> intro h))
 all_goals try conv => whnf
 all_goals try (refine a8.mk ?_; try dsimp only)
 all_goals (try simp only [Int.toNat_natCast, hwl] at *)
 all_goals (try simp only [bM] at *)
 all_goals first | refine stay ?_ | trivial | skip
 all_goals first
  | exact ⟨trivial, hv.1⟩
  | exact ⟨trivial, hf.1⟩
  | (show a7 _ _ _ _ _ _
     have he : c.text = c.text := rfl
     conv at he => rhs; unfold Cu.text
     dsimp only at he
     first | rw [if_pos ⟨by assumption, by omega⟩] at he | rw [if_neg (by omega)] at he
     rw [he])
  | skip
 . have hfc : ¬ (c.aK.2.fail 1).c = 0 := by
     unfold Cu.fail; rw [if_pos (by assumption)]; exact (by decide : ¬ (1 : Int) = 0)
   have ht := qn hfc (IntKind.i64.wrap c.aK.1)
   simp only [ht.1, ht.2]
   refine a7.mk [] ?_ <;> (repeat' first | trivial)
 . have hwn : IntKind.i64.wrap c.aK.1 = c.aK.1 := by rw [bS]; omega
   simp only [hwn]
   refine a7.mk [] ?_ <;> (repeat' first | trivial)
 . have ht := qn (c := c.aK.2) (by assumption)
   simp only [(ht _).1, (ht _).2]
   refine a7.mk [] ?_ <;> (repeat' first | trivial)
def uQ : Sm := fun args σ => match args, σ with
 | [.ptr 0 0], [.cells [.str s, .ptr 1 0], .cells ([.str s_c, .int .i64 (.ofNat a_c), .int .i64 (.ofNat e_c), .int .i64 c_c])] => some (True ∧ ((Cu.mk s_c a_c e_c c_c).ok ∧ (Cu.mk s_c a_c e_c c_c).s.length ≤ 9223372036854775807), .str (Cu.mk s_c a_c e_c c_c).text.1, some [.cells [.str s, .ptr 1 0], .cells (eC (Cu.mk s_c a_c e_c c_c).text.2)])
 | _, _ => none
theorem Fj : aa 72 uQ := by
 intro args sg pre x r he hp
 unfold uQ at he
 split at he <;> cases he
 . rw [bG (hp).1]; exact Dq (hp := hp.2) ..
end Go.Proofs.YtipejldppicijaaGreatDoor
namespace Go.Proofs.YtipejldppicijaaGreatDoor
open Go Go.VG
set_option maxRecDepth 100000
theorem mz {c : Cu} {k : Int} (h : ¬ k = 0) : ¬ (c.fail k).c = 0 := by unfold Cu.fail; split <;> assumption
theorem CP (c : Cu) (last : Int) (hp : c.ok) : OK 33 ([.ptr 0 0, .int .i64 last]) ([.cells (eC c)]) (.tuple [.int .i64 (c.aI last).1.1, .int .u8 (c.aI last).1.2]) (some [.cells (eC (c.aI last).2)]) := by
 refine ai (C := cx [(64, hC), (35, fK), (65, lJ), (66, ff), (68, jh), (67, rF)]) (aj ⟨iZ, gu, oa, fY, lp, y5, trivial⟩) (fn := Tryz.f33) rfl rfl rfl rfl fun hw hs => ?_
 have hb := kc hp 1
 have hv := rV hb.1
 have h1 := @pK c.byte
 have h256 := c.aL.toNat_lt
 have h15 : iY .u8 (c.aL.toNat : Int) 15 = ((c.aL.toNat % 16 : Nat) : Int) := sL _ (by omega)
 have h4 : IntKind.i64.wrap (ba .u8 (c.aL.toNat : Int) 4) = ((c.aL.toNat / 16 : Nat) : Int) := by
  have e : ba .u8 (c.aL.toNat : Int) 4 = ((c.aL.toNat / 16 : Nat) : Int) := by
   show (c.aL.toNat : Int).fdiv 16 = _
   rw [Int.fdiv_eq_ediv_of_nonneg _ (by decide)]; omega
  rw [e, bS]; omega
 repeat' ((conv => whnf); first | apply a9 | apply aQ | (apply ao <;> intro h))
 all_goals try conv => whnf
 all_goals try (refine a8.mk ?_; try dsimp only)
 all_goals (try simp only [h15, h4, Int.toNat_natCast] at *)
 all_goals (try simp only [bM] at *)
 all_goals first | refine stay ?_ | trivial | omega | (simp (discharger := omega) [-List.getD_eq_getElem?_getD, wR] <;> omega) | skip
 all_goals first
  | exact ⟨trivial, hb.1⟩
  | (exfalso; omega)
  | (exfalso; exact absurd (by assumption) (mz (c := c.byte) (k := 4) (by decide)))
  | (exfalso; exact absurd (by assumption) (mz (c := c.byte.aK.2) (k := 4) (by decide)))
  | (show a7 _ _ _ _ _ _
     have he : c.aI last = c.aI last := rfl
     conv at he => rhs; unfold Cu.aI fW
     repeat (first | rw [if_pos (by first | assumption | omega | exact eO.2 (by assumption))] at he | rw [if_neg (by first | assumption | omega | exact fun q => absurd (eO.1 q) (by assumption))] at he)
     rw [he]
     (refine a7.mk [] ?_ <;> (repeat' first | trivial | rfl | exact cZ _ _ | apply ah | apply b9 | apply ax | apply ct | apply aG | apply cf | apply cY | apply de | apply cg | apply aX))
     done)
  | skip
def rp : Sm := fun args σ => match args, σ with
 | [.ptr 0 0, .int .i64 last], [.cells ([.str s_c, .int .i64 (.ofNat a_c), .int .i64 (.ofNat e_c), .int .i64 c_c])] => some (True ∧ ((Cu.mk s_c a_c e_c c_c).ok), .tuple [.int .i64 ((Cu.mk s_c a_c e_c c_c).aI last).1.1, .int .u8 ((Cu.mk s_c a_c e_c c_c).aI last).1.2], some [.cells (eC ((Cu.mk s_c a_c e_c c_c).aI last).2)])
 | _, _ => none
theorem xP : aa 33 rp := by
 intro args sg pre x r he hp
 unfold rp at he
 split at he <;> cases he
 . rw [bG (hp).1]; exact CP (hp := hp.2) ..
end Go.Proofs.YtipejldppicijaaGreatDoor
namespace Go.Proofs.YtipejldppicijaaGreatDoor
open Go Go.VG
set_option maxRecDepth 100000
theorem oK (s : List UInt8) : (Cu.new s).ok := ⟨Nat.zero_le _, Nat.le_refl _⟩
end Go.Proofs.YtipejldppicijaaGreatDoor
namespace Go.Proofs.YtipejldppicijaaGreatDoor
open Go Go.VG
set_option maxRecDepth 100000
end Go.Proofs.YtipejldppicijaaGreatDoor
namespace Go.Proofs.YtipejldppicijaaGreatDoor
open Go Go.VG
set_option maxRecDepth 100000
end Go.Proofs.YtipejldppicijaaGreatDoor
namespace Go.Proofs.YtipejldppicijaaGreatDoor
open Go Go.VG
set_option maxRecDepth 100000
def fB (i : Int) : Prop := -32768 ≤ i ∧ i ≤ 32767
theorem GR {last id k : Int} (hk : 1 ≤ k ∧ k ≤ 12) (hi : fB id) : 1 ≤ (bQ last id (byte k)).length := by
 have hkn : ((byte k).toNat : Int) = k := dc (by omega)
 obtain ⟨h1, h2⟩ := hi
 unfold bQ
 rw [if_neg (by omega)]
 split <;> simp
theorem yy {out : List UInt8} {last id k : Int} (hk : 1 ≤ k ∧ k ≤ 12) (hi : fB id) :
   CS.may ⟨out, [⟨false, last, 0, 0⟩], 0⟩ id k = (⟨out ++ bQ last id (byte k), [⟨false, id, 0, 0⟩], 0⟩, true) := by
 have hp := GR (last := last) hk hi
 unfold CS.may
 rw [if_neg (by simp), if_neg (by simp), if_neg (by simp [CS.top])]
 show (if (bQ last id (byte k)).length = 0 then _ else _) = _
 rw [if_neg (by omega)]
 rfl
theorem na {out b : List UInt8} {last id k : Int} (hk : 1 ≤ k ∧ k ≤ 12) (hi : fB id) :
   CS.put ⟨out, [⟨false, last, 0, 0⟩], 0⟩ id k b = ⟨out ++ bQ last id (byte k) ++ b, [⟨false, id, 0, 0⟩], 0⟩ := by
 unfold CS.put; rw [yy hk hi, if_pos rfl]
theorem IL {out : List UInt8} {last id n : Int} (hi : fB id) (hn : -9223372036854775808 ≤ n ∧ n ≤ 9223372036854775807) :
   CS.whole ⟨out, [⟨false, last, 0, 0⟩], 0⟩ id 6 n = ⟨out ++ bQ last id (byte 6) ++ aY (fj n), [⟨false, id, 0, 0⟩], 0⟩ := by
 unfold CS.whole
 rw [if_neg (by simp), if_neg (by decide), show gL 6 = 64 from rfl, if_neg (by rw [Ej hn]; decide), na (by decide) hi, if_neg (by decide)]
theorem Eh {out : List UInt8} {id : Int} : CS.fin ⟨out, [⟨false, id, 0, 0⟩], 0⟩ = ⟨out ++ [0], [], 0⟩ := rfl
theorem B5 {out : List UInt8} : CS.done ⟨out, [], 0⟩ = (out, 0) := rfl
end Go.Proofs.YtipejldppicijaaGreatDoor
