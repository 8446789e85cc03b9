/-
  A part of the proof.
-/
import Derived.Test.YtipejldppicijaaGreatDoorCRt
import Derived.Test.YtipejldppicijaaGreatDoorCWm
set_option linter.unusedSimpArgs false
set_option linter.unusedVariables false
set_option maxHeartbeats 4000000
namespace Go.Proofs.YtipejldppicijaaGreatDoor
open Go Go.VG
set_option maxRecDepth 100000
def fH (id k : Int) (d : Cu) : (Int × Int) × Cu :=
 if d.c ≠ 0 then ((0, 0), d) else if id < -32768 ∨ id > 32767 then ((0, 0), d.fail 4) else ((id, k), d)
def Cu.aK (c : Cu) (last : Int) : (Int × Int) × Cu :=
 if c.byte.c ≠ 0 then ((0, 0), c.byte)
 else if c.aQ.toNat = 0 then ((0, 0), c.byte)
 else if fp (Go.VG.byte ((c.aQ.toNat % 16 : Nat) : Int)) = true then
  if c.aQ.toNat / 16 > 0 then fH (IntKind.i64.wrap (last + ((c.aQ.toNat / 16 : Nat) : Int))) ((c.aQ.toNat % 16 : Nat) : Int) c.byte
  else fH (fC c.byte.aO.1) ((c.aQ.toNat % 16 : Nat) : Int) c.byte.aO.2
 else ((0, 0), c.byte.fail 7)
structure Fd where
 id : Int
 k : Int
 num : Int
 bits : Int
 text : List UInt8
 raw : List UInt8
abbrev iF (f : Fd) : List V := [.int .i64 f.id, .int .u8 f.k, .int .i64 f.num, .int .u64 f.bits, .str f.text, .str f.raw]
abbrev cQ (f : Fd) : V := .agg (iF f)
theorem Dv {i k n b : Int} {t r : List UInt8} (_ : True) : [V.int .i64 i, .int .u8 k, .int .i64 n, .int .u64 b, .str t, .str r] = iF ⟨i, k, n, b, t, r⟩ := rfl
def kOk (k : Int) : Prop := k = 1 ∨ k = 2 ∨ k = 6 ∨ k = 7 ∨ k = 8
instance (k : Int) : Decidable (kOk k) := by unfold kOk; infer_instance
def Cu.num64 (c : Cu) : Int := if c.aO.2.c = 0 then fC c.aO.1 else 0
theorem rR {n : Int} (h : -9223372036854775808 ≤ n ∧ n ≤ 9223372036854775807) : bc n 64 = 0 := by
 unfold bc gZ
 rw [show bO (64 - 1) = 9223372036854775808 from rfl, if_pos (decide_eq_true (by omega))]
theorem HB (s : List UInt8) (hp : True) : OK 32 ([.str s]) ([]) (.ptr 1 0) (some [.cells (eC (.new s)), .cells [.str s, .ptr 0 0]]) := by
 refine af (C := cx [(63, wI)]) (ah ⟨IX, trivial⟩) (fn := Tryz.f32) rfl rfl rfl rfl fun hw hs => ?_
 repeat' ((conv => whnf); apply a9)
 all_goals try conv => whnf
 all_goals try (refine a8.mk ?_; try dsimp only)
 all_goals (try simp only [cg] at *)
 all_goals try refine stay ?_
 refine a7.mk [] ?_ <;> (repeat' first | trivial)
def oB : Sm := fun args σ => match args, σ with
 | [.str s], [] => some (True, .ptr 1 0, some [.cells (eC (.new s)), .cells [.str s, .ptr 0 0]])
 | _, _ => none
theorem s4 : aa 32 oB := by
 intro args sg pre x r he hp
 unfold oB at he
 split at he <;> cases he
 . exact HB (hp := hp) ..
def sm_rNum : Sm := fun args σ => match args, σ with
 | [.ptr 0 0, .int .i64 64], [.cells [.str s, .ptr 1 0], .cells ([.str s_c, .int .i64 (.ofNat a_c), .int .i64 (.ofNat e_c), .int .i64 c_c])] => some (True ∧ ((Cu.mk s_c a_c e_c c_c).ok), .int .i64 (Cu.mk s_c a_c e_c c_c).num64, some [.cells [.str s, .ptr 1 0], .cells (eC (Cu.mk s_c a_c e_c c_c).aO.2)])
 | _, _ => none
theorem HD (s : List UInt8) (c : Cu) (hp : c.ok ∧ c.s.length ≤ 9223372036854775807) : OK 72 ([.ptr 0 0]) ([.cells [.str s, .ptr 1 0], .cells (eC c)]) (.str c.text.1) (some [.cells [.str s, .ptr 1 0], .cells (eC c.text.2)]) := by
 refine af (C := cx [(68, kb), (35, gD), (124, qN), (66, fX), (123, mR)]) (ah ⟨mz, ib, vl, gK, pL, trivial⟩) (fn := Tryz.f72) rfl rfl rfl rfl fun hw hs => ?_
 obtain ⟨hp, hb⟩ := hp
 have h1 := @ra c
 have hv := ub hp
 have hf := kQ hv.1 1
 have hl : c.aO.2.left = (c.aO.2.e : Int) - c.aO.2.p := rfl
 have hw1 := hv.1.1
 have hw2 := hv.1.2
 have hs1 : c.aO.2.s.length = c.s.length := by rw [hv.2.1]
 have hwl : IntKind.u64.wrap c.aO.2.left = c.aO.2.left := by rw [hl, dN]; omega
 repeat' ((conv => whnf); first | apply a9 | (apply al <;> intro h))
 all_goals try conv => whnf
 all_goals try (refine a8.mk ?_; try dsimp only)
 all_goals (try simp only [Int.toNat_natCast, hwl] at *)
 all_goals (try simp only [cg] at *)
 all_goals first | refine stay ?_ | trivial | skip
 all_goals first
  | exact ⟨trivial, hv.1⟩
  | exact ⟨trivial, hf.1⟩
  | (show a7 _ _ _ _ _ _
     have he : c.text = c.text := rfl
     conv at he => rhs; unfold Cu.text
     dsimp only at he
     first | rw [if_pos ⟨by assumption, by omega⟩] at he | rw [if_neg (by omega)] at he
     rw [he])
  | skip
 . have hfc : ¬ (c.aO.2.fail 1).c = 0 := by
     unfold Cu.fail; rw [if_pos (by assumption)]; exact (by decide : ¬ (1 : Int) = 0)
   have ht := rN hfc (IntKind.i64.wrap c.aO.1)
   simp only [ht.1, ht.2]
   refine a7.mk [] ?_ <;> (repeat' first | trivial)
 . have hwn : IntKind.i64.wrap c.aO.1 = c.aO.1 := by rw [bU]; omega
   simp only [hwn]
   refine a7.mk [] ?_ <;> (repeat' first | trivial)
 . have ht := rN (c := c.aO.2) (by assumption)
   simp only [(ht _).1, (ht _).2]
   refine a7.mk [] ?_ <;> (repeat' first | trivial)
def xy : Sm := fun args σ => match args, σ with
 | [.ptr 0 0], [.cells [.str s, .ptr 1 0], .cells ([.str s_c, .int .i64 (.ofNat a_c), .int .i64 (.ofNat e_c), .int .i64 c_c])] => some (True ∧ ((Cu.mk s_c a_c e_c c_c).ok ∧ (Cu.mk s_c a_c e_c c_c).s.length ≤ 9223372036854775807), .str (Cu.mk s_c a_c e_c c_c).text.1, some [.cells [.str s, .ptr 1 0], .cells (eC (Cu.mk s_c a_c e_c c_c).text.2)])
 | _, _ => none
theorem JA : aa 72 xy := by
 intro args sg pre x r he hp
 unfold xy at he
 split at he <;> cases he
 . rw [bT (hp).1]; exact HD (hp := hp.2) ..
end Go.Proofs.YtipejldppicijaaGreatDoor
namespace Go.Proofs.YtipejldppicijaaGreatDoor
open Go Go.VG
set_option maxRecDepth 100000
def Rd (s x : List UInt8) (p : Nat) : Prop := ∃ a b, s = a ++ (x ++ b) ∧ p = a.length
theorem Rd.cons {s x : List UInt8} {b : UInt8} {p : Nat} (h : Rd s (b :: x) p) : p < s.length ∧ s.getD p 0 = b ∧ Rd s x (p + 1) := by
 obtain ⟨u, v, rfl, rfl⟩ := h
 refine ⟨by simp, by simp, u ++ [b], v, by simp, by simp⟩
theorem Rd.app {s x y : List UInt8} {p : Nat} (h : Rd s (x ++ y) p) : Rd s x p ∧ Rd s y (p + x.length) := by
 obtain ⟨u, v, rfl, rfl⟩ := h
 exact ⟨⟨u, y ++ v, by simp, rfl⟩, ⟨u ++ x, v, by simp, by simp⟩⟩
theorem Rd.take {s x : List UInt8} {p : Nat} (h : Rd s x p) : (s.drop p).take x.length = x ∧ p + x.length ≤ s.length := by
 obtain ⟨u, v, rfl, rfl⟩ := h
 refine ⟨by simp, by simp⟩
def cu (s : List UInt8) (p : Nat) : Cu := ⟨s, p, s.length, 0⟩
theorem iE {s x : List UInt8} {b : UInt8} {p : Nat} (h : Rd s (b :: x) p) : (cu s p).byte = cu s (p + 1) ∧ (cu s p).aQ = b := by
 obtain ⟨h1, h2, _⟩ := h.cons
 constructor
 . unfold Cu.byte Cu.pass cu
   dsimp only
   rw [if_neg (by decide), if_neg (by decide), if_neg (by omega)]
   rfl
 . unfold Cu.aQ cu Cu.get
   dsimp only
   rw [if_pos ⟨rfl, h1⟩, h2]
theorem uG {s x : List UInt8} {p : Nat} {n : Int} (h : Rd s x p) (hn : n = x.length) : (cu s p).dI n = x ∧ (cu s p).pass n = cu s (p + x.length) := by
 subst hn
 obtain ⟨h1, h2⟩ := h.take
 constructor
 . unfold Cu.dI Cu.may cu
   rw [if_pos (decide_eq_true ⟨rfl, by omega, by dsimp only; omega⟩)]
   exact h1
 . unfold Cu.pass cu
   dsimp only
   rw [if_neg (by decide), if_neg (by omega), if_neg (by omega)]
   rfl
theorem ofNat_toNat {n : Nat} (h : n < 256) : (UInt8.ofNat n).toNat = n := by simp; omega
theorem MY {s : List UInt8} : ∀ (j i u v p : Nat), i + j = 9 → v < 2 ^ (64 - 7 * i) → Rd s (aF v) p → eX (j + 1) i u (cu s p) = (u + v * 2 ^ (7 * i), cu s (p + (aF v).length)) := by
 intro j
 induction j with
 | zero =>
   intro i u v p hij hv hr
   obtain rfl : i = 9 := by omega
   have hv : v < 2 := hv
   rw [n5 (by omega)] at hr ⊢
   obtain ⟨b1, b2⟩ := iE hr
   have e : (UInt8.ofNat v).toNat = v := ofNat_toNat (by omega)
   rw [eX, b1, b2, e, if_neg (show ¬ (cu s (p + 1)).c ≠ 0 from fun h => h rfl), if_neg (by omega), if_pos (by omega)]
   rfl
 | succ j ih =>
   intro i u v p hij hv hr
   have hvi : i = 9 → v < 2 := fun h => by omega
   by_cases c : v < 128
   . rw [n5 c] at hr ⊢
     obtain ⟨b1, b2⟩ := iE hr
     have e : (UInt8.ofNat v).toNat = v := ofNat_toNat (by omega)
     rw [eX, b1, b2, e, if_neg (show ¬ (cu s (p + 1)).c ≠ 0 from fun h => h rfl), if_neg (by omega), if_pos c]
     rfl
   . rw [r9 (by omega)] at hr ⊢
     obtain ⟨b1, b2⟩ := iE hr
     have e : (UInt8.ofNat (128 + v % 128)).toNat = 128 + v % 128 := ofNat_toNat (by omega)
     have hq : v / 128 < 2 ^ (64 - 7 * (i + 1)) := by
      refine Nat.div_lt_of_lt_mul ?_
      rw [show (128 : Nat) = 2 ^ 7 from rfl, ← Nat.pow_add, show 7 + (64 - 7 * (i + 1)) = 64 - 7 * i by omega]
      exact hv
     rw [eX, b1, b2, e, if_neg (show ¬ (cu s (p + 1)).c ≠ 0 from fun h => h rfl), if_neg (by omega), if_neg (by omega), ih (i + 1) _ (v / 128) (p + 1) (by omega) hq hr.cons.2.2]
     have hP : 2 ^ (7 * (i + 1)) = 128 * 2 ^ (7 * i) := by rw [show 7 * (i + 1) = 7 + 7 * i by omega, Nat.pow_add]
     have hm : v * 2 ^ (7 * i) = v % 128 * 2 ^ (7 * i) + v / 128 * (128 * 2 ^ (7 * i)) := by
      rw [← Nat.mul_assoc, ← Nat.add_mul, show v % 128 + v / 128 * 128 = v by omega]
     rw [hP, hm, show 128 + v % 128 - 128 = v % 128 by omega]
     refine Prod.ext (Nat.add_assoc _ _ _) ?_
     show cu s _ = cu s _
     rw [List.length_cons, show p + 1 + (aF (v / 128)).length = p + ((aF (v / 128)).length + 1) by omega]
theorem rb {s : List UInt8} {v p : Nat} (hv : v < 18446744073709551616) (hr : Rd s (aF v) p) : (cu s p).aO = (v, cu s (p + (aF v).length)) := by
 have := MY 9 0 0 v p rfl hv hr
 simpa [Cu.aO] using this
theorem KE {s : List UInt8} {p u : Nat} (hu : u < 18446744073709551616) (hr : Rd s (low 8 u) p) : (cu s p).ld = (u, cu s (p + (low 8 u).length)) := by
 obtain ⟨h1, h2⟩ := uG (n := 8) hr (by rw [fq]; rfl)
 unfold Cu.ld
 rw [h1, h2, Bp 8 u hu]
theorem Db {s t : List UInt8} {p : Nat} (ht : t.length < 18446744073709551616) (hr : Rd s (aF t.length ++ t) p) : (cu s p).text = (t, cu s (p + (aF t.length ++ t).length)) := by
 obtain ⟨r1, r2⟩ := hr.app
 obtain ⟨h1, h2⟩ := uG (n := t.length) r2 rfl
 have h3 := r2.take.2
 unfold Cu.text
 rw [rb ht r1]
 dsimp only
 have hl : (cu s (p + (aF t.length).length)).left = s.length - ((p + (aF t.length).length : Nat) : Int) := rfl
 rw [if_neg (by rw [hl]; omega), h1, h2, List.length_append, Nat.add_assoc]
end Go.Proofs.YtipejldppicijaaGreatDoor
namespace Go.Proofs.YtipejldppicijaaGreatDoor
open Go Go.VG
set_option maxRecDepth 100000
theorem nE {c : Cu} {k : Int} (h : ¬ k = 0) : ¬ (c.fail k).c = 0 := by unfold Cu.fail; split <;> assumption
theorem Gv (c : Cu) (last : Int) (hp : c.ok) : OK 33 ([.ptr 0 0, .int .i64 last]) ([.cells (eC c)]) (.tuple [.int .i64 (c.aK last).1.1, .int .u8 (c.aK last).1.2]) (some [.cells (eC (c.aK last).2)]) := by
 refine af (C := cx [(64, iW), (35, gD), (65, mO), (66, fX), (68, kb), (67, tN)]) (ah ⟨jL, ib, pI, gK, mz, AZ, trivial⟩) (fn := Tryz.f33) rfl rfl rfl rfl fun hw hs => ?_
 have hb := ll hp 1
 have hv := ub hb.1
 have h1 := @ra c.byte
 have h256 := c.aQ.toNat_lt
 have h15 : jI .u8 (c.aQ.toNat : Int) 15 = ((c.aQ.toNat % 16 : Nat) : Int) := vd _ (by omega)
 have h4 : IntKind.i64.wrap (bn .u8 (c.aQ.toNat : Int) 4) = ((c.aQ.toNat / 16 : Nat) : Int) := by
  have e : bn .u8 (c.aQ.toNat : Int) 4 = ((c.aQ.toNat / 16 : Nat) : Int) := by
   show (c.aQ.toNat : Int).fdiv 16 = _
   rw [Int.fdiv_eq_ediv_of_nonneg _ (by decide)]; omega
  rw [e, bU]; omega
 repeat' ((conv => whnf); first | apply a9 | apply aJ | (apply al <;> intro h))
 all_goals try conv => whnf
 all_goals try (refine a8.mk ?_; try dsimp only)
 all_goals (try simp only [h15, h4, Int.toNat_natCast] at *)
 all_goals (try simp only [cg] at *)
 all_goals first | refine stay ?_ | trivial | omega | (simp (discharger := omega) [-List.getD_eq_getElem?_getD, wR] <;> omega) | skip
 all_goals first
  | exact ⟨trivial, hb.1⟩
  | (exfalso; omega)
  | (exfalso; exact absurd (by assumption) (nE (c := c.byte) (k := 4) (by decide)))
  | (exfalso; exact absurd (by assumption) (nE (c := c.byte.aO.2) (k := 4) (by decide)))
  | (show a7 _ _ _ _ _ _
     have he : c.aK last = c.aK last := rfl
     conv at he => rhs; unfold Cu.aK fH
     repeat (first | rw [if_pos (by first | assumption | omega | exact eD.2 (by assumption))] at he | rw [if_neg (by first | assumption | omega | exact fun q => absurd (eD.1 q) (by assumption))] at he)
     rw [he]
     (refine a7.mk [] ?_ <;> (repeat' first | trivial | rfl | exact cZ _ _ | apply ab | apply aV | apply au | apply bX | apply aE | apply cw | apply cJ | apply cK | apply bZ | apply aM))
     done)
  | skip
def tb : Sm := fun args σ => match args, σ with
 | [.ptr 0 0, .int .i64 last], [.cells ([.str s_c, .int .i64 (.ofNat a_c), .int .i64 (.ofNat e_c), .int .i64 c_c])] => some (True ∧ ((Cu.mk s_c a_c e_c c_c).ok), .tuple [.int .i64 ((Cu.mk s_c a_c e_c c_c).aK last).1.1, .int .u8 ((Cu.mk s_c a_c e_c c_c).aK last).1.2], some [.cells (eC ((Cu.mk s_c a_c e_c c_c).aK last).2)])
 | _, _ => none
theorem Au : aa 33 tb := by
 intro args sg pre x r he hp
 unfold tb at he
 split at he <;> cases he
 . rw [bT (hp).1]; exact Gv (hp := hp.2) ..
end Go.Proofs.YtipejldppicijaaGreatDoor
namespace Go.Proofs.YtipejldppicijaaGreatDoor
open Go Go.VG
set_option maxRecDepth 100000
theorem zE {s : List UInt8} {p : Nat} {last id k : Int} (hk : 1 ≤ k ∧ k ≤ 12) (hi : -32768 ≤ id ∧ id ≤ 32767) (hr : Rd s (b6 last id (byte k)) p) :
   (cu s p).aK last = ((id, k), cu s (p + (b6 last id (byte k)).length)) := by
 have hkn : ((byte k).toNat : Int) = k := cE (by omega)
 have hE : ∀ q, fH id k (cu s q) = ((id, k), cu s q) := fun q => by
  unfold fH
  rw [if_neg (fun h => h rfl), if_neg (by omega)]
 unfold b6 at hr ⊢
 rw [if_neg (by omega)] at hr ⊢
 by_cases c : last ≥ -32768 ∧ last < id ∧ id - last ≤ 15
 . rw [if_pos c] at hr ⊢
   obtain ⟨b1, b2⟩ := iE hr
   have e : ((byte (16 * (id - last) + ↑(byte k).toNat)).toNat : Int) = 16 * (id - last) + k := by rw [cE (by omega), hkn]
   unfold Cu.aK
   rw [b1, b2, if_neg (show ¬ (cu s (p + 1)).c ≠ 0 from fun h => h rfl), if_neg (by omega)]
   have e3 : (((byte (16 * (id - last) + ↑(byte k).toNat)).toNat % 16 : Nat) : Int) = k := by omega
   have e4 : (((byte (16 * (id - last) + ↑(byte k).toNat)).toNat / 16 : Nat) : Int) = id - last := by omega
   rw [e3, e4, if_pos (eD.2 (by omega)), if_pos (by omega), show IntKind.i64.wrap (last + (id - last)) = id by rw [show last + (id - last) = id by omega, bU]; omega, hE]
   rfl
 . rw [if_neg c] at hr ⊢
   obtain ⟨b1, b2⟩ := iE hr
   unfold Cu.aK
   rw [b1, b2, if_neg (show ¬ (cu s (p + 1)).c ≠ 0 from fun h => h rfl), if_neg (by omega)]
   have e3 : (((byte k).toNat % 16 : Nat) : Int) = k := by omega
   rw [e3, if_pos (eD.2 (by omega)), if_neg (by omega), rb (by have := iz (n := id) (by omega); omega) hr.cons.2.2]
   dsimp only
   rw [DI, hE, List.length_cons, show p + 1 + (aF (cA id)).length = p + ((aF (cA id)).length + 1) by omega]
theorem zF {s : List UInt8} {p : Nat} {last : Int} (hr : Rd s [0] p) : (cu s p).aK last = ((0, 0), cu s (p + 1)) := by
 obtain ⟨b1, b2⟩ := iE hr
 unfold Cu.aK
 rw [b1, b2, if_neg (show ¬ (cu s (p + 1)).c ≠ 0 from fun h => h rfl), if_pos (by decide)]
end Go.Proofs.YtipejldppicijaaGreatDoor
namespace Go.Proofs.YtipejldppicijaaGreatDoor
open Go Go.VG
set_option maxRecDepth 100000
theorem qf (s : List UInt8) : (Cu.new s).ok := ⟨Nat.zero_le _, Nat.le_refl _⟩
end Go.Proofs.YtipejldppicijaaGreatDoor
namespace Go.Proofs.YtipejldppicijaaGreatDoor
open Go Go.VG
set_option maxRecDepth 100000
def bp (i : Int) : Prop := -32768 ≤ i ∧ i ≤ 32767
theorem vY {last id k : Int} (hk : 1 ≤ k ∧ k ≤ 12) (hi : bp id) : 1 ≤ (b6 last id (byte k)).length := by
 have hkn : ((byte k).toNat : Int) = k := cE (by omega)
 obtain ⟨h1, h2⟩ := hi
 unfold b6
 rw [if_neg (by omega)]
 split <;> simp
theorem vI {out : List UInt8} {last id k : Int} (hk : 1 ≤ k ∧ k ≤ 12) (hi : bp id) :
   CS.may ⟨out, [⟨false, last, 0, 0⟩], 0⟩ id k = (⟨out ++ b6 last id (byte k), [⟨false, id, 0, 0⟩], 0⟩, true) := by
 have hp := vY (last := last) hk hi
 unfold CS.may
 rw [if_neg (by simp), if_neg (by simp), if_neg (by simp [CS.top])]
 show (if (b6 last id (byte k)).length = 0 then _ else _) = _
 rw [if_neg (by omega)]
 rfl
theorem og {out b : List UInt8} {last id k : Int} (hk : 1 ≤ k ∧ k ≤ 12) (hi : bp id) :
   CS.put ⟨out, [⟨false, last, 0, 0⟩], 0⟩ id k b = ⟨out ++ b6 last id (byte k) ++ b, [⟨false, id, 0, 0⟩], 0⟩ := by
 unfold CS.put; rw [vI hk hi, if_pos rfl]
theorem N3 {out : List UInt8} {last id n : Int} (hi : bp id) (hn : -9223372036854775808 ≤ n ∧ n ≤ 9223372036854775807) :
   CS.whole ⟨out, [⟨false, last, 0, 0⟩], 0⟩ id 6 n = ⟨out ++ b6 last id (byte 6) ++ aF (cA n), [⟨false, id, 0, 0⟩], 0⟩ := by
 unfold CS.whole
 rw [if_neg (by simp), if_neg (by decide), show c7 6 = 64 from rfl, if_neg (by rw [rR hn]; decide), og (by decide) hi, if_neg (by decide)]
theorem uU {out : List UInt8} {id : Int} : CS.fin ⟨out, [⟨false, id, 0, 0⟩], 0⟩ = ⟨out ++ [0], [], 0⟩ := rfl
theorem rH {out : List UInt8} : CS.done ⟨out, [], 0⟩ = (out, 0) := rfl
end Go.Proofs.YtipejldppicijaaGreatDoor
