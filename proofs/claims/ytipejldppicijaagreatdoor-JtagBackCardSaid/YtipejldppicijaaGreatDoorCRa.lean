/-
  A part of the proof.
-/
import Derived.Test.YtipejldppicijaaGreatDoorCWb
set_option linter.unusedSimpArgs false
set_option linter.unusedVariables false
set_option maxHeartbeats 4000000
namespace Go.Proofs.YtipejldppicijaaGreatDoor
open Go Go.VG
set_option maxRecDepth 100000
def eX : Nat → Nat → Nat → Cu → Nat × Cu
 | 0, _, _, c => (0, c.fail 4)
 | j + 1, i, u, c =>
   if c.byte.c ≠ 0 then (0, c.byte)
   else if i = 9 ∧ c.aQ.toNat > 1 then (0, c.byte.fail 4)
   else if c.aQ.toNat < 128 then (u + c.aQ.toNat * 2 ^ (7 * i), c.byte)
   else eX j (i + 1) (u + (c.aQ.toNat - 128) * 2 ^ (7 * i)) c.byte
def Cu.aO (c : Cu) : Nat × Cu := eX 10 0 0 c
def fC (u : Nat) : Int := if u % 2 = 0 then ((u / 2 : Nat) : Int) else -((u / 2 : Nat) : Int) - 1
def Cu.dI (c : Cu) (n : Int) : List UInt8 := if c.may n = true then (c.s.drop c.p).take n.toNat else []
def Cu.text (c : Cu) : List UInt8 × Cu :=
 let v := c.aO
 if v.2.c = 0 ∧ (v.1 : Int) > v.2.left then ([], v.2.fail 1) else (v.2.dI v.1, v.2.pass v.1)
def iO : List UInt8 → Nat
 | [] => 0
 | b :: s => b.toNat + 256 * iO s
def Cu.ld (c : Cu) : Nat × Cu := (iO (c.dI 8), c.pass 8)
theorem pow7 {i : Nat} (hi : i ≤ 8) : 2 ^ (7 * i) ≤ 72057594037927936 ∧ 0 < 2 ^ (7 * i) := by
 constructor
 . exact Nat.le_trans (Nat.pow_le_pow_right (by omega) (show 7 * i ≤ 56 by omega)) (by decide)
 . exact Nat.two_pow_pos _
theorem vV {u b i : Nat} (hi : i ≤ 9) (hu : u < 2 ^ (7 * i)) (hb : b < 128) (h9 : i = 9 → b ≤ 1) :
   jf .u64 (u : Int) (jg .u64 (IntKind.u64.wrap (b : Int)) (IntKind.i64.wrap (7 * (i : Int)))) = ((u + b * 2 ^ (7 * i) : Nat) : Int) ∧ u + b * 2 ^ (7 * i) < 18446744073709551616 := by
 have hlt : u + b * 2 ^ (7 * i) < 18446744073709551616 := by
  by_cases h : i = 9
  . subst h
    have := h9 rfl
    have e : 2 ^ (7 * 9) = 9223372036854775808 := by decide
    rw [e] at hu ⊢; omega
  . have h8 := pow7 (i := i) (by omega)
    have := Nat.mul_le_mul_right (2 ^ (7 * i)) (show b ≤ 127 by omega)
    omega
 refine ⟨?_, hlt⟩
 rw [show IntKind.i64.wrap (7 * (i : Int)) = ((7 * i : Nat) : Int) by rw [bU]; omega, show IntKind.u64.wrap (b : Int) = (b : Int) by rw [dN]; omega]
 have e1 : jg .u64 (b : Int) ((7 * i : Nat) : Int) = ((b * 2 ^ (7 * i) : Nat) : Int) := by
  show IntKind.u64.wrap ((b : Int) * 2 ^ (min (7 * i) 64)) = _
  rw [Nat.min_eq_left (by omega), dN]
  have : ((b : Int) * 2 ^ (7 * i)) = ((b * 2 ^ (7 * i) : Nat) : Int) := by push_cast; rfl
  rw [this]; omega
 rw [e1]
 show IntKind.u64.wrap ((BitVec.ofInt 64 (u : Int) ||| BitVec.ofInt 64 ((b * 2 ^ (7 * i) : Nat) : Int)).toNat : Int) = _
 rw [BitVec.ofInt_natCast, BitVec.ofInt_natCast, BitVec.toNat_or, BitVec.toNat_ofNat, BitVec.toNat_ofNat, Nat.mod_eq_of_lt (by omega), Nat.mod_eq_of_lt (by omega), dN]
 have e2 := Nat.shiftLeft_add_eq_or_of_lt hu b
 rw [Nat.shiftLeft_eq] at e2
 rw [Nat.or_comm, ← e2]; omega
theorem Dz {u b P : Nat} (hu : u < P) : u + b % 128 * P < 128 * P := by
 have := Nat.mul_le_mul_right P (show b % 128 ≤ 127 by omega)
 omega
theorem DU : ∀ n : Nat, n < 256 → zT .u8 n 128 = ((n % 128 : Nat) : Int) := by decide
theorem Na {u : Nat} (h : u ≤ 18446744073709551615) : pF .i64 (IntKind.i64.wrap (bn .u64 (u : Int) 1)) (IntKind.i64.wrap (0 - (IntKind.i64.wrap (jI .u64 (u : Int) 1)))) = fC u := by
 have e1 : bn .u64 (u : Int) 1 = ((u / 2 : Nat) : Int) := by
  show (u : Int).fdiv 2 = _
  rw [Int.fdiv_eq_ediv_of_nonneg _ (by decide)]; omega
 have e2 : jI .u64 (u : Int) 1 = ((u % 2 : Nat) : Int) := by
  show IntKind.u64.wrap ((BitVec.ofInt 64 (u : Int) &&& BitVec.ofInt 64 1).toNat : Int) = _
  rw [BitVec.ofInt_natCast, show BitVec.ofInt 64 1 = BitVec.ofNat 64 1 from rfl, BitVec.toNat_and, BitVec.toNat_ofNat, BitVec.toNat_ofNat, Nat.mod_eq_of_lt (by omega),
   show u &&& 1 % 2 ^ 64 = u % 2 from Nat.and_two_pow_sub_one_eq_mod u 1, dN]
  omega
 rw [e1, e2, show IntKind.i64.wrap ((u / 2 : Nat) : Int) = ((u / 2 : Nat) : Int) by rw [bU]; omega]
 unfold fC
 by_cases c : u % 2 = 0
 . rw [if_pos c, c]
   show IntKind.i64.wrap ((BitVec.ofInt 64 _ ^^^ BitVec.ofInt 64 0).toNat : Int) = _
   rw [BitVec.ofInt_natCast, show BitVec.ofInt 64 0 = 0#64 by decide, BitVec.xor_zero, BitVec.toNat_ofNat, Nat.mod_eq_of_lt (by omega), bU]
   omega
 . rw [if_neg c, show u % 2 = 1 by omega]
   show IntKind.i64.wrap ((BitVec.ofInt 64 _ ^^^ BitVec.ofInt 64 (-1)).toNat : Int) = _
   rw [BitVec.ofInt_natCast, show BitVec.ofInt 64 (-1) = BitVec.allOnes 64 by decide, BitVec.xor_allOnes, BitVec.toNat_not, BitVec.toNat_ofNat, Nat.mod_eq_of_lt (by omega), bU]
   omega
theorem DI {n : Int} : fC (cA n) = n := by
 unfold fC cA
 by_cases h : n < 0
 . rw [if_pos h, if_neg (by omega)]; omega
 . rw [if_neg h, if_pos (by omega)]; omega
theorem N9 {u : Nat} (h : u ≤ 18446744073709551615) : -9223372036854775808 ≤ fC u ∧ fC u ≤ 9223372036854775807 := by
 unfold fC; split <;> omega
theorem Mm {u b : Nat} (hb : b < 256) (hu : u * 256 + 255 ≤ 18446744073709551615) : jf .u64 (jg .u64 (u : Int) 8) (IntKind.u64.wrap (b : Int)) = ((b + 256 * u : Nat) : Int) := by
 rw [show IntKind.u64.wrap (b : Int) = (b : Int) by rw [dN]; omega]
 have e1 : jg .u64 (u : Int) 8 = ((u * 2 ^ 8 : Nat) : Int) := by
  show IntKind.u64.wrap ((u : Int) * 2 ^ 8) = _
  rw [dN]; omega
 rw [e1]
 show IntKind.u64.wrap ((BitVec.ofInt 64 ((u * 2 ^ 8 : Nat) : Int) ||| BitVec.ofInt 64 (b : Int)).toNat : Int) = _
 rw [BitVec.ofInt_natCast, BitVec.ofInt_natCast, BitVec.toNat_or, BitVec.toNat_ofNat, BitVec.toNat_ofNat, Nat.mod_eq_of_lt (by omega), Nat.mod_eq_of_lt (by omega), dN]
 have e2 := Nat.shiftLeft_add_eq_or_of_lt (i := 8) (b := b) (by omega) u
 rw [Nat.shiftLeft_eq] at e2
 rw [← e2]; omega
theorem KC (s : List UInt8) : iO s < 256 ^ s.length := by
 induction s with
 | nil => decide
 | cons b s ih => have := b.toNat_lt; rw [iO, List.length_cons, Nat.pow_succ]; omega
theorem Bp : ∀ (k u : Nat), u < 256 ^ k → iO (low k u) = u
 | 0, u, h => by simp at h; subst h; rfl
 | k + 1, u, h => by
   rw [low, iO, Bp k (u / 256) (by rw [Nat.pow_succ] at h; omega)]
   simp; omega
theorem DB : ∀ (j i u : Nat) (c : Cu), c.ok → (eX j i u c).2.ok ∧ (eX j i u c).2.s = c.s ∧ (eX j i u c).2.e = c.e
 | 0, i, u, c, h => ⟨(kQ h 4).1, (kQ h 4).2.1, (kQ h 4).2.2.1⟩
 | j + 1, i, u, c, h => by
   have hb := ll h 1
   have hf := kQ hb.1 4
   rw [eX]
   split
   . exact hb
   . split
     . exact ⟨hf.1, hf.2.1.trans hb.2.1, hf.2.2.1.trans hb.2.2⟩
     . split
       . exact hb
       . have := DB j (i + 1) (u + (c.aQ.toNat - 128) * 2 ^ (7 * i)) c.byte hb.1
         exact ⟨this.1, this.2.1.trans hb.2.1, this.2.2.trans hb.2.2⟩
theorem ub {c : Cu} (h : c.ok) : c.aO.2.ok ∧ c.aO.2.s = c.s ∧ c.aO.2.e = c.e := DB 10 0 0 c h
theorem Ia (q : Int) (hp : 0 ≤ q ∧ q ≤ 18446744073709551615) : OK 67 ([.int .u64 q]) ([]) (.int .i64 (fC q.toNat)) (none) := by
 refine af (C := cx []) (ah trivial) (fn := Tryz.f67) rfl rfl rfl rfl fun hw hs => ?_
 obtain ⟨u, rfl⟩ := Int.eq_ofNat_of_zero_le hp.1
 rw [Int.toNat_natCast]
 repeat' ((conv => whnf); apply a9)
 all_goals try conv => whnf
 all_goals try (refine a8.mk ?_; try dsimp only)
 all_goals first | refine stay ?_ | trivial | skip
 refine a7.mk [] ?_ <;> (repeat' first | trivial | apply ab | apply au)
 exact Na (u := u) (by omega)
def tN : Sm := fun args σ => match args, σ with
 | [.int .u64 q], [] => some (0 ≤ q ∧ q ≤ 18446744073709551615, .int .i64 (fC q.toNat), none)
 | _, _ => none
theorem AZ : aa 67 tN := by
 intro args sg pre x r he hp
 unfold tN at he
 split at he <;> cases he
 . exact Ia (hp := hp) ..
theorem I4 (c : Cu) (hp : c.ok) : OK 68 ([.ptr 0 0]) ([.cells (eC c)]) (.int .u64 c.aO.1) (some [.cells (eC c.aO.2)]) := by
 refine af (C := cx [(64, iW), (35, gD), (66, fX)]) (ah ⟨jL, ib, gK, trivial⟩) (fn := Tryz.f68) rfl rfl rfl rfl fun hw hs => ?_
 all_goals try conv => whnf
 all_goals try (refine a8.mk ?_; try dsimp only)
 refine lU.mk Unit (fun _ => True) (fun _ => ⟨43, [(0, .ptr 0 0), (3, .int .u64 0)], [.cells (eC c)], []⟩) (fun _ => 0) [] () trivial ?_ (fun _ _ _ _ => ?_)
 . refine Go.VG.Sub.mk rfl ?_ ?_ ?_ ?_ <;> (repeat' first | trivial)
 all_goals try conv => whnf
 all_goals try (refine a8.mk ?_; try dsimp only)
 refine bd.mk (Nat × Nat × Cu) (fun (i, u, d) => i ≤ 9 ∧ u < 2 ^ (7 * i) ∧ d.ok ∧ d.s = c.s ∧ eX (10 - i) i u d = c.aO) (fun (i, u, d) => ⟨43, [(6, .int .i64 i), (0, .ptr 0 0), (3, .int .u64 u)], [.cells (eC d)], []⟩) (fun x => 10 - x.1) [] (0, 0, c) ⟨by decide, by decide, hp, rfl, rfl⟩ ?_ (fun ⟨i, u, d⟩ ⟨hi, hu, hd, hds, hv⟩ _ _ => ?_)
 . refine Go.VG.Sub.mk rfl ?_ ?_ ?_ ?_ <;> (repeat' first | trivial)
 have h7 : 0 ≤ IntKind.i64.wrap (7 * (i : Int)) := by
  have e : IntKind.i64.wrap (7 * (i : Int)) = 7 * (i : Int) := by rw [bU]; omega
  rw [e]; omega
 obtain ⟨j, hj⟩ : ∃ j, 10 - i = j + 1 := ⟨9 - i, by omega⟩
 rw [hj, eX] at hv
 have hb := ll hd 1
 have hf := kQ hb.1 4
 have h256 := d.aQ.toNat_lt
 have ho1 := fun h1 h2 => vV (b := d.aQ.toNat) hi hu h1 h2
 have ho2 := fun h2 => vV (b := d.aQ.toNat % 128) hi hu (by omega) h2
 have han := DU d.aQ.toNat (by omega)
 repeat' ((conv => whnf); first | apply a9 | apply aJ | (apply al <;> intro h))
 all_goals try conv => whnf
 all_goals try (refine a8.mk ?_; try dsimp only)
 all_goals (try simp only [han] at *)
 all_goals (try simp only [cg] at *)
 all_goals first | refine stay ?_ | trivial | skip
 all_goals first
  | exact h7
  | (exfalso; omega)
  | (show a7 _ _ _ _ _ _
     repeat (first | rw [if_pos (by first | assumption | omega)] at hv | rw [if_neg (by first | assumption | omega)] at hv)
     rw [← hv]
     (refine a7.mk [] ?_ <;> (repeat' first | trivial | rfl | exact cZ _ _ | apply ab | apply aV | apply au | apply bX | apply aE | apply cw | apply cJ | apply cK | apply bZ | apply aM))
     all_goals (exact (ho1 (by omega) (by omega)).1))
  | skip
 have h8 := pow7 (i := i) (by omega)
 have hP : 2 ^ (7 * (i + 1)) = 128 * 2 ^ (7 * i) := by rw [show 7 * (i + 1) = 7 + 7 * i by omega, Nat.pow_add]
 have hmm : d.aQ.toNat - 128 = d.aQ.toNat % 128 := by omega
 repeat (first | rw [if_pos (by first | assumption | omega)] at hv | rw [if_neg (by first | assumption | omega)] at hv)
 have := Nat.mul_le_mul_right (2 ^ (7 * i)) (show d.aQ.toNat % 128 ≤ 127 by omega)
 refine ⟨[], (i + 1, u + d.aQ.toNat % 128 * 2 ^ (7 * i), d.byte), ⟨by omega, by rw [hP]; exact Dz hu, hb.1, hb.2.1.trans hds, ?_⟩, ?_, by show 10 - (i + 1) < 10 - i; omega⟩
 . rw [← hv, hmm, show 10 - (i + 1) = j by omega]
 refine Go.VG.Sub.mk rfl ?_ ?_ ?_ ?_ <;> (repeat' first | trivial | apply ab | apply au)
 . (simp (discharger := omega) only [wR]; omega)
 . exact (ho2 (by omega)).1
def kb : Sm := fun args σ => match args, σ with
 | [.ptr 0 0], [.cells ([.str s_c, .int .i64 (.ofNat a_c), .int .i64 (.ofNat e_c), .int .i64 c_c])] => some (True ∧ ((Cu.mk s_c a_c e_c c_c).ok), .int .u64 (Cu.mk s_c a_c e_c c_c).aO.1, some [.cells (eC (Cu.mk s_c a_c e_c c_c).aO.2)])
 | _, _ => none
theorem mz : aa 68 kb := by
 intro args sg pre x r he hp
 unfold kb at he
 split at he <;> cases he
 . rw [bT (hp).1]; exact I4 (hp := hp.2) ..
end Go.Proofs.YtipejldppicijaaGreatDoor
