/-
  A part of the proof.
-/
import Derived.Test.YtipejldppicijaaGreatDoorCWb
set_option linter.unusedSimpArgs false
set_option linter.unusedVariables false
set_option maxHeartbeats 4000000
namespace Go.Proofs.YtipejldppicijaaGreatDoor
open Go Go.VG
set_option maxRecDepth 100000
def g7 : Nat → Nat → Nat → Cu → Nat × Cu
 | 0, _, _, c => (0, c.fail 4)
 | j + 1, i, u, c =>
   if c.byte.c ≠ 0 then (0, c.byte)
   else if i = 9 ∧ c.aL.toNat > 1 then (0, c.byte.fail 4)
   else if c.aL.toNat < 128 then (u + c.aL.toNat * 2 ^ (7 * i), c.byte)
   else g7 j (i + 1) (u + (c.aL.toNat - 128) * 2 ^ (7 * i)) c.byte
def Cu.aK (c : Cu) : Nat × Cu := g7 10 0 0 c
def fL (u : Nat) : Int := if u % 2 = 0 then ((u / 2 : Nat) : Int) else -((u / 2 : Nat) : Int) - 1
def Cu.dz (c : Cu) (n : Int) : List UInt8 := if c.may n = true then (c.s.drop c.p).take n.toNat else []
def Cu.text (c : Cu) : List UInt8 × Cu :=
 let v := c.aK
 if v.2.c = 0 ∧ (v.1 : Int) > v.2.left then ([], v.2.fail 1) else (v.2.dz v.1, v.2.pass v.1)
def j5 : List UInt8 → Nat
 | [] => 0
 | b :: s => b.toNat + 256 * j5 s
def Cu.mX (c : Cu) : Nat × Cu := (j5 (c.dz 8), c.pass 8)
theorem pow7 {i : Nat} (hi : i ≤ 8) : 2 ^ (7 * i) ≤ 72057594037927936 ∧ 0 < 2 ^ (7 * i) := by
 constructor
 . exact Nat.le_trans (Nat.pow_le_pow_right (by omega) (show 7 * i ≤ 56 by omega)) (by decide)
 . exact Nat.two_pow_pos _
theorem tK {u b i : Nat} (hi : i ≤ 9) (hu : u < 2 ^ (7 * i)) (hb : b < 128) (h9 : i = 9 → b ≤ 1) :
   ij .u64 (u : Int) (ik .u64 (IntKind.u64.wrap (b : Int)) (IntKind.i64.wrap (7 * (i : Int)))) = ((u + b * 2 ^ (7 * i) : Nat) : Int) ∧ u + b * 2 ^ (7 * i) < 18446744073709551616 := by
 have hlt : u + b * 2 ^ (7 * i) < 18446744073709551616 := by
  by_cases h : i = 9
  . subst h
    have := h9 rfl
    have e : 2 ^ (7 * 9) = 9223372036854775808 := by decide
    rw [e] at hu ⊢; omega
  . have h8 := pow7 (i := i) (by omega)
    have := Nat.mul_le_mul_right (2 ^ (7 * i)) (show b ≤ 127 by omega)
    omega
 refine ⟨?_, hlt⟩
 rw [show IntKind.i64.wrap (7 * (i : Int)) = ((7 * i : Nat) : Int) by rw [bS]; omega, show IntKind.u64.wrap (b : Int) = (b : Int) by rw [eo]; omega]
 have e1 : ik .u64 (b : Int) ((7 * i : Nat) : Int) = ((b * 2 ^ (7 * i) : Nat) : Int) := by
  show IntKind.u64.wrap ((b : Int) * 2 ^ (min (7 * i) 64)) = _
  rw [Nat.min_eq_left (by omega), eo]
  have : ((b : Int) * 2 ^ (7 * i)) = ((b * 2 ^ (7 * i) : Nat) : Int) := by push_cast; rfl
  rw [this]; omega
 rw [e1]
 show IntKind.u64.wrap ((BitVec.ofInt 64 (u : Int) ||| BitVec.ofInt 64 ((b * 2 ^ (7 * i) : Nat) : Int)).toNat : Int) = _
 rw [BitVec.ofInt_natCast, BitVec.ofInt_natCast, BitVec.toNat_or, BitVec.toNat_ofNat, BitVec.toNat_ofNat, Nat.mod_eq_of_lt (by omega), Nat.mod_eq_of_lt (by omega), eo]
 have e2 := Nat.shiftLeft_add_eq_or_of_lt hu b
 rw [Nat.shiftLeft_eq] at e2
 rw [Nat.or_comm, ← e2]; omega
theorem An {u b P : Nat} (hu : u < P) : u + b % 128 * P < 128 * P := by
 have := Nat.mul_le_mul_right P (show b % 128 ≤ 127 by omega)
 omega
theorem AE : ∀ n : Nat, n < 256 → xm .u8 n 128 = ((n % 128 : Nat) : Int) := by decide
theorem IS {u : Nat} (h : u ≤ 18446744073709551615) : qy .i64 (IntKind.i64.wrap (ba .u64 (u : Int) 1)) (IntKind.i64.wrap (0 - (IntKind.i64.wrap (iY .u64 (u : Int) 1)))) = fL u := by
 have e1 : ba .u64 (u : Int) 1 = ((u / 2 : Nat) : Int) := by
  show (u : Int).fdiv 2 = _
  rw [Int.fdiv_eq_ediv_of_nonneg _ (by decide)]; omega
 have e2 : iY .u64 (u : Int) 1 = ((u % 2 : Nat) : Int) := by
  show IntKind.u64.wrap ((BitVec.ofInt 64 (u : Int) &&& BitVec.ofInt 64 1).toNat : Int) = _
  rw [BitVec.ofInt_natCast, show BitVec.ofInt 64 1 = BitVec.ofNat 64 1 from rfl, BitVec.toNat_and, BitVec.toNat_ofNat, BitVec.toNat_ofNat, Nat.mod_eq_of_lt (by omega),
   show u &&& 1 % 2 ^ 64 = u % 2 from Nat.and_two_pow_sub_one_eq_mod u 1, eo]
  omega
 rw [e1, e2, show IntKind.i64.wrap ((u / 2 : Nat) : Int) = ((u / 2 : Nat) : Int) by rw [bS]; omega]
 unfold fL
 by_cases c : u % 2 = 0
 . rw [if_pos c, c]
   show IntKind.i64.wrap ((BitVec.ofInt 64 _ ^^^ BitVec.ofInt 64 0).toNat : Int) = _
   rw [BitVec.ofInt_natCast, show BitVec.ofInt 64 0 = 0#64 by decide, BitVec.xor_zero, BitVec.toNat_ofNat, Nat.mod_eq_of_lt (by omega), bS]
   omega
 . rw [if_neg c, show u % 2 = 1 by omega]
   show IntKind.i64.wrap ((BitVec.ofInt 64 _ ^^^ BitVec.ofInt 64 (-1)).toNat : Int) = _
   rw [BitVec.ofInt_natCast, show BitVec.ofInt 64 (-1) = BitVec.allOnes 64 by decide, BitVec.xor_allOnes, BitVec.toNat_not, BitVec.toNat_ofNat, Nat.mod_eq_of_lt (by omega), bS]
   omega
theorem IQ {u : Nat} (h : u ≤ 18446744073709551615) : -9223372036854775808 ≤ fL u ∧ fL u ≤ 9223372036854775807 := by
 unfold fL; split <;> omega
theorem I6 {u b : Nat} (hb : b < 256) (hu : u * 256 + 255 ≤ 18446744073709551615) : ij .u64 (ik .u64 (u : Int) 8) (IntKind.u64.wrap (b : Int)) = ((b + 256 * u : Nat) : Int) := by
 rw [show IntKind.u64.wrap (b : Int) = (b : Int) by rw [eo]; omega]
 have e1 : ik .u64 (u : Int) 8 = ((u * 2 ^ 8 : Nat) : Int) := by
  show IntKind.u64.wrap ((u : Int) * 2 ^ 8) = _
  rw [eo]; omega
 rw [e1]
 show IntKind.u64.wrap ((BitVec.ofInt 64 ((u * 2 ^ 8 : Nat) : Int) ||| BitVec.ofInt 64 (b : Int)).toNat : Int) = _
 rw [BitVec.ofInt_natCast, BitVec.ofInt_natCast, BitVec.toNat_or, BitVec.toNat_ofNat, BitVec.toNat_ofNat, Nat.mod_eq_of_lt (by omega), Nat.mod_eq_of_lt (by omega), eo]
 have e2 := Nat.shiftLeft_add_eq_or_of_lt (i := 8) (b := b) (by omega) u
 rw [Nat.shiftLeft_eq] at e2
 rw [← e2]; omega
theorem Gp (s : List UInt8) : j5 s < 256 ^ s.length := by
 induction s with
 | nil => decide
 | cons b s ih => have := b.toNat_lt; rw [j5, List.length_cons, Nat.pow_succ]; omega
theorem Ap : ∀ (j i u : Nat) (c : Cu), c.ok → (g7 j i u c).2.ok ∧ (g7 j i u c).2.s = c.s ∧ (g7 j i u c).2.e = c.e
 | 0, i, u, c, h => ⟨(jH h 4).1, (jH h 4).2.1, (jH h 4).2.2.1⟩
 | j + 1, i, u, c, h => by
   have hb := kc h 1
   have hf := jH hb.1 4
   rw [g7]
   split
   . exact hb
   . split
     . exact ⟨hf.1, hf.2.1.trans hb.2.1, hf.2.2.1.trans hb.2.2⟩
     . split
       . exact hb
       . have := Ap j (i + 1) (u + (c.aL.toNat - 128) * 2 ^ (7 * i)) c.byte hb.1
         exact ⟨this.1, this.2.1.trans hb.2.1, this.2.2.trans hb.2.2⟩
theorem rV {c : Cu} (h : c.ok) : c.aK.2.ok ∧ c.aK.2.s = c.s ∧ c.aK.2.e = c.e := Ap 10 0 0 c h
theorem DY (q : Int) (hp : 0 ≤ q ∧ q ≤ 18446744073709551615) : OK 67 ([.int .u64 q]) ([]) (.int .i64 (fL q.toNat)) (none) := by
 refine ai (C := cx []) (aj trivial) (fn := Tryz.f67) rfl rfl rfl rfl fun hw hs => ?_
 obtain ⟨u, rfl⟩ := Int.eq_ofNat_of_zero_le hp.1
 rw [Int.toNat_natCast]
 repeat' ((conv => whnf); apply a9)
 all_goals try conv => whnf
 all_goals try (refine a8.mk ?_; try dsimp only)
 all_goals first | refine stay ?_ | trivial | skip
 refine a7.mk [] ?_ <;> (repeat' first | trivial | apply ah | apply ax)
 exact IS (u := u) (by omega)
def rF : Sm := fun args σ => match args, σ with
 | [.int .u64 q], [] => some (0 ≤ q ∧ q ≤ 18446744073709551615, .int .i64 (fL q.toNat), none)
 | _, _ => none
theorem y5 : aa 67 rF := by
 intro args sg pre x r he hp
 unfold rF at he
 split at he <;> cases he
 . exact DY (hp := hp) ..
theorem DS (c : Cu) (hp : c.ok) : OK 68 ([.ptr 0 0]) ([.cells (eC c)]) (.int .u64 c.aK.1) (some [.cells (eC c.aK.2)]) := by
 refine ai (C := cx [(64, hC), (35, fK), (66, ff)]) (aj ⟨iZ, gu, fY, trivial⟩) (fn := Tryz.f68) rfl rfl rfl rfl fun hw hs => ?_
 all_goals try conv => whnf
 all_goals try (refine a8.mk ?_; try dsimp only)
 refine kJ.mk Unit (fun _ => True) (fun _ => ⟨43, [(0, .ptr 0 0), (3, .int .u64 0)], [.cells (eC c)], []⟩) (fun _ => 0) [] () trivial ?_ (fun _ _ _ _ => ?_)
 . refine Go.VG.Sub.mk rfl ?_ ?_ ?_ ?_ <;> (repeat' first | trivial)
 all_goals try conv => whnf
 all_goals try (refine a8.mk ?_; try dsimp only)
 refine br.mk (Nat × Nat × Cu) (fun (i, u, d) => i ≤ 9 ∧ u < 2 ^ (7 * i) ∧ d.ok ∧ d.s = c.s ∧ g7 (10 - i) i u d = c.aK) (fun (i, u, d) => ⟨43, [(6, .int .i64 i), (0, .ptr 0 0), (3, .int .u64 u)], [.cells (eC d)], []⟩) (fun x => 10 - x.1) [] (0, 0, c) ⟨by decide, by decide, hp, rfl, rfl⟩ ?_ (fun ⟨i, u, d⟩ ⟨hi, hu, hd, hds, hv⟩ _ _ => ?_)
 . refine Go.VG.Sub.mk rfl ?_ ?_ ?_ ?_ <;> (repeat' first | trivial)
 have h7 : 0 ≤ IntKind.i64.wrap (7 * (i : Int)) := by
  have e : IntKind.i64.wrap (7 * (i : Int)) = 7 * (i : Int) := by rw [bS]; omega
  rw [e]; omega
 obtain ⟨j, hj⟩ : ∃ j, 10 - i = j + 1 := ⟨9 - i, by omega⟩
 rw [hj, g7] at hv
 have hb := kc hd 1
 have hf := jH hb.1 4
 have h256 := d.aL.toNat_lt
 have ho1 := fun h1 h2 => tK (b := d.aL.toNat) hi hu h1 h2
 have ho2 := fun h2 => tK (b := d.aL.toNat % 128) hi hu (by omega) h2
 have han := AE d.aL.toNat (by omega)
 repeat' ((conv => whnf); first | apply a9 | apply aQ | (apply ao <;> intro h))
 all_goals try conv => whnf
 all_goals try (refine a8.mk ?_; try dsimp only)
 all_goals (try simp only [han] at *)
 all_goals (try simp only [bM] at *)
 all_goals first | refine stay ?_ | trivial | skip
 all_goals first
  | exact h7
  | (exfalso; omega)
  | (show a7 _ _ _ _ _ _
     repeat (first | rw [if_pos (by first | assumption | omega)] at hv | rw [if_neg (by first | assumption | omega)] at hv)
     rw [← hv]
     (refine a7.mk [] ?_ <;> (repeat' first | trivial | rfl | exact cZ _ _ | apply ah | apply b9 | apply ax | apply ct | apply aG | apply cf | apply cY | apply de | apply cg | apply aX))
     all_goals (exact (ho1 (by omega) (by omega)).1))
  | skip
 have h8 := pow7 (i := i) (by omega)
 have hP : 2 ^ (7 * (i + 1)) = 128 * 2 ^ (7 * i) := by rw [show 7 * (i + 1) = 7 + 7 * i by omega, Nat.pow_add]
 have hmm : d.aL.toNat - 128 = d.aL.toNat % 128 := by omega
 repeat (first | rw [if_pos (by first | assumption | omega)] at hv | rw [if_neg (by first | assumption | omega)] at hv)
 have := Nat.mul_le_mul_right (2 ^ (7 * i)) (show d.aL.toNat % 128 ≤ 127 by omega)
 refine ⟨[], (i + 1, u + d.aL.toNat % 128 * 2 ^ (7 * i), d.byte), ⟨by omega, by rw [hP]; exact An hu, hb.1, hb.2.1.trans hds, ?_⟩, ?_, by show 10 - (i + 1) < 10 - i; omega⟩
 . rw [← hv, hmm, show 10 - (i + 1) = j by omega]
 refine Go.VG.Sub.mk rfl ?_ ?_ ?_ ?_ <;> (repeat' first | trivial | apply ah | apply ax)
 . (simp (discharger := omega) only [wR]; omega)
 . exact (ho2 (by omega)).1
def jh : Sm := fun args σ => match args, σ with
 | [.ptr 0 0], [.cells ([.str s_c, .int .i64 (.ofNat a_c), .int .i64 (.ofNat e_c), .int .i64 c_c])] => some (True ∧ ((Cu.mk s_c a_c e_c c_c).ok), .int .u64 (Cu.mk s_c a_c e_c c_c).aK.1, some [.cells (eC (Cu.mk s_c a_c e_c c_c).aK.2)])
 | _, _ => none
theorem lp : aa 68 jh := by
 intro args sg pre x r he hp
 unfold jh at he
 split at he <;> cases he
 . rw [bG (hp).1]; exact DS (hp := hp.2) ..
end Go.Proofs.YtipejldppicijaaGreatDoor
