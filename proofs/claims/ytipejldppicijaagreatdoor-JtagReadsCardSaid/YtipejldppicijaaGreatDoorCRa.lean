/-
  A part of the proof.
-/
import Derived.Test.YtipejldppicijaaGreatDoorCWb
set_option linter.unusedSimpArgs false
set_option linter.unusedVariables false
set_option maxHeartbeats 4000000
namespace Go.Proofs.YtipejldppicijaaGreatDoor
open Go Go.VG
set_option maxRecDepth 100000
def dn : Nat → Nat → Nat → Cu → Nat × Cu
 | 0, _, _, c => (0, c.fail 4)
 | j + 1, i, u, c =>
   if c.byte.c ≠ 0 then (0, c.byte)
   else if i = 9 ∧ c.ao.toNat > 1 then (0, c.byte.fail 4)
   else if c.ao.toNat < 128 then (u + c.ao.toNat * 2 ^ (7 * i), c.byte)
   else dn j (i + 1) (u + (c.ao.toNat - 128) * 2 ^ (7 * i)) c.byte
def Cu.av (c : Cu) : Nat × Cu := dn 10 0 0 c
def db (u : Nat) : Int := if u % 2 = 0 then ((u / 2 : Nat) : Int) else -((u / 2 : Nat) : Int) - 1
def Cu.bK (c : Cu) (n : Int) : List UInt8 := if c.may n = true then (c.s.drop c.p).take n.toNat else []
def Cu.text (c : Cu) : List UInt8 × Cu :=
 let v := c.av
 if v.2.c = 0 ∧ (v.1 : Int) > v.2.left then ([], v.2.fail 1) else (v.2.bK v.1, v.2.pass v.1)
def eR : List UInt8 → Nat
 | [] => 0
 | b :: s => b.toNat + 256 * eR s
def Cu.mi (c : Cu) : Nat × Cu := (eR (c.bK 8), c.pass 8)
theorem pow7 {i : Nat} (hi : i ≤ 8) : 2 ^ (7 * i) ≤ 72057594037927936 ∧ 0 < 2 ^ (7 * i) := by
 constructor
 . exact Nat.le_trans (Nat.pow_le_pow_right (by omega) (show 7 * i ≤ 56 by omega)) (by decide)
 . exact Nat.two_pow_pos _
theorem sO {u b i : Nat} (hi : i ≤ 9) (hu : u < 2 ^ (7 * i)) (hb : b < 128) (h9 : i = 9 → b ≤ 1) :
   i4 .u64 (u : Int) (i5 .u64 (IntKind.u64.wrap (b : Int)) (IntKind.i64.wrap (7 * (i : Int)))) = ((u + b * 2 ^ (7 * i) : Nat) : Int) ∧ u + b * 2 ^ (7 * i) < 18446744073709551616 := by
 have hlt : u + b * 2 ^ (7 * i) < 18446744073709551616 := by
  by_cases h : i = 9
  . subst h
    have := h9 rfl
    have e : 2 ^ (7 * 9) = 9223372036854775808 := by decide
    rw [e] at hu ⊢; omega
  . have h8 := pow7 (i := i) (by omega)
    have := Nat.mul_le_mul_right (2 ^ (7 * i)) (show b ≤ 127 by omega)
    omega
 refine ⟨?_, hlt⟩
 rw [show IntKind.i64.wrap (7 * (i : Int)) = ((7 * i : Nat) : Int) by rw [bL]; omega, show IntKind.u64.wrap (b : Int) = (b : Int) by rw [cm]; omega]
 have e1 : i5 .u64 (b : Int) ((7 * i : Nat) : Int) = ((b * 2 ^ (7 * i) : Nat) : Int) := by
  show IntKind.u64.wrap ((b : Int) * 2 ^ (min (7 * i) 64)) = _
  rw [Nat.min_eq_left (by omega), cm]
  have : ((b : Int) * 2 ^ (7 * i)) = ((b * 2 ^ (7 * i) : Nat) : Int) := by push_cast; rfl
  rw [this]; omega
 rw [e1]
 show IntKind.u64.wrap ((BitVec.ofInt 64 (u : Int) ||| BitVec.ofInt 64 ((b * 2 ^ (7 * i) : Nat) : Int)).toNat : Int) = _
 rw [BitVec.ofInt_natCast, BitVec.ofInt_natCast, BitVec.toNat_or, BitVec.toNat_ofNat, BitVec.toNat_ofNat, Nat.mod_eq_of_lt (by omega), Nat.mod_eq_of_lt (by omega), cm]
 have e2 := Nat.shiftLeft_add_eq_or_of_lt hu b
 rw [Nat.shiftLeft_eq] at e2
 rw [Nat.or_comm, ← e2]; omega
theorem zR {u b P : Nat} (hu : u < P) : u + b % 128 * P < 128 * P := by
 have := Nat.mul_le_mul_right P (show b % 128 ≤ 127 by omega)
 omega
theorem Ab : ∀ n : Nat, n < 256 → wI .u8 n 128 = ((n % 128 : Nat) : Int) := by decide
theorem HL {u : Nat} (h : u ≤ 18446744073709551615) : nx .i64 (IntKind.i64.wrap (cB .u64 (u : Int) 1)) (IntKind.i64.wrap (0 - (IntKind.i64.wrap (jL .u64 (u : Int) 1)))) = db u := by
 have e1 : cB .u64 (u : Int) 1 = ((u / 2 : Nat) : Int) := by
  show (u : Int).fdiv 2 = _
  rw [Int.fdiv_eq_ediv_of_nonneg _ (by decide)]; omega
 have e2 : jL .u64 (u : Int) 1 = ((u % 2 : Nat) : Int) := by
  show IntKind.u64.wrap ((BitVec.ofInt 64 (u : Int) &&& BitVec.ofInt 64 1).toNat : Int) = _
  rw [BitVec.ofInt_natCast, show BitVec.ofInt 64 1 = BitVec.ofNat 64 1 from rfl, BitVec.toNat_and, BitVec.toNat_ofNat, BitVec.toNat_ofNat, Nat.mod_eq_of_lt (by omega),
   show u &&& 1 % 2 ^ 64 = u % 2 from Nat.and_two_pow_sub_one_eq_mod u 1, cm]
  omega
 rw [e1, e2, show IntKind.i64.wrap ((u / 2 : Nat) : Int) = ((u / 2 : Nat) : Int) by rw [bL]; omega]
 unfold db
 by_cases c : u % 2 = 0
 . rw [if_pos c, c]
   show IntKind.i64.wrap ((BitVec.ofInt 64 _ ^^^ BitVec.ofInt 64 0).toNat : Int) = _
   rw [BitVec.ofInt_natCast, show BitVec.ofInt 64 0 = 0#64 by decide, BitVec.xor_zero, BitVec.toNat_ofNat, Nat.mod_eq_of_lt (by omega), bL]
   omega
 . rw [if_neg c, show u % 2 = 1 by omega]
   show IntKind.i64.wrap ((BitVec.ofInt 64 _ ^^^ BitVec.ofInt 64 (-1)).toNat : Int) = _
   rw [BitVec.ofInt_natCast, show BitVec.ofInt 64 (-1) = BitVec.allOnes 64 by decide, BitVec.xor_allOnes, BitVec.toNat_not, BitVec.toNat_ofNat, Nat.mod_eq_of_lt (by omega), bL]
   omega
theorem HK {u : Nat} (h : u ≤ 18446744073709551615) : -9223372036854775808 ≤ db u ∧ db u ≤ 9223372036854775807 := by
 unfold db; split <;> omega
theorem Hi {u b : Nat} (hb : b < 256) (hu : u * 256 + 255 ≤ 18446744073709551615) : i4 .u64 (i5 .u64 (u : Int) 8) (IntKind.u64.wrap (b : Int)) = ((b + 256 * u : Nat) : Int) := by
 rw [show IntKind.u64.wrap (b : Int) = (b : Int) by rw [cm]; omega]
 have e1 : i5 .u64 (u : Int) 8 = ((u * 2 ^ 8 : Nat) : Int) := by
  show IntKind.u64.wrap ((u : Int) * 2 ^ 8) = _
  rw [cm]; omega
 rw [e1]
 show IntKind.u64.wrap ((BitVec.ofInt 64 ((u * 2 ^ 8 : Nat) : Int) ||| BitVec.ofInt 64 (b : Int)).toNat : Int) = _
 rw [BitVec.ofInt_natCast, BitVec.ofInt_natCast, BitVec.toNat_or, BitVec.toNat_ofNat, BitVec.toNat_ofNat, Nat.mod_eq_of_lt (by omega), Nat.mod_eq_of_lt (by omega), cm]
 have e2 := Nat.shiftLeft_add_eq_or_of_lt (i := 8) (b := b) (by omega) u
 rw [Nat.shiftLeft_eq] at e2
 rw [← e2]; omega
theorem FM (s : List UInt8) : eR s < 256 ^ s.length := by
 induction s with
 | nil => decide
 | cons b s ih => have := b.toNat_lt; rw [eR, List.length_cons, Nat.pow_succ]; omega
theorem zU : ∀ (j i u : Nat) (c : Cu), c.ok → (dn j i u c).2.ok ∧ (dn j i u c).2.s = c.s ∧ (dn j i u c).2.e = c.e
 | 0, i, u, c, h => ⟨(g9 h 4).1, (g9 h 4).2.1, (g9 h 4).2.2.1⟩
 | j + 1, i, u, c, h => by
   have hb := gp h 1
   have hf := g9 hb.1 4
   rw [dn]
   split
   . exact hb
   . split
     . exact ⟨hf.1, hf.2.1.trans hb.2.1, hf.2.2.1.trans hb.2.2⟩
     . split
       . exact hb
       . have := zU j (i + 1) (u + (c.ao.toNat - 128) * 2 ^ (7 * i)) c.byte hb.1
         exact ⟨this.1, this.2.1.trans hb.2.1, this.2.2.trans hb.2.2⟩
theorem lp {c : Cu} (h : c.ok) : c.av.2.ok ∧ c.av.2.s = c.s ∧ c.av.2.e = c.e := zU 10 0 0 c h
theorem DH (q : Int) (hp : 0 ≤ q ∧ q ≤ 18446744073709551615) : OK 67 ([.int .u64 q]) ([]) (.int .i64 (db q.toNat)) (none) := by
 refine ah (C := cx []) (ai trivial) (fn := Tryz.f67) rfl rfl rfl rfl fun hw hs => ?_
 obtain ⟨u, rfl⟩ := Int.eq_ofNat_of_zero_le hp.1
 rw [Int.toNat_natCast]
 repeat' ((conv => whnf); apply ab)
 all_goals try conv => whnf
 all_goals try (refine a7.mk ?_; try dsimp only)
 all_goals first | refine stay ?_ | trivial | skip
 refine a6.mk [] ?_ <;> (repeat' first | trivial | apply ak | apply az)
 exact HL (u := u) (by omega)
def qM : Sm := fun args σ => match args, σ with
 | [.int .u64 q], [] => some (0 ≤ q ∧ q ≤ 18446744073709551615, .int .i64 (db q.toNat), none)
 | _, _ => none
theorem xC : a9 67 qM := by
 intro args sg pre x r he hp
 unfold qM at he
 split at he <;> cases he
 . exact DH (hp := hp) ..
theorem DD (c : Cu) (hp : c.ok) : OK 68 ([.ptr 0 0]) ([.cells (eC c)]) (.int .u64 c.av.1) (some [.cells (eC c.av.2)]) := by
 refine ah (C := cx [(64, gS), (35, fJ), (66, eZ)]) (ai ⟨iX, gj, fW, trivial⟩) (fn := Tryz.f68) rfl rfl rfl rfl fun hw hs => ?_
 all_goals try conv => whnf
 all_goals try (refine a7.mk ?_; try dsimp only)
 refine km.mk Unit (fun _ => True) (fun _ => ⟨43, [(0, .ptr 0 0), (3, .int .u64 0)], [.cells (eC c)], []⟩) (fun _ => 0) [] () trivial ?_ (fun _ _ _ _ => ?_)
 . refine Go.VG.Sub.mk rfl ?_ ?_ ?_ ?_ <;> (repeat' first | trivial)
 all_goals try conv => whnf
 all_goals try (refine a7.mk ?_; try dsimp only)
 refine c5.mk (Nat × Nat × Cu) (fun (i, u, d) => i ≤ 9 ∧ u < 2 ^ (7 * i) ∧ d.ok ∧ d.s = c.s ∧ dn (10 - i) i u d = c.av) (fun (i, u, d) => ⟨43, [(6, .int .i64 i), (0, .ptr 0 0), (3, .int .u64 u)], [.cells (eC d)], []⟩) (fun x => 10 - x.1) [] (0, 0, c) ⟨by decide, by decide, hp, rfl, rfl⟩ ?_ (fun ⟨i, u, d⟩ ⟨hi, hu, hd, hds, hv⟩ _ _ => ?_)
 . refine Go.VG.Sub.mk rfl ?_ ?_ ?_ ?_ <;> (repeat' first | trivial)
 have h7 : 0 ≤ IntKind.i64.wrap (7 * (i : Int)) := by
  have e : IntKind.i64.wrap (7 * (i : Int)) = 7 * (i : Int) := by rw [bL]; omega
  rw [e]; omega
 obtain ⟨j, hj⟩ : ∃ j, 10 - i = j + 1 := ⟨9 - i, by omega⟩
 rw [hj, dn] at hv
 have hb := gp hd 1
 have hf := g9 hb.1 4
 have h256 := d.ao.toNat_lt
 have ho1 := fun h1 h2 => sO (b := d.ao.toNat) hi hu h1 h2
 have ho2 := fun h2 => sO (b := d.ao.toNat % 128) hi hu (by omega) h2
 have han := Ab d.ao.toNat (by omega)
 repeat' ((conv => whnf); first | apply ab | apply ax | (apply ae <;> intro h))
 all_goals try conv => whnf
 all_goals try (refine a7.mk ?_; try dsimp only)
 all_goals (try simp only [han] at *)
 all_goals (try simp only [aU] at *)
 all_goals first | refine stay ?_ | trivial | skip
 all_goals first
  | exact h7
  | (exfalso; omega)
  | (show a6 _ _ _ _ _ _
     repeat (first | rw [if_pos (by first | assumption | omega)] at hv | rw [if_neg (by first | assumption | omega)] at hv)
     rw [← hv]
     (refine a6.mk [] ?_ <;> (repeat' first | trivial | rfl | exact fw _ _ | apply ak | apply dp | apply az | apply cQ | apply bI | apply dz | apply er | apply dq | apply bT | apply bo))
     all_goals (exact (ho1 (by omega) (by omega)).1))
  | skip
 have h8 := pow7 (i := i) (by omega)
 have hP : 2 ^ (7 * (i + 1)) = 128 * 2 ^ (7 * i) := by rw [show 7 * (i + 1) = 7 + 7 * i by omega, Nat.pow_add]
 have hmm : d.ao.toNat - 128 = d.ao.toNat % 128 := by omega
 repeat (first | rw [if_pos (by first | assumption | omega)] at hv | rw [if_neg (by first | assumption | omega)] at hv)
 have := Nat.mul_le_mul_right (2 ^ (7 * i)) (show d.ao.toNat % 128 ≤ 127 by omega)
 refine ⟨[], (i + 1, u + d.ao.toNat % 128 * 2 ^ (7 * i), d.byte), ⟨by omega, by rw [hP]; exact zR hu, hb.1, hb.2.1.trans hds, ?_⟩, ?_, by show 10 - (i + 1) < 10 - i; omega⟩
 . rw [← hv, hmm, show 10 - (i + 1) = j by omega]
 refine Go.VG.Sub.mk rfl ?_ ?_ ?_ ?_ <;> (repeat' first | trivial | apply ak | apply az)
 . (simp (discharger := omega) only [wR]; omega)
 . exact (ho2 (by omega)).1
def jb : Sm := fun args σ => match args, σ with
 | [.ptr 0 0], [.cells ([.str s_c, .int .i64 (.ofNat a_c), .int .i64 (.ofNat e_c), .int .i64 c_c])] => some (True ∧ ((Cu.mk s_c a_c e_c c_c).ok), .int .u64 (Cu.mk s_c a_c e_c c_c).av.1, some [.cells (eC (Cu.mk s_c a_c e_c c_c).av.2)])
 | _, _ => none
theorem kT : a9 68 jb := by
 intro args sg pre x r he hp
 unfold jb at he
 split at he <;> cases he
 . rw [bP (hp).1]; exact DD (hp := hp.2) ..
end Go.Proofs.YtipejldppicijaaGreatDoor
