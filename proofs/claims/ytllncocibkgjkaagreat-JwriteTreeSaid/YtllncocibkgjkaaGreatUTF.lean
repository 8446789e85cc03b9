/-
  A part of the proof.
-/
import Derived.Test.YtllncocibkgjkaaGreatPUtf
set_option linter.unusedSimpArgs false
set_option linter.unusedVariables false
set_option maxHeartbeats 4000000
namespace Go.Proofs.YtllncocibkgjkaaGreat
open Go Go.VG
set_option maxRecDepth 100000
def aO (b : Nat) : Nat := if b < 128 then 1 else if b < 194 then 0 else if b < 224 then 2 else if b < 240 then 3 else if b < 245 then 4 else 0
def jG (n : Int) : Int := if n = 2 then 128 else if n = 3 then 2048 else if n = 4 then 65536 else 0
def cont (b : UInt8) : Bool := decide (128 ≤ b.toNat ∧ b.toNat < 192)
def eJ (s : List UInt8) : Nat → Nat → Nat → Option Nat
 | 0, _, a => some a
 | r + 1, i, a => if cont (s.getD i 0) = true then eJ s r (i + 1) (64 * a + (s.getD i 0).toNat % 64) else none
def kV (n : Nat) : Option Nat → Int × Nat
 | none => (0, 0)
 | some r => if (r : Int) < jG n then (0, 0) else if cF r = true then ((r : Int), n) else (0, 0)
theorem tz (n r : Nat) : kV n (some r) = if (r : Int) < jG n then (0, 0) else if cF r = true then ((r : Int), n) else (0, 0) := rfl
def cM (s : List UInt8) (i : Nat) : Int × Nat :=
 if s.length ≤ i then (0, 0)
 else if aO (s.getD i 0).toNat = 0 then (0, 0)
 else if s.length < i + aO (s.getD i 0).toNat then (0, 0)
 else if aO (s.getD i 0).toNat = 1 then (((s.getD i 0).toNat : Int), 1)
 else kV (aO (s.getD i 0).toNat) (eJ s (aO (s.getD i 0).toNat - 1) (i + 1) ((s.getD i 0).toNat % 2 ^ (7 - aO (s.getD i 0).toNat)))
theorem qS (k : IntKind) (j n : Nat) (hk : n < 2 ^ k.bits) (hj : 2 ^ j - 1 < 2 ^ k.bits) (hs : n % 2 ^ j ≤ k.max) (h0 : k.min ≤ (n % 2 ^ j : Nat)) (hw : ∀ m : Nat, (m : Int) ≤ k.max → k.wrap m = m) : lM k n ((2 ^ j - 1 : Nat) : Int) = ((n % 2 ^ j : Nat) : Int) := by
 show k.wrap ((BitVec.ofInt k.bits (n : Int) &&& BitVec.ofInt k.bits ((2 ^ j - 1 : Nat) : Int)).toNat : Int) = _
 rw [BitVec.ofInt_natCast, BitVec.ofInt_natCast, BitVec.toNat_and, BitVec.toNat_ofNat, BitVec.toNat_ofNat, Nat.mod_eq_of_lt hk, Nat.mod_eq_of_lt hj, Nat.and_two_pow_sub_one_eq_mod]
 exact hw _ hs
theorem xG (m : Nat) (h : (m : Int) ≤ IntKind.i32.max) : IntKind.i32.wrap m = m := by
 have : IntKind.i32.max = 2147483647 := rfl
 rw [kn]; omega
theorem tC (m : Nat) (h : (m : Int) ≤ IntKind.u8.max) : IntKind.u8.wrap m = m := by
 have : IntKind.u8.max = 255 := rfl
 rw [ko]; omega
theorem xX (n : Nat) (h : n < 256) : lM .u8 n 63 = ((n % 64 : Nat) : Int) := qS .u8 6 n h (by decide) (by show ((n % 64 : Nat) : Int) ≤ 255; omega) (by show (0 : Int) ≤ _; omega) tC
theorem tS : ∀ n : Nat, n < 256 → lM .u8 n 192 = ((n / 64 * 64 : Nat) : Int) := by decide
theorem Db (n b : Nat) (hn : n = 2 ∨ n = 3 ∨ n = 4) (h : b < 256) : lM .i32 b (jy .i32 127 n) = ((b % 2 ^ (7 - n) : Nat) : Int) := by
 have hm : IntKind.i32.max = 2147483647 := rfl
 have hi : IntKind.i32.min = -2147483648 := rfl
 have e : IntKind.i32.bits = 32 := rfl
 rcases hn with rfl | rfl | rfl
 . exact qS .i32 5 b (by rw [e]; omega) (by rw [e]; decide) (by rw [hm]; omega) (by rw [hi]; omega) xG
 . exact qS .i32 4 b (by rw [e]; omega) (by rw [e]; decide) (by rw [hm]; omega) (by rw [hi]; omega) xG
 . exact qS .i32 3 b (by rw [e]; omega) (by rw [e]; decide) (by rw [hm]; omega) (by rw [hi]; omega) xG
theorem L4 (a : Nat) (h : a < 2000000) : jx .i32 a 6 = ((64 * a : Nat) : Int) := by
 show IntKind.i32.wrap ((a : Int) * 2 ^ (min 6 32)) = _
 rw [kn]
 have : ((2 : Int) ^ (min 6 32)) = 64 := rfl
 rw [this]; omega
theorem vu (a b j : Nat) (h : b < 2 ^ j) : a * 2 ^ j ||| b = a * 2 ^ j + b := by
 have := Nat.shiftLeft_add_eq_or_of_lt h a
 rw [Nat.shiftLeft_eq] at this
 exact this.symm
theorem Jr (a b : Nat) (ha : a < 2000000) (hb : b < 64) : j6 .i32 ((64 * a : Nat) : Int) b = ((64 * a + b : Nat) : Int) := by
 show IntKind.i32.wrap ((BitVec.ofInt 32 ((64 * a : Nat) : Int) ||| BitVec.ofInt 32 (b : Int)).toNat : Int) = _
 rw [BitVec.ofInt_natCast, BitVec.ofInt_natCast, BitVec.toNat_or, BitVec.toNat_ofNat, BitVec.toNat_ofNat, Nat.mod_eq_of_lt (by omega), Nat.mod_eq_of_lt (by omega), Nat.mul_comm 64 a, vu a b 6 hb]
 rw [kn]; omega
theorem GF (b : UInt8) (hp : True) : OK 149 ([bv b]) ([]) (.int .i64 (aO b.toNat)) (none) := by
 refine aq (C := cx []) (ar trivial) (fn := Tryz.f149) rfl rfl rfl rfl fun hw hs => ?_
 repeat' ((conv => whnf); (apply al <;> intro h))
 all_goals try conv => whnf
 all_goals try (refine ab.mk ?_; try dsimp only)
 all_goals try refine stay ?_
 all_goals
  unfold aO
  repeat (first | rw [if_pos (by omega)] | rw [if_neg (by omega)])
  refine a8.mk [] ?_ <;> (repeat' first | trivial)
def xn : Sm := fun args σ => match args, σ with
 | [.int .u8 n_b], [] => some ((0 ≤ n_b ∧ n_b ≤ 255) ∧ (True), .int .i64 (aO (byte n_b).toNat), none)
 | _, _ => none
theorem Ii : ay 149 xn := by
 intro args sg pre x r he hp
 unfold xn at he
 split at he <;> cases he
 . rw [dw (hp).1]; exact GF (hp := hp.2) ..
theorem GD (n : Int) (hp : True) : OK 150 ([.int .i64 n]) ([]) (.int .i32 (jG n)) (none) := by
 refine aq (C := cx []) (ar trivial) (fn := Tryz.f150) rfl rfl rfl rfl fun hw hs => ?_
 repeat' ((conv => whnf); (apply al <;> intro h))
 all_goals try conv => whnf
 all_goals try (refine ab.mk ?_; try dsimp only)
 all_goals try refine stay ?_
 all_goals
  unfold jG
  repeat (first | rw [if_pos (by omega)] | rw [if_neg (by omega)])
  refine a8.mk [] ?_ <;> (repeat' first | trivial)
def xm : Sm := fun args σ => match args, σ with
 | [.int .i64 n], [] => some (True, .int .i32 (jG n), none)
 | _, _ => none
theorem Ih : ay 150 xm := by
 intro args sg pre x r he hp
 unfold xm at he
 split at he <;> cases he
 . exact GD (hp := hp) ..
theorem GC (r : Int) (hp : True) : OK 144 ([.int .i32 r]) ([]) (.bool (cF r)) (none) := by
 refine aq (C := cx []) (ar trivial) (fn := Tryz.f144) rfl rfl rfl rfl fun hw hs => ?_
 repeat' ((conv => whnf); (apply al <;> intro h))
 all_goals try conv => whnf
 all_goals try (refine ab.mk ?_; try dsimp only)
 all_goals try refine stay ?_
 all_goals
  refine a8.mk [] ?_ <;> (repeat' first | trivial | apply aj | apply ky)
  unfold cF
 all_goals first
  | exact (decide_eq_true (by omega)).symm
  | exact (decide_eq_false (by omega)).symm
  | exact decide_eq_decide.2 (by constructor <;> intro _ <;> omega)
def n8 : Sm := fun args σ => match args, σ with
 | [.int .i32 r], [] => some (True, .bool (cF r), none)
 | _, _ => none
theorem pL : ay 144 n8 := by
 intro args sg pre x r he hp
 unfold n8 at he
 split at he <;> cases he
 . exact GC (hp := hp) ..
theorem LJ {b : Nat} (h : b < 256) : aO b = 0 ∨ aO b = 1 ∨ aO b = 2 ∨ aO b = 3 ∨ aO b = 4 := by
 unfold aO
 repeat' split
 all_goals omega
theorem GM (s : List UInt8) (i : Nat) (hs : s.length ≤ 100000000) : OK 146 [.str s, .int .i64 i] [] (.tuple [.int .i32 (cM s i).1, .int .i64 (cM s i).2]) none := by
 refine aq (C := cx [(149, xn), (150, xm), (144, n8)]) (ar ⟨Ii, Ih, pL, trivial⟩) (fn := Tryz.f146) rfl rfl rfl rfl fun hw _ => ?_
 have hc0 : (s.getD i 0).toNat < 256 := UInt8.toNat_lt _
 have hL := LJ hc0
 have hby : byte ((s.getD i 0).toNat : Int) = s.getD i 0 := c5 _
 have hq := fun x => Db (aO (s.getD i 0).toNat) (s.getD i 0).toNat x hc0
 have hi : (i : Int) ≤ 9223372036854775807 := hw.2.1.2
 have hwr : IntKind.i64.wrap ((s.length : Int) - i) = s.length - i := by (simp (discharger := omega) only [wR]; omega)
 have hwb : IntKind.i32.wrap ((s.getD i 0).toNat : Int) = (s.getD i 0).toNat := by (simp (discharger := omega) only [wR]; omega)
 repeat' ((conv => whnf); first | apply ak | (apply al <;> intro h) | with_reducible refine et ?_ fun hc => ?_)
 all_goals try conv => whnf
 all_goals try (refine ab.mk ?_; try dsimp only)
 all_goals (try simp only [show ((i : Int)).toNat = i from rfl, hby, hwr, hwb] at *)
 all_goals first | refine stay ?_ | omega | (simp (discharger := omega) [-List.getD_eq_getElem?_getD, wR] <;> omega) | skip
 all_goals first
  | (show a8 _ _ _ _ _ _
     unfold cM
     repeat (first | rw [if_pos (by omega)] | rw [if_neg (by omega)])
     refine a8.mk [] ?_ <;> (repeat' first | trivial)
     done)
  | skip
 have hn : aO (s.getD i 0).toNat = 2 ∨ aO (s.getD i 0).toNat = 3 ∨ aO (s.getD i 0).toNat = 4 := by omega
 have he0 : cM s i = kV (aO (s.getD i 0).toNat) (eJ s (aO (s.getD i 0).toNat - 1) (i + 1) ((s.getD i 0).toNat % 2 ^ (7 - aO (s.getD i 0).toNat))) := by
  unfold cM
  repeat (first | rw [if_pos (by omega)] | rw [if_neg (by omega)])
 rw [he0]
 rw [hq hn]
 have hr0 : (s.getD i 0).toNat % 2 ^ (7 - aO (s.getD i 0).toNat) < 32 := by
  rcases hn with h | h | h <;> rw [h] <;> omega
 generalize hr : (s.getD i 0).toNat % 2 ^ (7 - aO (s.getD i 0).toNat) = r0 at *
 generalize hu : aO (s.getD i 0).toNat = n at *
 refine bn.mk (Nat × Nat) (fun | (j, a) => 1 ≤ j ∧ j ≤ n ∧ ((j = 1 ∧ a < 32) ∨ (j = 2 ∧ a < 2048) ∨ (j = 3 ∧ a < 131072) ∨ (j = 4 ∧ a < 8388608)) ∧ eJ s (n - j) (i + j) a = eJ s (n - 1) (i + 1) r0)
  (fun | (j, a) => ⟨74, [(0, .str s), (1, .int .i64 i), (4, .int .i32 a), (6, .int .i64 n), (7, .int .i64 j)], [], []⟩) (fun x => n - x.1) [] (1, r0) ⟨by omega, by omega, by omega, rfl⟩ ?_ (fun ⟨j, a⟩ ⟨hj, hjn, hb, he⟩ _ _ => ?_)
 . refine Go.VG.Sub.mk rfl ?_ ?_ ?_ ?_ <;> (repeat' first | trivial)
 have hij : (IntKind.i64.wrap ((i : Int) + j)).toNat = i + j := by (simp (discharger := omega) only [wR]; omega)
 have hc1 : (s.getD (i + j) 0).toNat < 256 := UInt8.toNat_lt _
 have h192 := tS _ hc1
 have h63 := xX _ hc1
 repeat' ((conv => whnf); first | apply ak | apply aV | (apply al <;> intro h) | with_reducible refine mG ?_ fun hc => ?_)
 all_goals try conv => whnf
 all_goals try (refine ab.mk ?_; try dsimp only)
 all_goals (try simp only [hij, h192, h63] at *)
 all_goals first | refine stay ?_ | trivial | omega | (simp (discharger := omega) only [wR]; omega) | skip
 . have hc : cont (s.getD (i + j) 0) = true := decide_eq_true (by omega)
   rw [show n - j = (n - j - 1) + 1 by omega, eJ, if_pos hc] at he
   refine ⟨[], (j + 1, 64 * a + (s.getD (i + j) 0).toNat % 64), ⟨by omega, by omega, by omega, ?_⟩, ?_, by omega⟩
   . rw [show n - (j + 1) = n - j - 1 by omega, show i + (j + 1) = i + j + 1 by omega]; exact he
   . refine Go.VG.Sub.mk rfl ?_ ?_ ?_ ?_ <;> (repeat' first | trivial | apply aj | apply aR)
     . rw [L4 a (by omega), show IntKind.i32.wrap (((s.getD (i + j) 0).toNat % 64 : Nat) : Int) = (((s.getD (i + j) 0).toNat % 64 : Nat) : Int) by (simp (discharger := omega) only [wR]; omega)]
       exact Jr _ _ (by omega) (by omega)
     . (simp (discharger := omega) only [wR]; omega)
 . have hc : ¬ cont (s.getD (i + j) 0) = true := by
     unfold cont; rw [decide_eq_true_eq]; omega
   rw [show n - j = (n - j - 1) + 1 by omega, eJ, if_neg hc] at he
   rw [← he]
   refine a8.mk [] ?_ <;> (repeat' first | trivial)
 all_goals
  rw [show n - j = 0 by omega, eJ] at he
  rw [← he, tz]
  first
  | rw [if_pos (by assumption)]
  | rw [if_neg (by assumption), if_pos (show cF a = true from decide_eq_true (by assumption))]
  | rw [if_neg (by assumption), if_neg (by unfold cF; rw [decide_eq_true_eq]; assumption)]
  refine a8.mk [] ?_ <;> (repeat' first | trivial)
end Go.Proofs.YtllncocibkgjkaaGreat
