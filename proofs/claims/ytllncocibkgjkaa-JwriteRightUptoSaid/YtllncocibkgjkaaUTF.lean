/-
  A part of the proof.
-/
import Derived.Test.YtllncocibkgjkaaTxt0
set_option linter.unusedSimpArgs false
set_option linter.unusedVariables false
set_option maxHeartbeats 4000000
namespace Go.Proofs.Ytllncocibkgjkaa
open Go Go.VG
set_option maxRecDepth 100000
def mf (s : List UInt8) : Nat → Nat → Int → Int
 | 0, _, n => n
 | r + 1, i, n => if s.length ≤ i then -1 else mf s r (i + 1) (64 * n + ((s.getD i 0).toNat : Int) - 128)
def eJ (s : List UInt8) : Int :=
 if (s.getD 0 0).toNat < 128 then ((s.getD 0 0).toNat : Int)
 else if 240 ≤ (s.getD 0 0).toNat then mf s 3 1 (((s.getD 0 0).toNat : Int) - 240)
 else if 224 ≤ (s.getD 0 0).toNat then mf s 2 1 (((s.getD 0 0).toNat : Int) - 224)
 else mf s 1 1 (((s.getD 0 0).toNat : Int) - 192)
def cT (r : Int) : Bool := decide (0 ≤ r ∧ r ≤ 1114111 ∧ (r < 55296 ∨ 57343 < r))
def bI (n : Int) : List UInt8 :=
 if n < 128 then [byte n]
 else if n < 2048 then [byte (192 + n / 64), byte (128 + n % 64)]
 else if n < 65536 then [byte (224 + n / 4096), byte (128 + n / 64 % 64), byte (128 + n % 64)]
 else [byte (240 + n / 262144), byte (128 + n / 4096 % 64), byte (128 + n / 64 % 64), byte (128 + n % 64)]
theorem rT (n : Int) : 1 ≤ (bI n).length ∧ (bI n).length ≤ 4 := by
 unfold bI
 repeat' split
 all_goals simp
def aW (s : List UInt8) (i : Nat) : Int × Nat :=
 if s.length ≤ i then (0, 0)
 else if eJ (s.drop i) < 0 ∨ 1114111 < eJ (s.drop i) ∨ cT (eJ (s.drop i)) = false then (0, 0)
 else if (s.drop i).take (bI (eJ (s.drop i))).length = bI (eJ (s.drop i)) then (eJ (s.drop i), (bI (eJ (s.drop i))).length)
 else (0, 0)
theorem vw (s : List UInt8) (i : Nat) : (aW s i).2 ≤ 4 ∧ ((aW s i).2 = 0 ∨ i + (aW s i).2 ≤ s.length) := by
 unfold aW
 have hl := rT (eJ (s.drop i))
 split
 . simp
 . split
   . simp
   . split
     . rename_i h
       have := congrArg List.length h
       rw [List.length_take, List.length_drop] at this
       simp only; omega
     . simp
def gX (s : List UInt8) (i c : Nat) : Nat × Nat :=
 if s.length ≤ i then (i, c)
 else if h : (aW s i).2 = 0 then (i, c)
 else gX s (i + (aW s i).2) (c + 1)
termination_by s.length - i
decreasing_by omega
def jm (s : List UInt8) : Int := if (gX s 0 0).1 = s.length then -1 else (gX s 0 0).1
end Go.Proofs.Ytllncocibkgjkaa
namespace Go.Proofs.Ytllncocibkgjkaa
open Go Go.VG
set_option maxRecDepth 100000
def aK (b : Nat) : Nat := if b < 128 then 1 else if b < 194 then 0 else if b < 224 then 2 else if b < 240 then 3 else if b < 245 then 4 else 0
def iW (n : Int) : Int := if n = 2 then 128 else if n = 3 then 2048 else if n = 4 then 65536 else 0
def cont (b : UInt8) : Bool := decide (128 ≤ b.toNat ∧ b.toNat < 192)
def dM (s : List UInt8) : Nat → Nat → Nat → Option Nat
 | 0, _, a => some a
 | r + 1, i, a => if cont (s.getD i 0) = true then dM s r (i + 1) (64 * a + (s.getD i 0).toNat % 64) else none
def jS (n : Nat) : Option Nat → Int × Nat
 | none => (0, 0)
 | some r => if (r : Int) < iW n then (0, 0) else if cT r = true then ((r : Int), n) else (0, 0)
theorem rV (n r : Nat) : jS n (some r) = if (r : Int) < iW n then (0, 0) else if cT r = true then ((r : Int), n) else (0, 0) := rfl
def cf (s : List UInt8) (i : Nat) : Int × Nat :=
 if s.length ≤ i then (0, 0)
 else if aK (s.getD i 0).toNat = 0 then (0, 0)
 else if s.length < i + aK (s.getD i 0).toNat then (0, 0)
 else if aK (s.getD i 0).toNat = 1 then (((s.getD i 0).toNat : Int), 1)
 else jS (aK (s.getD i 0).toNat) (dM s (aK (s.getD i 0).toNat - 1) (i + 1) ((s.getD i 0).toNat % 2 ^ (7 - aK (s.getD i 0).toNat)))
theorem pW (k : IntKind) (j n : Nat) (hk : n < 2 ^ k.bits) (hj : 2 ^ j - 1 < 2 ^ k.bits) (hs : n % 2 ^ j ≤ k.max) (h0 : k.min ≤ (n % 2 ^ j : Nat)) (hw : ∀ m : Nat, (m : Int) ≤ k.max → k.wrap m = m) : kJ k n ((2 ^ j - 1 : Nat) : Int) = ((n % 2 ^ j : Nat) : Int) := by
 show k.wrap ((BitVec.ofInt k.bits (n : Int) &&& BitVec.ofInt k.bits ((2 ^ j - 1 : Nat) : Int)).toNat : Int) = _
 rw [BitVec.ofInt_natCast, BitVec.ofInt_natCast, BitVec.toNat_and, BitVec.toNat_ofNat, BitVec.toNat_ofNat, Nat.mod_eq_of_lt hk, Nat.mod_eq_of_lt hj, Nat.and_two_pow_sub_one_eq_mod]
 exact hw _ hs
theorem vD (m : Nat) (h : (m : Int) ≤ IntKind.i32.max) : IntKind.i32.wrap m = m := by
 have : IntKind.i32.max = 2147483647 := rfl
 rw [mg]; omega
theorem rX (m : Nat) (h : (m : Int) ≤ IntKind.u8.max) : IntKind.u8.wrap m = m := by
 have : IntKind.u8.max = 255 := rfl
 rw [mh]; omega
theorem vR (n : Nat) (h : n < 256) : kJ .u8 n 63 = ((n % 64 : Nat) : Int) := pW .u8 6 n h (by decide) (by show ((n % 64 : Nat) : Int) ≤ 255; omega) (by show (0 : Int) ≤ _; omega) rX
theorem sn : ∀ n : Nat, n < 256 → kJ .u8 n 192 = ((n / 64 * 64 : Nat) : Int) := by decide
theorem Bg (n b : Nat) (hn : n = 2 ∨ n = 3 ∨ n = 4) (h : b < 256) : kJ .i32 b (iQ .i32 127 n) = ((b % 2 ^ (7 - n) : Nat) : Int) := by
 have hm : IntKind.i32.max = 2147483647 := rfl
 have hi : IntKind.i32.min = -2147483648 := rfl
 have e : IntKind.i32.bits = 32 := rfl
 rcases hn with rfl | rfl | rfl
 . exact pW .i32 5 b (by rw [e]; omega) (by rw [e]; decide) (by rw [hm]; omega) (by rw [hi]; omega) vD
 . exact pW .i32 4 b (by rw [e]; omega) (by rw [e]; decide) (by rw [hm]; omega) (by rw [hi]; omega) vD
 . exact pW .i32 3 b (by rw [e]; omega) (by rw [e]; decide) (by rw [hm]; omega) (by rw [hi]; omega) vD
theorem HY (a : Nat) (h : a < 2000000) : iP .i32 a 6 = ((64 * a : Nat) : Int) := by
 show IntKind.i32.wrap ((a : Int) * 2 ^ (min 6 32)) = _
 rw [mg]
 have : ((2 : Int) ^ (min 6 32)) = 64 := rfl
 rw [this]; omega
theorem u0 (a b j : Nat) (h : b < 2 ^ j) : a * 2 ^ j ||| b = a * 2 ^ j + b := by
 have := Nat.shiftLeft_add_eq_or_of_lt h a
 rw [Nat.shiftLeft_eq] at this
 exact this.symm
theorem Gr (a b : Nat) (ha : a < 2000000) (hb : b < 64) : ig .i32 ((64 * a : Nat) : Int) b = ((64 * a + b : Nat) : Int) := by
 show IntKind.i32.wrap ((BitVec.ofInt 32 ((64 * a : Nat) : Int) ||| BitVec.ofInt 32 (b : Int)).toNat : Int) = _
 rw [BitVec.ofInt_natCast, BitVec.ofInt_natCast, BitVec.toNat_or, BitVec.toNat_ofNat, BitVec.toNat_ofNat, Nat.mod_eq_of_lt (by omega), Nat.mod_eq_of_lt (by omega), Nat.mul_comm 64 a, u0 a b 6 hb]
 rw [mg]; omega
theorem DX (b : UInt8) (hp : True) : OK 124 ([bv b]) ([]) (.int .i64 (aK b.toNat)) (none) := by
 refine az (C := cx []) (ax trivial) (fn := Try.f124) rfl rfl rfl rfl fun hw hs => ?_
 repeat' ((conv => whnf); (apply ay <;> intro h))
 all_goals try conv => whnf
 all_goals try (refine af.mk ?_; try dsimp only)
 all_goals try refine stay ?_
 all_goals
  unfold aK
  repeat (first | rw [if_pos (by omega)] | rw [if_neg (by omega)])
  refine ah.mk [] ?_ <;> (repeat' first | trivial)
def vj : Sm := fun args σ => match args, σ with
 | [.int .u8 n_b], [] => some ((0 ≤ n_b ∧ n_b ≤ 255) ∧ (True), .int .i64 (aK (byte n_b).toNat), none)
 | _, _ => none
theorem Fe : aI 124 vj := by
 intro args sg pre x r he hp
 unfold vj at he
 split at he <;> cases he
 . rw [eK (hp).1]; exact DX (hp := hp.2) ..
theorem DW (n : Int) (hp : True) : OK 125 ([.int .i64 n]) ([]) (.int .i32 (iW n)) (none) := by
 refine az (C := cx []) (ax trivial) (fn := Try.f125) rfl rfl rfl rfl fun hw hs => ?_
 repeat' ((conv => whnf); (apply ay <;> intro h))
 all_goals try conv => whnf
 all_goals try (refine af.mk ?_; try dsimp only)
 all_goals try refine stay ?_
 all_goals
  unfold iW
  repeat (first | rw [if_pos (by omega)] | rw [if_neg (by omega)])
  refine ah.mk [] ?_ <;> (repeat' first | trivial)
def vi : Sm := fun args σ => match args, σ with
 | [.int .i64 n], [] => some (True, .int .i32 (iW n), none)
 | _, _ => none
theorem Fc : aI 125 vi := by
 intro args sg pre x r he hp
 unfold vi at he
 split at he <;> cases he
 . exact DW (hp := hp) ..
theorem DV (r : Int) (hp : True) : OK 110 ([.int .i32 r]) ([]) (.bool (cT r)) (none) := by
 refine az (C := cx []) (ax trivial) (fn := Try.f110) rfl rfl rfl rfl fun hw hs => ?_
 repeat' ((conv => whnf); (apply ay <;> intro h))
 all_goals try conv => whnf
 all_goals try (refine af.mk ?_; try dsimp only)
 all_goals try refine stay ?_
 all_goals
  refine ah.mk [] ?_ <;> (repeat' first | trivial | apply ak | apply eqC)
  unfold cT
 all_goals first
  | exact (decide_eq_true (by omega)).symm
  | exact (decide_eq_false (by omega)).symm
  | exact decide_eq_decide.2 (by constructor <;> intro _ <;> omega)
def mc : Sm := fun args σ => match args, σ with
 | [.int .i32 r], [] => some (True, .bool (cT r), none)
 | _, _ => none
theorem oN : aI 110 mc := by
 intro args sg pre x r he hp
 unfold mc at he
 split at he <;> cases he
 . exact DV (hp := hp) ..
theorem Iu {b : Nat} (h : b < 256) : aK b = 0 ∨ aK b = 1 ∨ aK b = 2 ∨ aK b = 3 ∨ aK b = 4 := by
 unfold aK
 repeat' split
 all_goals omega
theorem E6 (s : List UInt8) (i : Nat) (hs : s.length ≤ 100000000) : OK 112 [.str s, .int .i64 i] [] (.tuple [.int .i32 (cf s i).1, .int .i64 (cf s i).2]) none := by
 refine az (C := cx [(124, vj), (125, vi), (110, mc)]) (ax ⟨Fe, Fc, oN, trivial⟩) (fn := Try.f112) rfl rfl rfl rfl fun hw _ => ?_
 have hc0 : (s.getD i 0).toNat < 256 := UInt8.toNat_lt _
 have hL := Iu hc0
 have hby : byte ((s.getD i 0).toNat : Int) = s.getD i 0 := cF _
 have hq := fun x => Bg (aK (s.getD i 0).toNat) (s.getD i 0).toNat x hc0
 have hi : (i : Int) ≤ 9223372036854775807 := hw.2.1.2
 have hwr : IntKind.i64.wrap ((s.length : Int) - i) = s.length - i := by (simp (discharger := omega) only [wR]; omega)
 have hwb : IntKind.i32.wrap ((s.getD i 0).toNat : Int) = (s.getD i 0).toNat := by (simp (discharger := omega) only [wR]; omega)
 repeat' ((conv => whnf); first | apply al | (apply ay <;> intro h) | with_reducible refine kF ?_ fun hc => ?_)
 all_goals try conv => whnf
 all_goals try (refine af.mk ?_; try dsimp only)
 all_goals (try simp only [show ((i : Int)).toNat = i from rfl, hby, hwr, hwb] at *)
 all_goals first | refine stay ?_ | omega | (simp (discharger := omega) [-List.getD_eq_getElem?_getD, wR] <;> omega) | skip
 all_goals first
  | (show ah _ _ _ _ _ _
     unfold cf
     repeat (first | rw [if_pos (by omega)] | rw [if_neg (by omega)])
     refine ah.mk [] ?_ <;> (repeat' first | trivial)
     done)
  | skip
 have hn : aK (s.getD i 0).toNat = 2 ∨ aK (s.getD i 0).toNat = 3 ∨ aK (s.getD i 0).toNat = 4 := by omega
 have he0 : cf s i = jS (aK (s.getD i 0).toNat) (dM s (aK (s.getD i 0).toNat - 1) (i + 1) ((s.getD i 0).toNat % 2 ^ (7 - aK (s.getD i 0).toNat))) := by
  unfold cf
  repeat (first | rw [if_pos (by omega)] | rw [if_neg (by omega)])
 rw [he0]
 rw [hq hn]
 have hr0 : (s.getD i 0).toNat % 2 ^ (7 - aK (s.getD i 0).toNat) < 32 := by
  rcases hn with h | h | h <;> rw [h] <;> omega
 generalize hr : (s.getD i 0).toNat % 2 ^ (7 - aK (s.getD i 0).toNat) = r0 at *
 generalize hu : aK (s.getD i 0).toNat = n at *
 refine cg.mk (Nat × Nat) (fun | (j, a) => 1 ≤ j ∧ j ≤ n ∧ ((j = 1 ∧ a < 32) ∨ (j = 2 ∧ a < 2048) ∨ (j = 3 ∧ a < 131072) ∨ (j = 4 ∧ a < 8388608)) ∧ dM s (n - j) (i + j) a = dM s (n - 1) (i + 1) r0)
  (fun | (j, a) => ⟨74, [(0, .str s), (1, .int .i64 i), (4, .int .i32 a), (6, .int .i64 n), (7, .int .i64 j)], [], []⟩) (fun x => n - x.1) [] (1, r0) ⟨by omega, by omega, by omega, rfl⟩ ?_ (fun ⟨j, a⟩ ⟨hj, hjn, hb, he⟩ _ _ => ?_)
 . refine Go.VG.Sub.mk rfl ?_ ?_ ?_ ?_ <;> (repeat' first | trivial)
 have hij : (IntKind.i64.wrap ((i : Int) + j)).toNat = i + j := by (simp (discharger := omega) only [wR]; omega)
 have hc1 : (s.getD (i + j) 0).toNat < 256 := UInt8.toNat_lt _
 have h192 := sn _ hc1
 have h63 := vR _ hc1
 repeat' ((conv => whnf); first | apply al | apply bh | (apply ay <;> intro h) | with_reducible refine goE ?_ fun hc => ?_)
 all_goals try conv => whnf
 all_goals try (refine af.mk ?_; try dsimp only)
 all_goals (try simp only [hij, h192, h63] at *)
 all_goals first | refine stay ?_ | trivial | omega | (simp (discharger := omega) only [wR]; omega) | skip
 . have hc : cont (s.getD (i + j) 0) = true := decide_eq_true (by omega)
   rw [show n - j = (n - j - 1) + 1 by omega, dM, if_pos hc] at he
   refine ⟨[], (j + 1, 64 * a + (s.getD (i + j) 0).toNat % 64), ⟨by omega, by omega, by omega, ?_⟩, ?_, by omega⟩
   . rw [show n - (j + 1) = n - j - 1 by omega, show i + (j + 1) = i + j + 1 by omega]; exact he
   . refine Go.VG.Sub.mk rfl ?_ ?_ ?_ ?_ <;> (repeat' first | trivial | apply ak | apply cw)
     . rw [HY a (by omega), show IntKind.i32.wrap (((s.getD (i + j) 0).toNat % 64 : Nat) : Int) = (((s.getD (i + j) 0).toNat % 64 : Nat) : Int) by (simp (discharger := omega) only [wR]; omega)]
       exact Gr _ _ (by omega) (by omega)
     . (simp (discharger := omega) only [wR]; omega)
 . have hc : ¬ cont (s.getD (i + j) 0) = true := by
     unfold cont; rw [decide_eq_true_eq]; omega
   rw [show n - j = (n - j - 1) + 1 by omega, dM, if_neg hc] at he
   rw [← he]
   refine ah.mk [] ?_ <;> (repeat' first | trivial)
 all_goals
  rw [show n - j = 0 by omega, dM] at he
  rw [← he, rV]
  first
  | rw [if_pos (by assumption)]
  | rw [if_neg (by assumption), if_pos (show cT a = true from decide_eq_true (by assumption))]
  | rw [if_neg (by assumption), if_neg (by unfold cT; rw [decide_eq_true_eq]; assumption)]
  refine ah.mk [] ?_ <;> (repeat' first | trivial)
end Go.Proofs.Ytllncocibkgjkaa
