/-
  A part of the proof.
-/
import Derived.Test.YtllncocibkgjkaaDoorPUtf
set_option linter.unusedSimpArgs false
set_option linter.unusedVariables false
set_option maxHeartbeats 4000000
namespace Go.Proofs.YtllncocibkgjkaaDoor
open Go Go.VG
set_option maxRecDepth 100000
def bE (b : Nat) : Nat := if b < 128 then 1 else if b < 194 then 0 else if b < 224 then 2 else if b < 240 then 3 else if b < 245 then 4 else 0
def jM (n : Int) : Int := if n = 2 then 128 else if n = 3 then 2048 else if n = 4 then 65536 else 0
def cont (b : UInt8) : Bool := decide (128 ≤ b.toNat ∧ b.toNat < 192)
def fj (s : List UInt8) : Nat → Nat → Nat → Option Nat
 | 0, _, a => some a
 | r + 1, i, a => if cont (s.getD i 0) = true then fj s r (i + 1) (64 * a + (s.getD i 0).toNat % 64) else none
def l6 (n : Nat) : Option Nat → Int × Nat
 | none => (0, 0)
 | some r => if (r : Int) < jM n then (0, 0) else if d6 r = true then ((r : Int), n) else (0, 0)
theorem tj (n r : Nat) : l6 n (some r) = if (r : Int) < jM n then (0, 0) else if d6 r = true then ((r : Int), n) else (0, 0) := rfl
def dd (s : List UInt8) (i : Nat) : Int × Nat :=
 if s.length ≤ i then (0, 0)
 else if bE (s.getD i 0).toNat = 0 then (0, 0)
 else if s.length < i + bE (s.getD i 0).toNat then (0, 0)
 else if bE (s.getD i 0).toNat = 1 then (((s.getD i 0).toNat : Int), 1)
 else l6 (bE (s.getD i 0).toNat) (fj s (bE (s.getD i 0).toNat - 1) (i + 1) ((s.getD i 0).toNat % 2 ^ (7 - bE (s.getD i 0).toNat)))
theorem re (k : IntKind) (j n : Nat) (hk : n < 2 ^ k.bits) (hj : 2 ^ j - 1 < 2 ^ k.bits) (hs : n % 2 ^ j ≤ k.max) (h0 : k.min ≤ (n % 2 ^ j : Nat)) (hw : ∀ m : Nat, (m : Int) ≤ k.max → k.wrap m = m) : lT k n ((2 ^ j - 1 : Nat) : Int) = ((n % 2 ^ j : Nat) : Int) := by
 show k.wrap ((BitVec.ofInt k.bits (n : Int) &&& BitVec.ofInt k.bits ((2 ^ j - 1 : Nat) : Int)).toNat : Int) = _
 rw [BitVec.ofInt_natCast, BitVec.ofInt_natCast, BitVec.toNat_and, BitVec.toNat_ofNat, BitVec.toNat_ofNat, Nat.mod_eq_of_lt hk, Nat.mod_eq_of_lt hj, Nat.and_two_pow_sub_one_eq_mod]
 exact hw _ hs
theorem xm (m : Nat) (h : (m : Int) ≤ IntKind.i32.max) : IntKind.i32.wrap m = m := by
 have : IntKind.i32.max = 2147483647 := rfl
 rw [mf]; omega
theorem tu (m : Nat) (h : (m : Int) ≤ IntKind.u8.max) : IntKind.u8.wrap m = m := by
 have : IntKind.u8.max = 255 := rfl
 rw [mh]; omega
theorem xE (n : Nat) (h : n < 256) : lT .u8 n 63 = ((n % 64 : Nat) : Int) := re .u8 6 n h (by decide) (by show ((n % 64 : Nat) : Int) ≤ 255; omega) (by show (0 : Int) ≤ _; omega) tu
theorem tK : ∀ n : Nat, n < 256 → lT .u8 n 192 = ((n / 64 * 64 : Nat) : Int) := by decide
theorem CM (n b : Nat) (hn : n = 2 ∨ n = 3 ∨ n = 4) (h : b < 256) : lT .i32 b (fC .i32 127 n) = ((b % 2 ^ (7 - n) : Nat) : Int) := by
 have hm : IntKind.i32.max = 2147483647 := rfl
 have hi : IntKind.i32.min = -2147483648 := rfl
 have e : IntKind.i32.bits = 32 := rfl
 rcases hn with rfl | rfl | rfl
 . exact re .i32 5 b (by rw [e]; omega) (by rw [e]; decide) (by rw [hm]; omega) (by rw [hi]; omega) xm
 . exact re .i32 4 b (by rw [e]; omega) (by rw [e]; decide) (by rw [hm]; omega) (by rw [hi]; omega) xm
 . exact re .i32 3 b (by rw [e]; omega) (by rw [e]; decide) (by rw [hm]; omega) (by rw [hi]; omega) xm
theorem JX (a : Nat) (h : a < 2000000) : jF .i32 a 6 = ((64 * a : Nat) : Int) := by
 show IntKind.i32.wrap ((a : Int) * 2 ^ (min 6 32)) = _
 rw [mf]
 have : ((2 : Int) ^ (min 6 32)) = 64 := rfl
 rw [this]; omega
theorem vr (a b j : Nat) (h : b < 2 ^ j) : a * 2 ^ j ||| b = a * 2 ^ j + b := by
 have := Nat.shiftLeft_add_eq_or_of_lt h a
 rw [Nat.shiftLeft_eq] at this
 exact this.symm
theorem Il (a b : Nat) (ha : a < 2000000) (hb : b < 64) : jf .i32 ((64 * a : Nat) : Int) b = ((64 * a + b : Nat) : Int) := by
 show IntKind.i32.wrap ((BitVec.ofInt 32 ((64 * a : Nat) : Int) ||| BitVec.ofInt 32 (b : Int)).toNat : Int) = _
 rw [BitVec.ofInt_natCast, BitVec.ofInt_natCast, BitVec.toNat_or, BitVec.toNat_ofNat, BitVec.toNat_ofNat, Nat.mod_eq_of_lt (by omega), Nat.mod_eq_of_lt (by omega), Nat.mul_comm 64 a, vr a b 6 hb]
 rw [mf]; omega
theorem Fz (b : UInt8) (hp : True) : OK 82 ([bv b]) ([]) (.int .i64 (bE b.toNat)) (none) := by
 refine aI (C := cx []) (aG trivial) (fn := Tryd.f82) rfl rfl rfl rfl fun hw hs => ?_
 repeat' ((conv => whnf); (apply aj <;> intro h))
 all_goals try conv => whnf
 all_goals try (refine a8.mk ?_; try dsimp only)
 all_goals try refine stay ?_
 all_goals
  unfold bE
  repeat (first | rw [if_pos (by omega)] | rw [if_neg (by omega)])
  refine ab.mk [] ?_ <;> (repeat' first | trivial)
def wV : Sm := fun args σ => match args, σ with
 | [.int .u8 n_b], [] => some ((0 ≤ n_b ∧ n_b ≤ 255) ∧ (True), .int .i64 (bE (byte n_b).toNat), none)
 | _, _ => none
theorem GZ : aE 82 wV := by
 intro args sg pre x r he hp
 unfold wV at he
 split at he <;> cases he
 . rw [gI (hp).1]; exact Fz (hp := hp.2) ..
theorem Fy (n : Int) (hp : True) : OK 83 ([.int .i64 n]) ([]) (.int .i32 (jM n)) (none) := by
 refine aI (C := cx []) (aG trivial) (fn := Tryd.f83) rfl rfl rfl rfl fun hw hs => ?_
 repeat' ((conv => whnf); (apply aj <;> intro h))
 all_goals try conv => whnf
 all_goals try (refine a8.mk ?_; try dsimp only)
 all_goals try refine stay ?_
 all_goals
  unfold jM
  repeat (first | rw [if_pos (by omega)] | rw [if_neg (by omega)])
  refine ab.mk [] ?_ <;> (repeat' first | trivial)
def wU : Sm := fun args σ => match args, σ with
 | [.int .i64 n], [] => some (True, .int .i32 (jM n), none)
 | _, _ => none
theorem GY : aE 83 wU := by
 intro args sg pre x r he hp
 unfold wU at he
 split at he <;> cases he
 . exact Fy (hp := hp) ..
theorem Fx (r : Int) (hp : True) : OK 75 ([.int .i32 r]) ([]) (.bool (d6 r)) (none) := by
 refine aI (C := cx []) (aG trivial) (fn := Tryd.f75) rfl rfl rfl rfl fun hw hs => ?_
 repeat' ((conv => whnf); (apply aj <;> intro h))
 all_goals try conv => whnf
 all_goals try (refine a8.mk ?_; try dsimp only)
 all_goals try refine stay ?_
 all_goals
  refine ab.mk [] ?_ <;> (repeat' first | trivial | apply aa | apply aK)
  unfold d6
 all_goals first
  | exact (decide_eq_true (by omega)).symm
  | exact (decide_eq_false (by omega)).symm
  | exact decide_eq_decide.2 (by constructor <;> intro _ <;> omega)
def np : Sm := fun args σ => match args, σ with
 | [.int .i32 r], [] => some (True, .bool (d6 r), none)
 | _, _ => none
theorem pV : aE 75 np := by
 intro args sg pre x r he hp
 unfold np at he
 split at he <;> cases he
 . exact Fx (hp := hp) ..
theorem Ku {b : Nat} (h : b < 256) : bE b = 0 ∨ bE b = 1 ∨ bE b = 2 ∨ bE b = 3 ∨ bE b = 4 := by
 unfold bE
 repeat' split
 all_goals omega
theorem FG (s : List UInt8) (i : Nat) (hs : s.length ≤ 100000000) : OK 77 [.str s, .int .i64 i] [] (.tuple [.int .i32 (dd s i).1, .int .i64 (dd s i).2]) none := by
 refine aI (C := cx [(82, wV), (83, wU), (75, np)]) (aG ⟨GZ, GY, pV, trivial⟩) (fn := Tryd.f77) rfl rfl rfl rfl fun hw _ => ?_
 have hc0 : (s.getD i 0).toNat < 256 := UInt8.toNat_lt _
 have hL := Ku hc0
 have hby : byte ((s.getD i 0).toNat : Int) = s.getD i 0 := dx _
 have hq := fun x => CM (bE (s.getD i 0).toNat) (s.getD i 0).toNat x hc0
 have hi : (i : Int) ≤ 9223372036854775807 := hw.2.1.2
 have hwr : IntKind.i64.wrap ((s.length : Int) - i) = s.length - i := by (simp (discharger := omega) only [wR]; omega)
 have hwb : IntKind.i32.wrap ((s.getD i 0).toNat : Int) = (s.getD i 0).toNat := by (simp (discharger := omega) only [wR]; omega)
 repeat' ((conv => whnf); first | apply ai | (apply aj <;> intro h) | with_reducible refine aY ?_ fun hc => ?_)
 all_goals try conv => whnf
 all_goals try (refine a8.mk ?_; try dsimp only)
 all_goals (try simp only [show ((i : Int)).toNat = i from rfl, hby, hwr, hwb] at *)
 all_goals first | refine stay ?_ | omega | (simp (discharger := omega) [-List.getD_eq_getElem?_getD, wR] <;> omega) | skip
 all_goals first
  | (show ab _ _ _ _ _ _
     unfold dd
     repeat (first | rw [if_pos (by omega)] | rw [if_neg (by omega)])
     refine ab.mk [] ?_ <;> (repeat' first | trivial)
     done)
  | skip
 have hn : bE (s.getD i 0).toNat = 2 ∨ bE (s.getD i 0).toNat = 3 ∨ bE (s.getD i 0).toNat = 4 := by omega
 have he0 : dd s i = l6 (bE (s.getD i 0).toNat) (fj s (bE (s.getD i 0).toNat - 1) (i + 1) ((s.getD i 0).toNat % 2 ^ (7 - bE (s.getD i 0).toNat))) := by
  unfold dd
  repeat (first | rw [if_pos (by omega)] | rw [if_neg (by omega)])
 rw [he0]
 rw [hq hn]
 have hr0 : (s.getD i 0).toNat % 2 ^ (7 - bE (s.getD i 0).toNat) < 32 := by
  rcases hn with h | h | h <;> rw [h] <;> omega
 generalize hr : (s.getD i 0).toNat % 2 ^ (7 - bE (s.getD i 0).toNat) = r0 at *
 generalize hu : bE (s.getD i 0).toNat = n at *
 refine cB.mk (Nat × Nat) (fun | (j, a) => 1 ≤ j ∧ j ≤ n ∧ ((j = 1 ∧ a < 32) ∨ (j = 2 ∧ a < 2048) ∨ (j = 3 ∧ a < 131072) ∨ (j = 4 ∧ a < 8388608)) ∧ fj s (n - j) (i + j) a = fj s (n - 1) (i + 1) r0)
  (fun | (j, a) => ⟨74, [(0, .str s), (1, .int .i64 i), (4, .int .i32 a), (6, .int .i64 n), (7, .int .i64 j)], [], []⟩) (fun x => n - x.1) [] (1, r0) ⟨by omega, by omega, by omega, rfl⟩ ?_ (fun ⟨j, a⟩ ⟨hj, hjn, hb, he⟩ _ _ => ?_)
 . refine Go.VG.Sub.mk rfl ?_ ?_ ?_ ?_ <;> (repeat' first | trivial)
 have hij : (IntKind.i64.wrap ((i : Int) + j)).toNat = i + j := by (simp (discharger := omega) only [wR]; omega)
 have hc1 : (s.getD (i + j) 0).toNat < 256 := UInt8.toNat_lt _
 have h192 := tK _ hc1
 have h63 := xE _ hc1
 repeat' ((conv => whnf); first | apply ai | apply aw | (apply aj <;> intro h) | with_reducible refine b9 ?_ fun hc => ?_)
 all_goals try conv => whnf
 all_goals try (refine a8.mk ?_; try dsimp only)
 all_goals (try simp only [hij, h192, h63] at *)
 all_goals first | refine stay ?_ | trivial | omega | (simp (discharger := omega) only [wR]; omega) | skip
 . have hc : cont (s.getD (i + j) 0) = true := decide_eq_true (by omega)
   rw [show n - j = (n - j - 1) + 1 by omega, fj, if_pos hc] at he
   refine ⟨[], (j + 1, 64 * a + (s.getD (i + j) 0).toNat % 64), ⟨by omega, by omega, by omega, ?_⟩, ?_, by omega⟩
   . rw [show n - (j + 1) = n - j - 1 by omega, show i + (j + 1) = i + j + 1 by omega]; exact he
   . refine Go.VG.Sub.mk rfl ?_ ?_ ?_ ?_ <;> (repeat' first | trivial | apply aa | apply ar)
     . rw [JX a (by omega), show IntKind.i32.wrap (((s.getD (i + j) 0).toNat % 64 : Nat) : Int) = (((s.getD (i + j) 0).toNat % 64 : Nat) : Int) by (simp (discharger := omega) only [wR]; omega)]
       exact Il _ _ (by omega) (by omega)
     . (simp (discharger := omega) only [wR]; omega)
 . have hc : ¬ cont (s.getD (i + j) 0) = true := by
     unfold cont; rw [decide_eq_true_eq]; omega
   rw [show n - j = (n - j - 1) + 1 by omega, fj, if_neg hc] at he
   rw [← he]
   refine ab.mk [] ?_ <;> (repeat' first | trivial)
 all_goals
  rw [show n - j = 0 by omega, fj] at he
  rw [← he, tj]
  first
  | rw [if_pos (by assumption)]
  | rw [if_neg (by assumption), if_pos (show d6 a = true from decide_eq_true (by assumption))]
  | rw [if_neg (by assumption), if_neg (by unfold d6; rw [decide_eq_true_eq]; assumption)]
  refine ab.mk [] ?_ <;> (repeat' first | trivial)
end Go.Proofs.YtllncocibkgjkaaDoor
namespace Go.Proofs.YtllncocibkgjkaaDoor
open Go Go.VG
set_option maxRecDepth 100000
theorem CX {n : Int} {b : UInt8} (h : 0 ≤ n ∧ n ≤ 255) : byte n = b ↔ n = b.toNat := by
 constructor
 . intro e; rw [← e, gO h]
 . intro e; rw [e, dx]
theorem sO (s : List UInt8) (i : Nat) : bI s i = if s.length ≤ i then (0, 0) else bI (s.drop i) 0 := by
 by_cases h : s.length ≤ i
 . rw [if_pos h]; unfold bI; rw [if_pos h]
 . rw [if_neg h]; unfold bI
   rw [if_neg h, if_neg (show ¬ (s.drop i).length ≤ 0 by rw [List.length_drop]; omega), List.drop_zero]
theorem Ck (s : List UInt8) (i : Nat) : ∀ r j a, fj s r (i + j) a = fj (s.drop i) r j a
 | 0, _, _ => rfl
 | r + 1, j, a => by
   simp only [fj]
   rw [show (s.drop i).getD j 0 = s.getD (i + j) 0 by simp [List.getD_eq_getElem?_getD, List.getElem?_drop], ← Ck s i r (j + 1), show i + j + 1 = i + (j + 1) by omega]
theorem Jg (s : List UInt8) (i : Nat) : dd s i = if s.length ≤ i then (0, 0) else dd (s.drop i) 0 := by
 have e : (s.drop i).getD 0 0 = s.getD i 0 := by simp [List.getD_eq_getElem?_getD, List.getElem?_drop]
 by_cases h : s.length ≤ i
 . rw [if_pos h]; unfold dd; rw [if_pos h]
 . rw [if_neg h]; unfold dd
   rw [if_neg h, if_neg (show ¬ (s.drop i).length ≤ 0 by rw [List.length_drop]; omega), e, ← Ck s i _ (0 + 1)]
   have hl : (s.drop i).length < bE (s.getD i 0).toNat ↔ s.length < i + bE (s.getD i 0).toNat := by rw [List.length_drop]; omega
   simp only [Nat.zero_add, hl]
theorem oe {t : List UInt8} {n k : Nat} (h : k < n) : (t.take n).getD k 0 = t.getD k 0 := by
 simp [List.getD_eq_getElem?_getD, List.getElem?_take, h]
theorem take1 (t : List UInt8) (x : UInt8) : t.take 1 = [x] ↔ 1 ≤ t.length ∧ t.getD 0 0 = x := by
 match t with
 | [] => simp
 | a :: _ => simp
theorem take2 (t : List UInt8) (x y : UInt8) : t.take 2 = [x, y] ↔ 2 ≤ t.length ∧ t.getD 0 0 = x ∧ t.getD 1 0 = y := by
 match t with
 | [] => simp
 | [a] => simp
 | a :: b :: _ => simp
theorem take3 (t : List UInt8) (x y z : UInt8) : t.take 3 = [x, y, z] ↔ 3 ≤ t.length ∧ t.getD 0 0 = x ∧ t.getD 1 0 = y ∧ t.getD 2 0 = z := by
 match t with
 | [] => simp
 | [a] => simp
 | [a, b] => simp
 | a :: b :: c :: _ => simp
theorem take4 (t : List UInt8) (x y z u : UInt8) : t.take 4 = [x, y, z, u] ↔ 4 ≤ t.length ∧ t.getD 0 0 = x ∧ t.getD 1 0 = y ∧ t.getD 2 0 = z ∧ t.getD 3 0 = u := by
 match t with
 | [] => simp
 | [a] => simp
 | [a, b] => simp
 | [a, b, c] => simp
 | a :: b :: c :: d :: _ => simp
theorem jQ {n : Int} {b : UInt8} (h : 0 ≤ n ∧ n ≤ 255) : b = byte n ↔ (b.toNat : Int) = n := by
 rw [eq_comm, CX h, eq_comm]
theorem iq (t : List UInt8) (g : Int) (h0 : 0 ≤ g) (h1 : g ≤ 1114111) : t.take (bQ g).length = bQ g ↔
   (g < 128 ∧ 1 ≤ t.length ∧ ((t.getD 0 0).toNat : Int) = g) ∨
   (128 ≤ g ∧ g < 2048 ∧ 2 ≤ t.length ∧ ((t.getD 0 0).toNat : Int) = 192 + g / 64 ∧ ((t.getD 1 0).toNat : Int) = 128 + g % 64) ∨
   (2048 ≤ g ∧ g < 65536 ∧ 3 ≤ t.length ∧ ((t.getD 0 0).toNat : Int) = 224 + g / 4096 ∧ ((t.getD 1 0).toNat : Int) = 128 + g / 64 % 64 ∧ ((t.getD 2 0).toNat : Int) = 128 + g % 64) ∨
   (65536 ≤ g ∧ 4 ≤ t.length ∧ ((t.getD 0 0).toNat : Int) = 240 + g / 262144 ∧ ((t.getD 1 0).toNat : Int) = 128 + g / 4096 % 64 ∧ ((t.getD 2 0).toNat : Int) = 128 + g / 64 % 64 ∧ ((t.getD 3 0).toNat : Int) = 128 + g % 64) := by
 unfold bQ
 by_cases a : g < 128
 . rw [if_pos a]
   show t.take 1 = _ ↔ _
   rw [take1, jQ (by omega)]; omega
 by_cases b : g < 2048
 . rw [if_neg a, if_pos b]
   show t.take 2 = _ ↔ _
   rw [take2, jQ (by omega), jQ (by omega)]; omega
 by_cases c : g < 65536
 . rw [if_neg a, if_neg b, if_pos c]
   show t.take 3 = _ ↔ _
   rw [take3, jQ (by omega), jQ (by omega), jQ (by omega)]; omega
 . rw [if_neg a, if_neg b, if_neg c]
   show t.take 4 = _ ↔ _
   rw [take4, jQ (by omega), jQ (by omega), jQ (by omega), jQ (by omega)]; omega
theorem CY (g : Int) : (bQ g).length = if g < 128 then 1 else if g < 2048 then 2 else if g < 65536 then 3 else 4 := by
 unfold bQ; repeat' split
 all_goals rfl
theorem i9 (t : List UInt8) (hL : 0 < t.length) (g : Int) (hg : bN t = g) (r : Int × Nat)
   (h1 : (g < 0 ∨ 1114111 < g ∨ d6 g = false) → r = (0, 0))
   (h2 : 0 ≤ g → g ≤ 1114111 → d6 g = true → t.take (bQ g).length = bQ g → r = (g, (bQ g).length))
   (h3 : 0 ≤ g → g ≤ 1114111 → d6 g = true → ¬ t.take (bQ g).length = bQ g → r = (0, 0)) : r = bI t 0 := by
 unfold bI
 rw [List.drop_zero, hg, if_neg (by omega)]
 by_cases a : g < 0 ∨ 1114111 < g ∨ d6 g = false
 . rw [if_pos a]; exact h1 a
 . rw [if_neg a]
   have b : 0 ≤ g ∧ g ≤ 1114111 ∧ d6 g = true := by
    refine ⟨by omega, by omega, ?_⟩
    cases h : d6 g with
    | true => rfl
    | false => exact absurd (.inr (.inr h)) a
   by_cases c : t.take (bQ g).length = bQ g
   . rw [if_pos c]; exact h2 b.1 b.2.1 b.2.2 c
   . rw [if_neg c]; exact h3 b.1 b.2.1 b.2.2 c
theorem iN (g : Int) : d6 g = true ↔ (0 ≤ g ∧ g ≤ 1114111 ∧ (g < 55296 ∨ 57343 < g)) := by unfold d6; rw [decide_eq_true_eq]
theorem tg (g : Int) : d6 g = false ↔ ¬ (0 ≤ g ∧ g ≤ 1114111 ∧ (g < 55296 ∨ 57343 < g)) := by unfold d6; rw [decide_eq_false_iff_not]
theorem gS (b : UInt8) : cont b = true ↔ 128 ≤ b.toNat ∧ b.toNat < 192 := by unfold cont; rw [decide_eq_true_eq]
theorem oV (n : Nat) : l6 n none = (0, 0) := rfl
theorem rq (g : Int) (n : Nat) (h : (n = 1 ∧ g < 128) ∨ (n = 2 ∧ 128 ≤ g ∧ g < 2048) ∨ (n = 3 ∧ 2048 ≤ g ∧ g < 65536) ∨ (n = 4 ∧ 65536 ≤ g)) : (bQ g).length = n := by
 rw [CY]
 repeat' split
 all_goals omega
theorem qz (t : List UInt8) (h : bE (t.getD 0 0).toNat = 0 ∨ t.length < bE (t.getD 0 0).toNat) : dd t 0 = (0, 0) := by
 unfold dd
 repeat' split
 all_goals first | rfl | (exfalso; omega)
theorem Jf (t : List UInt8) (hL : 0 < t.length) (h : bE (t.getD 0 0).toNat = 1) : dd t 0 = (((t.getD 0 0).toNat : Int), 1) := by
 unfold dd
 rw [if_neg (by omega), if_neg (by omega), if_neg (by omega), if_pos h]
theorem vM (t : List UInt8) (n : Nat) (hL : n ≤ t.length) (h : bE (t.getD 0 0).toNat = n) (hn : 2 ≤ n) : dd t 0 = l6 n (fj t (n - 1) 1 ((t.getD 0 0).toNat % 2 ^ (7 - n))) := by
 unfold dd
 rw [h, if_neg (by omega), if_neg (by omega), if_neg (by omega), if_neg (by omega)]
theorem qn (n r : Nat) (h : (r : Int) < jM n ∨ ¬ (0 ≤ (r : Int) ∧ (r : Int) ≤ 1114111 ∧ ((r : Int) < 55296 ∨ 57343 < (r : Int)))) : l6 n (some r) = (0, 0) := by
 rw [tj]
 by_cases a : (r : Int) < jM n
 . rw [if_pos a]
 . rw [if_neg a, if_neg (by rw [iN]; omega)]
theorem vt (n r : Nat) (g : Int) (hg : (r : Int) = g) (h : ¬ (r : Int) < jM n) (k : 0 ≤ (r : Int) ∧ (r : Int) ≤ 1114111 ∧ ((r : Int) < 55296 ∨ 57343 < (r : Int))) : l6 n (some r) = (g, n) := by
 rw [tj, if_neg h, if_pos ((iN _).2 k), hg]
theorem Jh (t : List UInt8) (hL : 0 < t.length) : dd t 0 = bI t 0 := by
  have h0 : (t.getD 0 0).toNat < 256 := UInt8.toNat_lt _
  have h1 : (t.getD 1 0).toNat < 256 := UInt8.toNat_lt _
  have h2 : (t.getD 2 0).toNat < 256 := UInt8.toNat_lt _
  have h3 : (t.getD 3 0).toNat < 256 := UInt8.toNat_lt _
  have l2 : jM (2 : Nat) = 128 := rfl
  have l3 : jM (3 : Nat) = 2048 := rfl
  have l4 : jM (4 : Nat) = 65536 := rfl
  by_cases a1 : (t.getD 0 0).toNat < 128
  . have hu : bE (t.getD 0 0).toNat = 1 := by unfold bE; rw [if_pos a1]
    rw [Jf t hL hu]
    refine i9 t hL _ (by unfold bN; rw [if_pos a1]) _ (fun h => ?_) (fun _ _ _ h => ?_) (fun q1 q2 q3 h => ?_)
    . rw [tg] at h; omega
    . rw [rq _ 1 (by omega)]
    . rw [iq t _ (by omega) (by omega)] at h; omega
  by_cases a2 : (t.getD 0 0).toNat < 224
  . have hg : bN t = if t.length ≤ 1 then -1 else 64 * (((t.getD 0 0).toNat : Int) - 192) + (t.getD 1 0).toNat - 128 := by
      unfold bN
      rw [if_neg a1, if_neg (by omega), if_neg (by omega)]
      simp only [eQ]
    by_cases b1 : t.length ≤ 1
    . rw [if_pos b1] at hg
      have hz : dd t 0 = (0, 0) := qz t (by
       by_cases q : bE (t.getD 0 0).toNat = 0
       . exact .inl q
       . refine .inr ?_
         have : bE (t.getD 0 0).toNat = 0 ∨ bE (t.getD 0 0).toNat = 2 := by
          unfold bE; repeat' split
          all_goals omega
         omega)
      rw [hz]
      exact i9 t hL _ hg _ (fun _ => rfl) (fun h => by omega) (fun h => by omega)
    . rw [if_neg b1] at hg
      by_cases a3 : (t.getD 0 0).toNat < 194
      . have hz : dd t 0 = (0, 0) := qz t (.inl (by unfold bE; rw [if_neg a1, if_pos a3]))
        rw [hz]
        refine i9 t hL _ hg _ (fun _ => rfl) (fun q1 q2 q3 h => ?_) (fun _ _ _ _ => rfl)
        rw [iq t _ q1 q2] at h; omega
      . have hu : bE (t.getD 0 0).toNat = 2 := by unfold bE; rw [if_neg a1, if_neg a3, if_pos a2]
        rw [vM t 2 (by omega) hu (by omega)]
        simp only [fj, show (1 : Nat) + 1 = 2 from rfl, show (2 : Nat) + 1 = 3 from rfl]
        by_cases c1 : cont (t.getD 1 0) = true
        . rw [if_pos c1]
          rw [gS] at c1
          refine i9 t hL _ hg _ (fun h => qn _ _ (by rw [tg] at h; omega)) (fun q1 q2 q3 h => ?_) (fun q1 q2 q3 h => ?_)
          . rw [rq _ 2 (by omega)]
            exact vt _ _ _ (by omega) (by rw [l2]; omega) (by omega)
          . exfalso; rw [iq t _ q1 q2] at h; omega
        . rw [if_neg c1, oV]
          rw [gS] at c1
          refine i9 t hL _ hg _ (fun _ => rfl) (fun q1 q2 q3 h => ?_) (fun _ _ _ _ => rfl)
          rw [iq t _ q1 q2] at h; omega
  by_cases a4 : (t.getD 0 0).toNat < 240
  . have hg : bN t = if t.length ≤ 1 then -1 else if t.length ≤ 2 then -1 else 64 * (64 * (((t.getD 0 0).toNat : Int) - 224) + (t.getD 1 0).toNat - 128) + (t.getD 2 0).toNat - 128 := by
      unfold bN
      rw [if_neg a1, if_neg (by omega), if_pos (by omega)]
      simp only [eQ]
    have hu : bE (t.getD 0 0).toNat = 3 := by unfold bE; rw [if_neg a1, if_neg (by omega), if_neg a2, if_pos a4]
    by_cases b1 : t.length ≤ 2
    . have hg : bN t = -1 := by
        rw [hg]; repeat' split
        all_goals rfl
      rw [qz t (.inr (by omega))]
      exact i9 t hL _ hg _ (fun _ => rfl) (fun h => by omega) (fun h => by omega)
    . rw [if_neg (by omega), if_neg b1] at hg
      rw [vM t 3 (by omega) hu (by omega)]
      simp only [fj, show (1 : Nat) + 1 = 2 from rfl, show (2 : Nat) + 1 = 3 from rfl]
      by_cases c1 : cont (t.getD 1 0) = true
      . rw [if_pos c1]
        rw [gS] at c1
        by_cases c2 : cont (t.getD 2 0) = true
        . rw [if_pos c2]
          rw [gS] at c2
          refine i9 t hL _ hg _ (fun h => qn _ _ (by rw [tg] at h; omega)) (fun q1 q2 q3 h => ?_) (fun q1 q2 q3 h => qn _ _ ?_)
          . rw [iN] at q3
            rw [iq t _ q1 q2] at h
            rw [rq _ 3 (by omega)]
            exact vt _ _ _ (by omega) (by rw [l3]; omega) (by omega)
          . rw [iq t _ q1 q2] at h; rw [l3]; omega
        . rw [if_neg c2, oV]
          rw [gS] at c2
          refine i9 t hL _ hg _ (fun _ => rfl) (fun q1 q2 q3 h => ?_) (fun _ _ _ _ => rfl)
          rw [iq t _ q1 q2] at h; omega
      . rw [if_neg c1, oV]
        rw [gS] at c1
        refine i9 t hL _ hg _ (fun _ => rfl) (fun q1 q2 q3 h => ?_) (fun _ _ _ _ => rfl)
        rw [iq t _ q1 q2] at h; omega
  have hg : bN t = if t.length ≤ 1 then -1 else if t.length ≤ 2 then -1 else if t.length ≤ 3 then -1 else 64 * (64 * (64 * (((t.getD 0 0).toNat : Int) - 240) + (t.getD 1 0).toNat - 128) + (t.getD 2 0).toNat - 128) + (t.getD 3 0).toNat - 128 := by
   unfold bN
   rw [if_neg a1, if_pos (by omega)]
   simp only [eQ]
  by_cases b1 : t.length ≤ 3
  . have hg : bN t = -1 := by
      rw [hg]; repeat' split
      all_goals rfl
    have hz : dd t 0 = (0, 0) := qz t (by
     have : bE (t.getD 0 0).toNat = 0 ∨ bE (t.getD 0 0).toNat = 4 := by
      unfold bE; repeat' split
      all_goals omega
     omega)
    rw [hz]
    exact i9 t hL _ hg _ (fun _ => rfl) (fun h => by omega) (fun h => by omega)
  rw [if_neg (by omega), if_neg (by omega), if_neg b1] at hg
  by_cases a5 : (t.getD 0 0).toNat < 245
  . have hu : bE (t.getD 0 0).toNat = 4 := by unfold bE; rw [if_neg a1, if_neg (by omega), if_neg a2, if_neg a4, if_pos a5]
    rw [vM t 4 (by omega) hu (by omega)]
    simp only [fj, show (1 : Nat) + 1 = 2 from rfl, show (2 : Nat) + 1 = 3 from rfl]
    by_cases c1 : cont (t.getD 1 0) = true
    . rw [if_pos c1]
      rw [gS] at c1
      by_cases c2 : cont (t.getD 2 0) = true
      . rw [if_pos c2]
        rw [gS] at c2
        by_cases c3 : cont (t.getD 3 0) = true
        . rw [if_pos c3]
          rw [gS] at c3
          refine i9 t hL _ hg _ (fun h => qn _ _ (by rw [tg] at h; omega)) (fun q1 q2 q3 h => ?_) (fun q1 q2 q3 h => qn _ _ ?_)
          . rw [iN] at q3
            rw [iq t _ q1 q2] at h
            rw [rq _ 4 (by omega)]
            exact vt _ _ _ (by omega) (by rw [l4]; omega) (by omega)
          . rw [iq t _ q1 q2] at h; rw [l4]; omega
        . rw [if_neg c3, oV]
          rw [gS] at c3
          refine i9 t hL _ hg _ (fun _ => rfl) (fun q1 q2 q3 h => ?_) (fun _ _ _ _ => rfl)
          rw [iq t _ q1 q2] at h; omega
      . rw [if_neg c2, oV]
        rw [gS] at c2
        refine i9 t hL _ hg _ (fun _ => rfl) (fun q1 q2 q3 h => ?_) (fun _ _ _ _ => rfl)
        rw [iq t _ q1 q2] at h; omega
    . rw [if_neg c1, oV]
      rw [gS] at c1
      refine i9 t hL _ hg _ (fun _ => rfl) (fun q1 q2 q3 h => ?_) (fun _ _ _ _ => rfl)
      rw [iq t _ q1 q2] at h; omega
  . have hz : dd t 0 = (0, 0) := qz t (.inl (by unfold bE; rw [if_neg a1, if_neg (by omega), if_neg a2, if_neg a4, if_neg a5]))
    rw [hz]
    refine i9 t hL _ hg _ (fun _ => rfl) (fun q1 q2 q3 h => ?_) (fun _ _ _ _ => rfl)
    rw [iq t _ q1 q2] at h; omega
theorem kX (s : List UInt8) (i : Nat) : dd s i = bI s i := by
 rw [sO, Jg]
 by_cases h : s.length ≤ i
 . rw [if_pos h, if_pos h]
 . rw [if_neg h, if_neg h]
   exact Jh _ (by rw [List.length_drop]; omega)
end Go.Proofs.YtllncocibkgjkaaDoor
