/-
  A part of the proof.
-/
import Derived.Test.YtllncocibkgjkaaGreatUTF
set_option linter.unusedSimpArgs false
set_option linter.unusedVariables false
set_option maxHeartbeats 4000000
namespace Go.Proofs.YtllncocibkgjkaaGreat
open Go Go.VG
set_option maxRecDepth 100000
theorem Dl {n : Int} {b : UInt8} (h : 0 ≤ n ∧ n ≤ 255) : byte n = b ↔ n = b.toNat := by
 constructor
 . intro e; rw [← e, d8 h]
 . intro e; rw [e, c5]
theorem sD (s : List UInt8) (i : Nat) : b8 s i = if s.length ≤ i then (0, 0) else b8 (s.drop i) 0 := by
 by_cases h : s.length ≤ i
 . rw [if_pos h]; unfold b8; rw [if_pos h]
 . rw [if_neg h]; unfold b8
   rw [if_neg h, if_neg (show ¬ (s.drop i).length ≤ 0 by rw [List.length_drop]; omega), List.drop_zero]
theorem CK (s : List UInt8) (i : Nat) : ∀ r j a, eJ s r (i + j) a = eJ (s.drop i) r j a
 | 0, _, _ => rfl
 | r + 1, j, a => by
   simp only [eJ]
   rw [show (s.drop i).getD j 0 = s.getD (i + j) 0 by simp [List.getD_eq_getElem?_getD, List.getElem?_drop], ← CK s i r (j + 1), show i + j + 1 = i + (j + 1) by omega]
theorem Kl (s : List UInt8) (i : Nat) : cM s i = if s.length ≤ i then (0, 0) else cM (s.drop i) 0 := by
 have e : (s.drop i).getD 0 0 = s.getD i 0 := by simp [List.getD_eq_getElem?_getD, List.getElem?_drop]
 by_cases h : s.length ≤ i
 . rw [if_pos h]; unfold cM; rw [if_pos h]
 . rw [if_neg h]; unfold cM
   rw [if_neg h, if_neg (show ¬ (s.drop i).length ≤ 0 by rw [List.length_drop]; omega), e, ← CK s i _ (0 + 1)]
   have hl : (s.drop i).length < aO (s.getD i 0).toNat ↔ s.length < i + aO (s.getD i 0).toNat := by rw [List.length_drop]; omega
   simp only [Nat.zero_add, hl]
theorem jS {t : List UInt8} {n k : Nat} (h : k < n) : (t.take n).getD k 0 = t.getD k 0 := by
 simp [List.getD_eq_getElem?_getD, List.getElem?_take, h]
theorem take1 (t : List UInt8) (x : UInt8) : t.take 1 = [x] ↔ 1 ≤ t.length ∧ t.getD 0 0 = x := by
 match t with
 | [] => simp
 | a :: _ => simp
theorem take2 (t : List UInt8) (x y : UInt8) : t.take 2 = [x, y] ↔ 2 ≤ t.length ∧ t.getD 0 0 = x ∧ t.getD 1 0 = y := by
 match t with
 | [] => simp
 | [a] => simp
 | a :: b :: _ => simp
theorem take3 (t : List UInt8) (x y z : UInt8) : t.take 3 = [x, y, z] ↔ 3 ≤ t.length ∧ t.getD 0 0 = x ∧ t.getD 1 0 = y ∧ t.getD 2 0 = z := by
 match t with
 | [] => simp
 | [a] => simp
 | [a, b] => simp
 | a :: b :: c :: _ => simp
theorem take4 (t : List UInt8) (x y z u : UInt8) : t.take 4 = [x, y, z, u] ↔ 4 ≤ t.length ∧ t.getD 0 0 = x ∧ t.getD 1 0 = y ∧ t.getD 2 0 = z ∧ t.getD 3 0 = u := by
 match t with
 | [] => simp
 | [a] => simp
 | [a, b] => simp
 | [a, b, c] => simp
 | a :: b :: c :: d :: _ => simp
theorem jM {n : Int} {b : UInt8} (h : 0 ≤ n ∧ n ≤ 255) : b = byte n ↔ (b.toNat : Int) = n := by
 rw [eq_comm, Dl h, eq_comm]
theorem gY (t : List UInt8) (g : Int) (h0 : 0 ≤ g) (h1 : g ≤ 1114111) : t.take (aZ g).length = aZ g ↔
   (g < 128 ∧ 1 ≤ t.length ∧ ((t.getD 0 0).toNat : Int) = g) ∨
   (128 ≤ g ∧ g < 2048 ∧ 2 ≤ t.length ∧ ((t.getD 0 0).toNat : Int) = 192 + g / 64 ∧ ((t.getD 1 0).toNat : Int) = 128 + g % 64) ∨
   (2048 ≤ g ∧ g < 65536 ∧ 3 ≤ t.length ∧ ((t.getD 0 0).toNat : Int) = 224 + g / 4096 ∧ ((t.getD 1 0).toNat : Int) = 128 + g / 64 % 64 ∧ ((t.getD 2 0).toNat : Int) = 128 + g % 64) ∨
   (65536 ≤ g ∧ 4 ≤ t.length ∧ ((t.getD 0 0).toNat : Int) = 240 + g / 262144 ∧ ((t.getD 1 0).toNat : Int) = 128 + g / 4096 % 64 ∧ ((t.getD 2 0).toNat : Int) = 128 + g / 64 % 64 ∧ ((t.getD 3 0).toNat : Int) = 128 + g % 64) := by
 unfold aZ
 by_cases a : g < 128
 . rw [if_pos a]
   show t.take 1 = _ ↔ _
   rw [take1, jM (by omega)]; omega
 by_cases b : g < 2048
 . rw [if_neg a, if_pos b]
   show t.take 2 = _ ↔ _
   rw [take2, jM (by omega), jM (by omega)]; omega
 by_cases c : g < 65536
 . rw [if_neg a, if_neg b, if_pos c]
   show t.take 3 = _ ↔ _
   rw [take3, jM (by omega), jM (by omega), jM (by omega)]; omega
 . rw [if_neg a, if_neg b, if_neg c]
   show t.take 4 = _ ↔ _
   rw [take4, jM (by omega), jM (by omega), jM (by omega), jM (by omega)]; omega
theorem Dm (g : Int) : (aZ g).length = if g < 128 then 1 else if g < 2048 then 2 else if g < 65536 then 3 else 4 := by
 unfold aZ; repeat' split
 all_goals rfl
theorem gN (t : List UInt8) (hL : 0 < t.length) (g : Int) (hg : b7 t = g) (r : Int × Nat)
   (h1 : (g < 0 ∨ 1114111 < g ∨ cF g = false) → r = (0, 0))
   (h2 : 0 ≤ g → g ≤ 1114111 → cF g = true → t.take (aZ g).length = aZ g → r = (g, (aZ g).length))
   (h3 : 0 ≤ g → g ≤ 1114111 → cF g = true → ¬ t.take (aZ g).length = aZ g → r = (0, 0)) : r = b8 t 0 := by
 unfold b8
 rw [List.drop_zero, hg, if_neg (by omega)]
 by_cases a : g < 0 ∨ 1114111 < g ∨ cF g = false
 . rw [if_pos a]; exact h1 a
 . rw [if_neg a]
   have b : 0 ≤ g ∧ g ≤ 1114111 ∧ cF g = true := by
    refine ⟨by omega, by omega, ?_⟩
    cases h : cF g with
    | true => rfl
    | false => exact absurd (.inr (.inr h)) a
   by_cases c : t.take (aZ g).length = aZ g
   . rw [if_pos c]; exact h2 b.1 b.2.1 b.2.2 c
   . rw [if_neg c]; exact h3 b.1 b.2.1 b.2.2 c
theorem gQ (g : Int) : cF g = true ↔ (0 ≤ g ∧ g ≤ 1114111 ∧ (g < 55296 ∨ 57343 < g)) := by unfold cF; rw [decide_eq_true_eq]
theorem tx (g : Int) : cF g = false ↔ ¬ (0 ≤ g ∧ g ≤ 1114111 ∧ (g < 55296 ∨ 57343 < g)) := by unfold cF; rw [decide_eq_false_iff_not]
theorem gw (b : UInt8) : cont b = true ↔ 128 ≤ b.toNat ∧ b.toNat < 192 := by unfold cont; rw [decide_eq_true_eq]
theorem oV (n : Nat) : kV n none = (0, 0) := rfl
theorem r8 (g : Int) (n : Nat) (h : (n = 1 ∧ g < 128) ∨ (n = 2 ∧ 128 ≤ g ∧ g < 2048) ∨ (n = 3 ∧ 2048 ≤ g ∧ g < 65536) ∨ (n = 4 ∧ 65536 ≤ g)) : (aZ g).length = n := by
 rw [Dm]
 repeat' split
 all_goals omega
theorem qq (t : List UInt8) (h : aO (t.getD 0 0).toNat = 0 ∨ t.length < aO (t.getD 0 0).toNat) : cM t 0 = (0, 0) := by
 unfold cM
 repeat' split
 all_goals first | rfl | (exfalso; omega)
theorem Kk (t : List UInt8) (hL : 0 < t.length) (h : aO (t.getD 0 0).toNat = 1) : cM t 0 = (((t.getD 0 0).toNat : Int), 1) := by
 unfold cM
 rw [if_neg (by omega), if_neg (by omega), if_neg (by omega), if_pos h]
theorem vP (t : List UInt8) (n : Nat) (hL : n ≤ t.length) (h : aO (t.getD 0 0).toNat = n) (hn : 2 ≤ n) : cM t 0 = kV n (eJ t (n - 1) 1 ((t.getD 0 0).toNat % 2 ^ (7 - n))) := by
 unfold cM
 rw [h, if_neg (by omega), if_neg (by omega), if_neg (by omega), if_neg (by omega)]
theorem qg (n r : Nat) (h : (r : Int) < jG n ∨ ¬ (0 ≤ (r : Int) ∧ (r : Int) ≤ 1114111 ∧ ((r : Int) < 55296 ∨ 57343 < (r : Int)))) : kV n (some r) = (0, 0) := by
 rw [tz]
 by_cases a : (r : Int) < jG n
 . rw [if_pos a]
 . rw [if_neg a, if_neg (by rw [gQ]; omega)]
theorem vv (n r : Nat) (g : Int) (hg : (r : Int) = g) (h : ¬ (r : Int) < jG n) (k : 0 ≤ (r : Int) ∧ (r : Int) ≤ 1114111 ∧ ((r : Int) < 55296 ∨ 57343 < (r : Int))) : kV n (some r) = (g, n) := by
 rw [tz, if_neg h, if_pos ((gQ _).2 k), hg]
theorem Km (t : List UInt8) (hL : 0 < t.length) : cM t 0 = b8 t 0 := by
  have h0 : (t.getD 0 0).toNat < 256 := UInt8.toNat_lt _
  have h1 : (t.getD 1 0).toNat < 256 := UInt8.toNat_lt _
  have h2 : (t.getD 2 0).toNat < 256 := UInt8.toNat_lt _
  have h3 : (t.getD 3 0).toNat < 256 := UInt8.toNat_lt _
  have l2 : jG (2 : Nat) = 128 := rfl
  have l3 : jG (3 : Nat) = 2048 := rfl
  have l4 : jG (4 : Nat) = 65536 := rfl
  by_cases a1 : (t.getD 0 0).toNat < 128
  . have hu : aO (t.getD 0 0).toNat = 1 := by unfold aO; rw [if_pos a1]
    rw [Kk t hL hu]
    refine gN t hL _ (by unfold b7; rw [if_pos a1]) _ (fun h => ?_) (fun _ _ _ h => ?_) (fun q1 q2 q3 h => ?_)
    . rw [tx] at h; omega
    . rw [r8 _ 1 (by omega)]
    . rw [gY t _ (by omega) (by omega)] at h; omega
  by_cases a2 : (t.getD 0 0).toNat < 224
  . have hg : b7 t = if t.length ≤ 1 then -1 else 64 * (((t.getD 0 0).toNat : Int) - 192) + (t.getD 1 0).toNat - 128 := by
      unfold b7
      rw [if_neg a1, if_neg (by omega), if_neg (by omega)]
      simp only [dY]
    by_cases b1 : t.length ≤ 1
    . rw [if_pos b1] at hg
      have hz : cM t 0 = (0, 0) := qq t (by
       by_cases q : aO (t.getD 0 0).toNat = 0
       . exact .inl q
       . refine .inr ?_
         have : aO (t.getD 0 0).toNat = 0 ∨ aO (t.getD 0 0).toNat = 2 := by
          unfold aO; repeat' split
          all_goals omega
         omega)
      rw [hz]
      exact gN t hL _ hg _ (fun _ => rfl) (fun h => by omega) (fun h => by omega)
    . rw [if_neg b1] at hg
      by_cases a3 : (t.getD 0 0).toNat < 194
      . have hz : cM t 0 = (0, 0) := qq t (.inl (by unfold aO; rw [if_neg a1, if_pos a3]))
        rw [hz]
        refine gN t hL _ hg _ (fun _ => rfl) (fun q1 q2 q3 h => ?_) (fun _ _ _ _ => rfl)
        rw [gY t _ q1 q2] at h; omega
      . have hu : aO (t.getD 0 0).toNat = 2 := by unfold aO; rw [if_neg a1, if_neg a3, if_pos a2]
        rw [vP t 2 (by omega) hu (by omega)]
        simp only [eJ, show (1 : Nat) + 1 = 2 from rfl, show (2 : Nat) + 1 = 3 from rfl]
        by_cases c1 : cont (t.getD 1 0) = true
        . rw [if_pos c1]
          rw [gw] at c1
          refine gN t hL _ hg _ (fun h => qg _ _ (by rw [tx] at h; omega)) (fun q1 q2 q3 h => ?_) (fun q1 q2 q3 h => ?_)
          . rw [r8 _ 2 (by omega)]
            exact vv _ _ _ (by omega) (by rw [l2]; omega) (by omega)
          . exfalso; rw [gY t _ q1 q2] at h; omega
        . rw [if_neg c1, oV]
          rw [gw] at c1
          refine gN t hL _ hg _ (fun _ => rfl) (fun q1 q2 q3 h => ?_) (fun _ _ _ _ => rfl)
          rw [gY t _ q1 q2] at h; omega
  by_cases a4 : (t.getD 0 0).toNat < 240
  . have hg : b7 t = if t.length ≤ 1 then -1 else if t.length ≤ 2 then -1 else 64 * (64 * (((t.getD 0 0).toNat : Int) - 224) + (t.getD 1 0).toNat - 128) + (t.getD 2 0).toNat - 128 := by
      unfold b7
      rw [if_neg a1, if_neg (by omega), if_pos (by omega)]
      simp only [dY]
    have hu : aO (t.getD 0 0).toNat = 3 := by unfold aO; rw [if_neg a1, if_neg (by omega), if_neg a2, if_pos a4]
    by_cases b1 : t.length ≤ 2
    . have hg : b7 t = -1 := by
        rw [hg]; repeat' split
        all_goals rfl
      rw [qq t (.inr (by omega))]
      exact gN t hL _ hg _ (fun _ => rfl) (fun h => by omega) (fun h => by omega)
    . rw [if_neg (by omega), if_neg b1] at hg
      rw [vP t 3 (by omega) hu (by omega)]
      simp only [eJ, show (1 : Nat) + 1 = 2 from rfl, show (2 : Nat) + 1 = 3 from rfl]
      by_cases c1 : cont (t.getD 1 0) = true
      . rw [if_pos c1]
        rw [gw] at c1
        by_cases c2 : cont (t.getD 2 0) = true
        . rw [if_pos c2]
          rw [gw] at c2
          refine gN t hL _ hg _ (fun h => qg _ _ (by rw [tx] at h; omega)) (fun q1 q2 q3 h => ?_) (fun q1 q2 q3 h => qg _ _ ?_)
          . rw [gQ] at q3
            rw [gY t _ q1 q2] at h
            rw [r8 _ 3 (by omega)]
            exact vv _ _ _ (by omega) (by rw [l3]; omega) (by omega)
          . rw [gY t _ q1 q2] at h; rw [l3]; omega
        . rw [if_neg c2, oV]
          rw [gw] at c2
          refine gN t hL _ hg _ (fun _ => rfl) (fun q1 q2 q3 h => ?_) (fun _ _ _ _ => rfl)
          rw [gY t _ q1 q2] at h; omega
      . rw [if_neg c1, oV]
        rw [gw] at c1
        refine gN t hL _ hg _ (fun _ => rfl) (fun q1 q2 q3 h => ?_) (fun _ _ _ _ => rfl)
        rw [gY t _ q1 q2] at h; omega
  have hg : b7 t = if t.length ≤ 1 then -1 else if t.length ≤ 2 then -1 else if t.length ≤ 3 then -1 else 64 * (64 * (64 * (((t.getD 0 0).toNat : Int) - 240) + (t.getD 1 0).toNat - 128) + (t.getD 2 0).toNat - 128) + (t.getD 3 0).toNat - 128 := by
   unfold b7
   rw [if_neg a1, if_pos (by omega)]
   simp only [dY]
  by_cases b1 : t.length ≤ 3
  . have hg : b7 t = -1 := by
      rw [hg]; repeat' split
      all_goals rfl
    have hz : cM t 0 = (0, 0) := qq t (by
     have : aO (t.getD 0 0).toNat = 0 ∨ aO (t.getD 0 0).toNat = 4 := by
      unfold aO; repeat' split
      all_goals omega
     omega)
    rw [hz]
    exact gN t hL _ hg _ (fun _ => rfl) (fun h => by omega) (fun h => by omega)
  rw [if_neg (by omega), if_neg (by omega), if_neg b1] at hg
  by_cases a5 : (t.getD 0 0).toNat < 245
  . have hu : aO (t.getD 0 0).toNat = 4 := by unfold aO; rw [if_neg a1, if_neg (by omega), if_neg a2, if_neg a4, if_pos a5]
    rw [vP t 4 (by omega) hu (by omega)]
    simp only [eJ, show (1 : Nat) + 1 = 2 from rfl, show (2 : Nat) + 1 = 3 from rfl]
    by_cases c1 : cont (t.getD 1 0) = true
    . rw [if_pos c1]
      rw [gw] at c1
      by_cases c2 : cont (t.getD 2 0) = true
      . rw [if_pos c2]
        rw [gw] at c2
        by_cases c3 : cont (t.getD 3 0) = true
        . rw [if_pos c3]
          rw [gw] at c3
          refine gN t hL _ hg _ (fun h => qg _ _ (by rw [tx] at h; omega)) (fun q1 q2 q3 h => ?_) (fun q1 q2 q3 h => qg _ _ ?_)
          . rw [gQ] at q3
            rw [gY t _ q1 q2] at h
            rw [r8 _ 4 (by omega)]
            exact vv _ _ _ (by omega) (by rw [l4]; omega) (by omega)
          . rw [gY t _ q1 q2] at h; rw [l4]; omega
        . rw [if_neg c3, oV]
          rw [gw] at c3
          refine gN t hL _ hg _ (fun _ => rfl) (fun q1 q2 q3 h => ?_) (fun _ _ _ _ => rfl)
          rw [gY t _ q1 q2] at h; omega
      . rw [if_neg c2, oV]
        rw [gw] at c2
        refine gN t hL _ hg _ (fun _ => rfl) (fun q1 q2 q3 h => ?_) (fun _ _ _ _ => rfl)
        rw [gY t _ q1 q2] at h; omega
    . rw [if_neg c1, oV]
      rw [gw] at c1
      refine gN t hL _ hg _ (fun _ => rfl) (fun q1 q2 q3 h => ?_) (fun _ _ _ _ => rfl)
      rw [gY t _ q1 q2] at h; omega
  . have hz : cM t 0 = (0, 0) := qq t (.inl (by unfold aO; rw [if_neg a1, if_neg (by omega), if_neg a2, if_neg a4, if_neg a5]))
    rw [hz]
    refine gN t hL _ hg _ (fun _ => rfl) (fun q1 q2 q3 h => ?_) (fun _ _ _ _ => rfl)
    rw [gY t _ q1 q2] at h; omega
theorem kd (s : List UInt8) (i : Nat) : cM s i = b8 s i := by
 rw [sD, Kl]
 by_cases h : s.length ≤ i
 . rw [if_pos h, if_pos h]
 . rw [if_neg h, if_neg h]
   exact Km _ (by rw [List.length_drop]; omega)
end Go.Proofs.YtllncocibkgjkaaGreat
