/-
  A part of the proof.
-/
import Derived.Test.YtllncocibkgjkaaUTF
set_option linter.unusedSimpArgs false
set_option linter.unusedVariables false
set_option maxHeartbeats 4000000
namespace Go.Proofs.Ytllncocibkgjkaa
open Go Go.VG
set_option maxRecDepth 100000
theorem Br {n : Int} {b : UInt8} (h : 0 ≤ n ∧ n ≤ 255) : byte n = b ↔ n = b.toNat := by
 constructor
 . intro e; rw [← e, mB h]
 . intro e; rw [e, cF]
theorem rn (s : List UInt8) (i : Nat) : aW s i = if s.length ≤ i then (0, 0) else aW (s.drop i) 0 := by
 by_cases h : s.length ≤ i
 . rw [if_pos h]; unfold aW; rw [if_pos h]
 . rw [if_neg h]; unfold aW
   rw [if_neg h, if_neg (show ¬ (s.drop i).length ≤ 0 by rw [List.length_drop]; omega), List.drop_zero]
theorem AL (s : List UInt8) (i : Nat) : ∀ r j a, dM s r (i + j) a = dM (s.drop i) r j a
 | 0, _, _ => rfl
 | r + 1, j, a => by
   simp only [dM]
   rw [show (s.drop i).getD j 0 = s.getD (i + j) 0 by simp [List.getD_eq_getElem?_getD, List.getElem?_drop], ← AL s i r (j + 1), show i + j + 1 = i + (j + 1) by omega]
theorem Hh (s : List UInt8) (i : Nat) : cf s i = if s.length ≤ i then (0, 0) else cf (s.drop i) 0 := by
 have e : (s.drop i).getD 0 0 = s.getD i 0 := by simp [List.getD_eq_getElem?_getD, List.getElem?_drop]
 by_cases h : s.length ≤ i
 . rw [if_pos h]; unfold cf; rw [if_pos h]
 . rw [if_neg h]; unfold cf
   rw [if_neg h, if_neg (show ¬ (s.drop i).length ≤ 0 by rw [List.length_drop]; omega), e, ← AL s i _ (0 + 1)]
   have hl : (s.drop i).length < aK (s.getD i 0).toNat ↔ s.length < i + aK (s.getD i 0).toNat := by rw [List.length_drop]; omega
   simp only [Nat.zero_add, hl]
theorem mZ {t : List UInt8} {n k : Nat} (h : k < n) : (t.take n).getD k 0 = t.getD k 0 := by
 simp [List.getD_eq_getElem?_getD, List.getElem?_take, h]
theorem take1 (t : List UInt8) (x : UInt8) : t.take 1 = [x] ↔ 1 ≤ t.length ∧ t.getD 0 0 = x := by
 match t with
 | [] => simp
 | a :: _ => simp
theorem take2 (t : List UInt8) (x y : UInt8) : t.take 2 = [x, y] ↔ 2 ≤ t.length ∧ t.getD 0 0 = x ∧ t.getD 1 0 = y := by
 match t with
 | [] => simp
 | [a] => simp
 | a :: b :: _ => simp
theorem take3 (t : List UInt8) (x y z : UInt8) : t.take 3 = [x, y, z] ↔ 3 ≤ t.length ∧ t.getD 0 0 = x ∧ t.getD 1 0 = y ∧ t.getD 2 0 = z := by
 match t with
 | [] => simp
 | [a] => simp
 | [a, b] => simp
 | a :: b :: c :: _ => simp
theorem take4 (t : List UInt8) (x y z u : UInt8) : t.take 4 = [x, y, z, u] ↔ 4 ≤ t.length ∧ t.getD 0 0 = x ∧ t.getD 1 0 = y ∧ t.getD 2 0 = z ∧ t.getD 3 0 = u := by
 match t with
 | [] => simp
 | [a] => simp
 | [a, b] => simp
 | [a, b, c] => simp
 | a :: b :: c :: d :: _ => simp
theorem j0 {n : Int} {b : UInt8} (h : 0 ≤ n ∧ n ≤ 255) : b = byte n ↔ (b.toNat : Int) = n := by
 rw [eq_comm, Br h, eq_comm]
theorem gb (t : List UInt8) (g : Int) (h0 : 0 ≤ g) (h1 : g ≤ 1114111) : t.take (bI g).length = bI g ↔
   (g < 128 ∧ 1 ≤ t.length ∧ ((t.getD 0 0).toNat : Int) = g) ∨
   (128 ≤ g ∧ g < 2048 ∧ 2 ≤ t.length ∧ ((t.getD 0 0).toNat : Int) = 192 + g / 64 ∧ ((t.getD 1 0).toNat : Int) = 128 + g % 64) ∨
   (2048 ≤ g ∧ g < 65536 ∧ 3 ≤ t.length ∧ ((t.getD 0 0).toNat : Int) = 224 + g / 4096 ∧ ((t.getD 1 0).toNat : Int) = 128 + g / 64 % 64 ∧ ((t.getD 2 0).toNat : Int) = 128 + g % 64) ∨
   (65536 ≤ g ∧ 4 ≤ t.length ∧ ((t.getD 0 0).toNat : Int) = 240 + g / 262144 ∧ ((t.getD 1 0).toNat : Int) = 128 + g / 4096 % 64 ∧ ((t.getD 2 0).toNat : Int) = 128 + g / 64 % 64 ∧ ((t.getD 3 0).toNat : Int) = 128 + g % 64) := by
 unfold bI
 by_cases a : g < 128
 . rw [if_pos a]
   show t.take 1 = _ ↔ _
   rw [take1, j0 (by omega)]; omega
 by_cases b : g < 2048
 . rw [if_neg a, if_pos b]
   show t.take 2 = _ ↔ _
   rw [take2, j0 (by omega), j0 (by omega)]; omega
 by_cases c : g < 65536
 . rw [if_neg a, if_neg b, if_pos c]
   show t.take 3 = _ ↔ _
   rw [take3, j0 (by omega), j0 (by omega), j0 (by omega)]; omega
 . rw [if_neg a, if_neg b, if_neg c]
   show t.take 4 = _ ↔ _
   rw [take4, j0 (by omega), j0 (by omega), j0 (by omega), j0 (by omega)]; omega
theorem Bs (g : Int) : (bI g).length = if g < 128 then 1 else if g < 2048 then 2 else if g < 65536 then 3 else 4 := by
 unfold bI; repeat' split
 all_goals rfl
theorem fT (t : List UInt8) (hL : 0 < t.length) (g : Int) (hg : eJ t = g) (r : Int × Nat)
   (h1 : (g < 0 ∨ 1114111 < g ∨ cT g = false) → r = (0, 0))
   (h2 : 0 ≤ g → g ≤ 1114111 → cT g = true → t.take (bI g).length = bI g → r = (g, (bI g).length))
   (h3 : 0 ≤ g → g ≤ 1114111 → cT g = true → ¬ t.take (bI g).length = bI g → r = (0, 0)) : r = aW t 0 := by
 unfold aW
 rw [List.drop_zero, hg, if_neg (by omega)]
 by_cases a : g < 0 ∨ 1114111 < g ∨ cT g = false
 . rw [if_pos a]; exact h1 a
 . rw [if_neg a]
   have b : 0 ≤ g ∧ g ≤ 1114111 ∧ cT g = true := by
    refine ⟨by omega, by omega, ?_⟩
    cases h : cT g with
    | true => rfl
    | false => exact absurd (.inr (.inr h)) a
   by_cases c : t.take (bI g).length = bI g
   . rw [if_pos c]; exact h2 b.1 b.2.1 b.2.2 c
   . rw [if_neg c]; exact h3 b.1 b.2.1 b.2.2 c
theorem gL (g : Int) : cT g = true ↔ (0 ≤ g ∧ g ≤ 1114111 ∧ (g < 55296 ∨ 57343 < g)) := by unfold cT; rw [decide_eq_true_eq]
theorem rU (g : Int) : cT g = false ↔ ¬ (0 ≤ g ∧ g ≤ 1114111 ∧ (g < 55296 ∨ 57343 < g)) := by unfold cT; rw [decide_eq_false_iff_not]
theorem ff (b : UInt8) : cont b = true ↔ 128 ≤ b.toNat ∧ b.toNat < 192 := by unfold cont; rw [decide_eq_true_eq]
theorem nM (n : Nat) : jS n none = (0, 0) := rfl
theorem qd (g : Int) (n : Nat) (h : (n = 1 ∧ g < 128) ∨ (n = 2 ∧ 128 ≤ g ∧ g < 2048) ∨ (n = 3 ∧ 2048 ≤ g ∧ g < 65536) ∨ (n = 4 ∧ 65536 ≤ g)) : (bI g).length = n := by
 rw [Bs]
 repeat' split
 all_goals omega
theorem pr (t : List UInt8) (h : aK (t.getD 0 0).toNat = 0 ∨ t.length < aK (t.getD 0 0).toNat) : cf t 0 = (0, 0) := by
 unfold cf
 repeat' split
 all_goals first | rfl | (exfalso; omega)
theorem Hg (t : List UInt8) (hL : 0 < t.length) (h : aK (t.getD 0 0).toNat = 1) : cf t 0 = (((t.getD 0 0).toNat : Int), 1) := by
 unfold cf
 rw [if_neg (by omega), if_neg (by omega), if_neg (by omega), if_pos h]
theorem uv (t : List UInt8) (n : Nat) (hL : n ≤ t.length) (h : aK (t.getD 0 0).toNat = n) (hn : 2 ≤ n) : cf t 0 = jS n (dM t (n - 1) 1 ((t.getD 0 0).toNat % 2 ^ (7 - n))) := by
 unfold cf
 rw [h, if_neg (by omega), if_neg (by omega), if_neg (by omega), if_neg (by omega)]
theorem pc (n r : Nat) (h : (r : Int) < iW n ∨ ¬ (0 ≤ (r : Int) ∧ (r : Int) ≤ 1114111 ∧ ((r : Int) < 55296 ∨ 57343 < (r : Int)))) : jS n (some r) = (0, 0) := by
 rw [rV]
 by_cases a : (r : Int) < iW n
 . rw [if_pos a]
 . rw [if_neg a, if_neg (by rw [gL]; omega)]
theorem u6 (n r : Nat) (g : Int) (hg : (r : Int) = g) (h : ¬ (r : Int) < iW n) (k : 0 ≤ (r : Int) ∧ (r : Int) ≤ 1114111 ∧ ((r : Int) < 55296 ∨ 57343 < (r : Int))) : jS n (some r) = (g, n) := by
 rw [rV, if_neg h, if_pos ((gL _).2 k), hg]
theorem Hi (t : List UInt8) (hL : 0 < t.length) : cf t 0 = aW t 0 := by
  have h0 : (t.getD 0 0).toNat < 256 := UInt8.toNat_lt _
  have h1 : (t.getD 1 0).toNat < 256 := UInt8.toNat_lt _
  have h2 : (t.getD 2 0).toNat < 256 := UInt8.toNat_lt _
  have h3 : (t.getD 3 0).toNat < 256 := UInt8.toNat_lt _
  have l2 : iW (2 : Nat) = 128 := rfl
  have l3 : iW (3 : Nat) = 2048 := rfl
  have l4 : iW (4 : Nat) = 65536 := rfl
  by_cases a1 : (t.getD 0 0).toNat < 128
  . have hu : aK (t.getD 0 0).toNat = 1 := by unfold aK; rw [if_pos a1]
    rw [Hg t hL hu]
    refine fT t hL _ (by unfold eJ; rw [if_pos a1]) _ (fun h => ?_) (fun _ _ _ h => ?_) (fun q1 q2 q3 h => ?_)
    . rw [rU] at h; omega
    . rw [qd _ 1 (by omega)]
    . rw [gb t _ (by omega) (by omega)] at h; omega
  by_cases a2 : (t.getD 0 0).toNat < 224
  . have hg : eJ t = if t.length ≤ 1 then -1 else 64 * (((t.getD 0 0).toNat : Int) - 192) + (t.getD 1 0).toNat - 128 := by
      unfold eJ
      rw [if_neg a1, if_neg (by omega), if_neg (by omega)]
      simp only [mf]
    by_cases b1 : t.length ≤ 1
    . rw [if_pos b1] at hg
      have hz : cf t 0 = (0, 0) := pr t (by
       by_cases q : aK (t.getD 0 0).toNat = 0
       . exact .inl q
       . refine .inr ?_
         have : aK (t.getD 0 0).toNat = 0 ∨ aK (t.getD 0 0).toNat = 2 := by
          unfold aK; repeat' split
          all_goals omega
         omega)
      rw [hz]
      exact fT t hL _ hg _ (fun _ => rfl) (fun h => by omega) (fun h => by omega)
    . rw [if_neg b1] at hg
      by_cases a3 : (t.getD 0 0).toNat < 194
      . have hz : cf t 0 = (0, 0) := pr t (.inl (by unfold aK; rw [if_neg a1, if_pos a3]))
        rw [hz]
        refine fT t hL _ hg _ (fun _ => rfl) (fun q1 q2 q3 h => ?_) (fun _ _ _ _ => rfl)
        rw [gb t _ q1 q2] at h; omega
      . have hu : aK (t.getD 0 0).toNat = 2 := by unfold aK; rw [if_neg a1, if_neg a3, if_pos a2]
        rw [uv t 2 (by omega) hu (by omega)]
        simp only [dM, show (1 : Nat) + 1 = 2 from rfl, show (2 : Nat) + 1 = 3 from rfl]
        by_cases c1 : cont (t.getD 1 0) = true
        . rw [if_pos c1]
          rw [ff] at c1
          refine fT t hL _ hg _ (fun h => pc _ _ (by rw [rU] at h; omega)) (fun q1 q2 q3 h => ?_) (fun q1 q2 q3 h => ?_)
          . rw [qd _ 2 (by omega)]
            exact u6 _ _ _ (by omega) (by rw [l2]; omega) (by omega)
          . exfalso; rw [gb t _ q1 q2] at h; omega
        . rw [if_neg c1, nM]
          rw [ff] at c1
          refine fT t hL _ hg _ (fun _ => rfl) (fun q1 q2 q3 h => ?_) (fun _ _ _ _ => rfl)
          rw [gb t _ q1 q2] at h; omega
  by_cases a4 : (t.getD 0 0).toNat < 240
  . have hg : eJ t = if t.length ≤ 1 then -1 else if t.length ≤ 2 then -1 else 64 * (64 * (((t.getD 0 0).toNat : Int) - 224) + (t.getD 1 0).toNat - 128) + (t.getD 2 0).toNat - 128 := by
      unfold eJ
      rw [if_neg a1, if_neg (by omega), if_pos (by omega)]
      simp only [mf]
    have hu : aK (t.getD 0 0).toNat = 3 := by unfold aK; rw [if_neg a1, if_neg (by omega), if_neg a2, if_pos a4]
    by_cases b1 : t.length ≤ 2
    . have hg : eJ t = -1 := by
        rw [hg]; repeat' split
        all_goals rfl
      rw [pr t (.inr (by omega))]
      exact fT t hL _ hg _ (fun _ => rfl) (fun h => by omega) (fun h => by omega)
    . rw [if_neg (by omega), if_neg b1] at hg
      rw [uv t 3 (by omega) hu (by omega)]
      simp only [dM, show (1 : Nat) + 1 = 2 from rfl, show (2 : Nat) + 1 = 3 from rfl]
      by_cases c1 : cont (t.getD 1 0) = true
      . rw [if_pos c1]
        rw [ff] at c1
        by_cases c2 : cont (t.getD 2 0) = true
        . rw [if_pos c2]
          rw [ff] at c2
          refine fT t hL _ hg _ (fun h => pc _ _ (by rw [rU] at h; omega)) (fun q1 q2 q3 h => ?_) (fun q1 q2 q3 h => pc _ _ ?_)
          . rw [gL] at q3
            rw [gb t _ q1 q2] at h
            rw [qd _ 3 (by omega)]
            exact u6 _ _ _ (by omega) (by rw [l3]; omega) (by omega)
          . rw [gb t _ q1 q2] at h; rw [l3]; omega
        . rw [if_neg c2, nM]
          rw [ff] at c2
          refine fT t hL _ hg _ (fun _ => rfl) (fun q1 q2 q3 h => ?_) (fun _ _ _ _ => rfl)
          rw [gb t _ q1 q2] at h; omega
      . rw [if_neg c1, nM]
        rw [ff] at c1
        refine fT t hL _ hg _ (fun _ => rfl) (fun q1 q2 q3 h => ?_) (fun _ _ _ _ => rfl)
        rw [gb t _ q1 q2] at h; omega
  have hg : eJ t = if t.length ≤ 1 then -1 else if t.length ≤ 2 then -1 else if t.length ≤ 3 then -1 else 64 * (64 * (64 * (((t.getD 0 0).toNat : Int) - 240) + (t.getD 1 0).toNat - 128) + (t.getD 2 0).toNat - 128) + (t.getD 3 0).toNat - 128 := by
   unfold eJ
   rw [if_neg a1, if_pos (by omega)]
   simp only [mf]
  by_cases b1 : t.length ≤ 3
  . have hg : eJ t = -1 := by
      rw [hg]; repeat' split
      all_goals rfl
    have hz : cf t 0 = (0, 0) := pr t (by
     have : aK (t.getD 0 0).toNat = 0 ∨ aK (t.getD 0 0).toNat = 4 := by
      unfold aK; repeat' split
      all_goals omega
     omega)
    rw [hz]
    exact fT t hL _ hg _ (fun _ => rfl) (fun h => by omega) (fun h => by omega)
  rw [if_neg (by omega), if_neg (by omega), if_neg b1] at hg
  by_cases a5 : (t.getD 0 0).toNat < 245
  . have hu : aK (t.getD 0 0).toNat = 4 := by unfold aK; rw [if_neg a1, if_neg (by omega), if_neg a2, if_neg a4, if_pos a5]
    rw [uv t 4 (by omega) hu (by omega)]
    simp only [dM, show (1 : Nat) + 1 = 2 from rfl, show (2 : Nat) + 1 = 3 from rfl]
    by_cases c1 : cont (t.getD 1 0) = true
    . rw [if_pos c1]
      rw [ff] at c1
      by_cases c2 : cont (t.getD 2 0) = true
      . rw [if_pos c2]
        rw [ff] at c2
        by_cases c3 : cont (t.getD 3 0) = true
        . rw [if_pos c3]
          rw [ff] at c3
          refine fT t hL _ hg _ (fun h => pc _ _ (by rw [rU] at h; omega)) (fun q1 q2 q3 h => ?_) (fun q1 q2 q3 h => pc _ _ ?_)
          . rw [gL] at q3
            rw [gb t _ q1 q2] at h
            rw [qd _ 4 (by omega)]
            exact u6 _ _ _ (by omega) (by rw [l4]; omega) (by omega)
          . rw [gb t _ q1 q2] at h; rw [l4]; omega
        . rw [if_neg c3, nM]
          rw [ff] at c3
          refine fT t hL _ hg _ (fun _ => rfl) (fun q1 q2 q3 h => ?_) (fun _ _ _ _ => rfl)
          rw [gb t _ q1 q2] at h; omega
      . rw [if_neg c2, nM]
        rw [ff] at c2
        refine fT t hL _ hg _ (fun _ => rfl) (fun q1 q2 q3 h => ?_) (fun _ _ _ _ => rfl)
        rw [gb t _ q1 q2] at h; omega
    . rw [if_neg c1, nM]
      rw [ff] at c1
      refine fT t hL _ hg _ (fun _ => rfl) (fun q1 q2 q3 h => ?_) (fun _ _ _ _ => rfl)
      rw [gb t _ q1 q2] at h; omega
  . have hz : cf t 0 = (0, 0) := pr t (.inl (by unfold aK; rw [if_neg a1, if_neg (by omega), if_neg a2, if_neg a4, if_neg a5]))
    rw [hz]
    refine fT t hL _ hg _ (fun _ => rfl) (fun q1 q2 q3 h => ?_) (fun _ _ _ _ => rfl)
    rw [gb t _ q1 q2] at h; omega
theorem ji (s : List UInt8) (i : Nat) : cf s i = aW s i := by
 rw [rn, Hh]
 by_cases h : s.length ≤ i
 . rw [if_pos h, if_pos h]
 . rw [if_neg h, if_neg h]
   exact Hi _ (by rw [List.length_drop]; omega)
end Go.Proofs.Ytllncocibkgjkaa
