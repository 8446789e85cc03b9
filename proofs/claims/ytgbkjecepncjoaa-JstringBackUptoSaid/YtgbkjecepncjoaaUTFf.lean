/-
  Characters: the program's are the document's (plain law, its end).
-/
import Derived.Test.YtgbkjecepncjoaaUTFe
set_option linter.unusedSimpArgs false
set_option linter.unusedVariables false
set_option maxHeartbeats 4000000
namespace Go.Proofs.Ytgbkjecepncjoaa
open Go Go.VG
set_option maxRecDepth 100000
theorem uIs_t (g : Int) : uIs g = true ↔ (0 ≤ g ∧ g ≤ 1114111 ∧ (g < 55296 ∨ 57343 < g)) := by unfold uIs; rw [decide_eq_true_eq]
theorem uIs_f (g : Int) : uIs g = false ↔ ¬ (0 ≤ g ∧ g ≤ 1114111 ∧ (g < 55296 ∨ 57343 < g)) := by unfold uIs; rw [decide_eq_false_iff_not]
theorem cont_t (b : UInt8) : cont b = true ↔ 128 ≤ b.toNat ∧ b.toNat < 192 := by unfold cont; rw [decide_eq_true_eq]
theorem uOut_none (n : Nat) : uOut n none = (0, 0) := rfl
theorem bytes_len (g : Int) (n : Nat) (h : (n = 1 ∧ g < 128) ∨ (n = 2 ∧ 128 ≤ g ∧ g < 2048) ∨ (n = 3 ∧ 2048 ≤ g ∧ g < 65536) ∨ (n = 4 ∧ 65536 ≤ g)) : (uBytes g).length = n := by
  rw [bytes_size]
  repeat' split
  all_goals omega
theorem runeP_0 (t : List UInt8) (h : uLen (t.getD 0 0).toNat = 0 ∨ t.length < uLen (t.getD 0 0).toNat) : uRuneP t 0 = (0, 0) := by
  unfold uRuneP
  repeat' split
  all_goals first | rfl | (exfalso; omega)
theorem runeP_1 (t : List UInt8) (hL : 0 < t.length) (h : uLen (t.getD 0 0).toNat = 1) : uRuneP t 0 = (((t.getD 0 0).toNat : Int), 1) := by
  unfold uRuneP
  rw [if_neg (by omega), if_neg (by omega), if_neg (by omega), if_pos h]
theorem runeP_n (t : List UInt8) (n : Nat) (hL : n ≤ t.length) (h : uLen (t.getD 0 0).toNat = n) (hn : 2 ≤ n) : uRuneP t 0 = uOut n (uGoP t (n - 1) 1 ((t.getD 0 0).toNat % 2 ^ (7 - n))) := by
  unfold uRuneP
  rw [h, if_neg (by omega), if_neg (by omega), if_neg (by omega), if_neg (by omega)]
theorem out_bad (n r : Nat) (h : (r : Int) < uLeast n ∨ ¬ (0 ≤ (r : Int) ∧ (r : Int) ≤ 1114111 ∧ ((r : Int) < 55296 ∨ 57343 < (r : Int)))) : uOut n (some r) = (0, 0) := by
  rw [uOut_some]
  by_cases a : (r : Int) < uLeast n
  · rw [if_pos a]
  · rw [if_neg a, if_neg (by rw [uIs_t]; omega)]
theorem out_ok (n r : Nat) (g : Int) (hg : (r : Int) = g) (h : ¬ (r : Int) < uLeast n) (k : 0 ≤ (r : Int) ∧ (r : Int) ≤ 1114111 ∧ ((r : Int) < 55296 ∨ 57343 < (r : Int))) : uOut n (some r) = (g, n) := by
  rw [uOut_some, if_neg h, if_pos ((uIs_t _).2 k), hg]
theorem rune_eq0 (t : List UInt8) (hL : 0 < t.length) : uRuneP t 0 = uRune t 0 := by
  have h0 : (t.getD 0 0).toNat < 256 := UInt8.toNat_lt _
  have h1 : (t.getD 1 0).toNat < 256 := UInt8.toNat_lt _
  have h2 : (t.getD 2 0).toNat < 256 := UInt8.toNat_lt _
  have h3 : (t.getD 3 0).toNat < 256 := UInt8.toNat_lt _
  have l2 : uLeast (2 : Nat) = 128 := rfl
  have l3 : uLeast (3 : Nat) = 2048 := rfl
  have l4 : uLeast (4 : Nat) = 65536 := rfl
  by_cases a1 : (t.getD 0 0).toNat < 128
  · have hu : uLen (t.getD 0 0).toNat = 1 := by unfold uLen; rw [if_pos a1]
    rw [runeP_1 t hL hu]
    refine rune_by t hL _ (by unfold uGuess; rw [if_pos a1]) _ (fun h => ?_) (fun _ _ _ h => ?_) (fun q1 q2 q3 h => ?_)
    · rw [uIs_f] at h; omega
    · rw [bytes_len _ 1 (by omega)]
    · rw [bytes_key t _ (by omega) (by omega)] at h; omega
  by_cases a2 : (t.getD 0 0).toNat < 224
  · have hg : uGuess t = if t.length ≤ 1 then -1 else 64 * (((t.getD 0 0).toNat : Int) - 192) + (t.getD 1 0).toNat - 128 := by
      unfold uGuess
      rw [if_neg a1, if_neg (by omega), if_neg (by omega)]
      simp only [uGo]
    by_cases b1 : t.length ≤ 1
    · rw [if_pos b1] at hg
      have hz : uRuneP t 0 = (0, 0) := runeP_0 t (by
        by_cases q : uLen (t.getD 0 0).toNat = 0
        · exact .inl q
        · refine .inr ?_
          have : uLen (t.getD 0 0).toNat = 0 ∨ uLen (t.getD 0 0).toNat = 2 := by
            unfold uLen; repeat' split
            all_goals omega
          omega)
      rw [hz]
      exact rune_by t hL _ hg _ (fun _ => rfl) (fun h => by omega) (fun h => by omega)
    · rw [if_neg b1] at hg
      by_cases a3 : (t.getD 0 0).toNat < 194
      · have hz : uRuneP t 0 = (0, 0) := runeP_0 t (.inl (by unfold uLen; rw [if_neg a1, if_pos a3]))
        rw [hz]
        refine rune_by t hL _ hg _ (fun _ => rfl) (fun q1 q2 q3 h => ?_) (fun _ _ _ _ => rfl)
        rw [bytes_key t _ q1 q2] at h; omega
      · have hu : uLen (t.getD 0 0).toNat = 2 := by unfold uLen; rw [if_neg a1, if_neg a3, if_pos a2]
        rw [runeP_n t 2 (by omega) hu (by omega)]
        simp only [uGoP, show (1 : Nat) + 1 = 2 from rfl, show (2 : Nat) + 1 = 3 from rfl]
        by_cases c1 : cont (t.getD 1 0) = true
        · rw [if_pos c1]
          rw [cont_t] at c1
          refine rune_by t hL _ hg _ (fun h => out_bad _ _ (by rw [uIs_f] at h; omega)) (fun q1 q2 q3 h => ?_) (fun q1 q2 q3 h => ?_)
          · rw [bytes_len _ 2 (by omega)]
            exact out_ok _ _ _ (by omega) (by rw [l2]; omega) (by omega)
          · exfalso; rw [bytes_key t _ q1 q2] at h; omega
        · rw [if_neg c1, uOut_none]
          rw [cont_t] at c1
          refine rune_by t hL _ hg _ (fun _ => rfl) (fun q1 q2 q3 h => ?_) (fun _ _ _ _ => rfl)
          rw [bytes_key t _ q1 q2] at h; omega
  by_cases a4 : (t.getD 0 0).toNat < 240
  · have hg : uGuess t = if t.length ≤ 1 then -1 else if t.length ≤ 2 then -1 else 64 * (64 * (((t.getD 0 0).toNat : Int) - 224) + (t.getD 1 0).toNat - 128) + (t.getD 2 0).toNat - 128 := by
      unfold uGuess
      rw [if_neg a1, if_neg (by omega), if_pos (by omega)]
      simp only [uGo]
    have hu : uLen (t.getD 0 0).toNat = 3 := by unfold uLen; rw [if_neg a1, if_neg (by omega), if_neg a2, if_pos a4]
    by_cases b1 : t.length ≤ 2
    · have hg : uGuess t = -1 := by
        rw [hg]; repeat' split
        all_goals rfl
      rw [runeP_0 t (.inr (by omega))]
      exact rune_by t hL _ hg _ (fun _ => rfl) (fun h => by omega) (fun h => by omega)
    · rw [if_neg (by omega), if_neg b1] at hg
      rw [runeP_n t 3 (by omega) hu (by omega)]
      simp only [uGoP, show (1 : Nat) + 1 = 2 from rfl, show (2 : Nat) + 1 = 3 from rfl]
      by_cases c1 : cont (t.getD 1 0) = true
      · rw [if_pos c1]
        rw [cont_t] at c1
        by_cases c2 : cont (t.getD 2 0) = true
        · rw [if_pos c2]
          rw [cont_t] at c2
          refine rune_by t hL _ hg _ (fun h => out_bad _ _ (by rw [uIs_f] at h; omega)) (fun q1 q2 q3 h => ?_) (fun q1 q2 q3 h => out_bad _ _ ?_)
          · rw [uIs_t] at q3
            rw [bytes_key t _ q1 q2] at h
            rw [bytes_len _ 3 (by omega)]
            exact out_ok _ _ _ (by omega) (by rw [l3]; omega) (by omega)
          · rw [bytes_key t _ q1 q2] at h; rw [l3]; omega
        · rw [if_neg c2, uOut_none]
          rw [cont_t] at c2
          refine rune_by t hL _ hg _ (fun _ => rfl) (fun q1 q2 q3 h => ?_) (fun _ _ _ _ => rfl)
          rw [bytes_key t _ q1 q2] at h; omega
      · rw [if_neg c1, uOut_none]
        rw [cont_t] at c1
        refine rune_by t hL _ hg _ (fun _ => rfl) (fun q1 q2 q3 h => ?_) (fun _ _ _ _ => rfl)
        rw [bytes_key t _ q1 q2] at h; omega
  have hg : uGuess t = if t.length ≤ 1 then -1 else if t.length ≤ 2 then -1 else if t.length ≤ 3 then -1 else 64 * (64 * (64 * (((t.getD 0 0).toNat : Int) - 240) + (t.getD 1 0).toNat - 128) + (t.getD 2 0).toNat - 128) + (t.getD 3 0).toNat - 128 := by
    unfold uGuess
    rw [if_neg a1, if_pos (by omega)]
    simp only [uGo]
  by_cases b1 : t.length ≤ 3
  · have hg : uGuess t = -1 := by
      rw [hg]; repeat' split
      all_goals rfl
    have hz : uRuneP t 0 = (0, 0) := runeP_0 t (by
      have : uLen (t.getD 0 0).toNat = 0 ∨ uLen (t.getD 0 0).toNat = 4 := by
        unfold uLen; repeat' split
        all_goals omega
      omega)
    rw [hz]
    exact rune_by t hL _ hg _ (fun _ => rfl) (fun h => by omega) (fun h => by omega)
  rw [if_neg (by omega), if_neg (by omega), if_neg b1] at hg
  by_cases a5 : (t.getD 0 0).toNat < 245
  · have hu : uLen (t.getD 0 0).toNat = 4 := by unfold uLen; rw [if_neg a1, if_neg (by omega), if_neg a2, if_neg a4, if_pos a5]
    rw [runeP_n t 4 (by omega) hu (by omega)]
    simp only [uGoP, show (1 : Nat) + 1 = 2 from rfl, show (2 : Nat) + 1 = 3 from rfl]
    by_cases c1 : cont (t.getD 1 0) = true
    · rw [if_pos c1]
      rw [cont_t] at c1
      by_cases c2 : cont (t.getD 2 0) = true
      · rw [if_pos c2]
        rw [cont_t] at c2
        by_cases c3 : cont (t.getD 3 0) = true
        · rw [if_pos c3]
          rw [cont_t] at c3
          refine rune_by t hL _ hg _ (fun h => out_bad _ _ (by rw [uIs_f] at h; omega)) (fun q1 q2 q3 h => ?_) (fun q1 q2 q3 h => out_bad _ _ ?_)
          · rw [uIs_t] at q3
            rw [bytes_key t _ q1 q2] at h
            rw [bytes_len _ 4 (by omega)]
            exact out_ok _ _ _ (by omega) (by rw [l4]; omega) (by omega)
          · rw [bytes_key t _ q1 q2] at h; rw [l4]; omega
        · rw [if_neg c3, uOut_none]
          rw [cont_t] at c3
          refine rune_by t hL _ hg _ (fun _ => rfl) (fun q1 q2 q3 h => ?_) (fun _ _ _ _ => rfl)
          rw [bytes_key t _ q1 q2] at h; omega
      · rw [if_neg c2, uOut_none]
        rw [cont_t] at c2
        refine rune_by t hL _ hg _ (fun _ => rfl) (fun q1 q2 q3 h => ?_) (fun _ _ _ _ => rfl)
        rw [bytes_key t _ q1 q2] at h; omega
    · rw [if_neg c1, uOut_none]
      rw [cont_t] at c1
      refine rune_by t hL _ hg _ (fun _ => rfl) (fun q1 q2 q3 h => ?_) (fun _ _ _ _ => rfl)
      rw [bytes_key t _ q1 q2] at h; omega
  · have hz : uRuneP t 0 = (0, 0) := runeP_0 t (.inl (by unfold uLen; rw [if_neg a1, if_neg (by omega), if_neg a2, if_neg a4, if_neg a5]))
    rw [hz]
    refine rune_by t hL _ hg _ (fun _ => rfl) (fun q1 q2 q3 h => ?_) (fun _ _ _ _ => rfl)
    rw [bytes_key t _ q1 q2] at h; omega
theorem rune_eq (s : List UInt8) (i : Nat) : uRuneP s i = uRune s i := by
  rw [rune_nil, runeP_nil]
  by_cases h : s.length ≤ i
  · rw [if_pos h, if_pos h]
  · rw [if_neg h, if_neg h]
    exact rune_eq0 _ (by rw [List.length_drop]; omega)
end Go.Proofs.Ytgbkjecepncjoaa
