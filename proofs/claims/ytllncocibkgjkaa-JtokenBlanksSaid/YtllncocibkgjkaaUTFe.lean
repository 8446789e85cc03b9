/-
  Characters: the program's are the document's (plain law).
-/
import Derived.Test.YtllncocibkgjkaaUTF
set_option linter.unusedSimpArgs false
set_option linter.unusedVariables false
set_option maxHeartbeats 4000000
namespace Go.Proofs.Ytllncocibkgjkaa
open Go Go.VG
set_option maxRecDepth 100000
/-! the document's guess -/
theorem byte_eq {n : Int} {b : UInt8} (h : 0 ≤ n ∧ n ≤ 255) : byte n = b ↔ n = b.toNat := by
  constructor
  · intro e; rw [← e, byte_toNat h]
  · intro e; rw [e, byte_of]
theorem rune_nil (s : List UInt8) (i : Nat) : uRune s i = if s.length ≤ i then (0, 0) else uRune (s.drop i) 0 := by
  by_cases h : s.length ≤ i
  · rw [if_pos h]; unfold uRune; rw [if_pos h]
  · rw [if_neg h]; unfold uRune
    rw [if_neg h, if_neg (show ¬ (s.drop i).length ≤ 0 by rw [List.length_drop]; omega), List.drop_zero]
theorem uGoP_drop (s : List UInt8) (i : Nat) : ∀ r j a, uGoP s r (i + j) a = uGoP (s.drop i) r j a
  | 0, _, _ => rfl
  | r + 1, j, a => by
    simp only [uGoP]
    rw [show (s.drop i).getD j 0 = s.getD (i + j) 0 by simp [List.getD_eq_getElem?_getD, List.getElem?_drop], ← uGoP_drop s i r (j + 1), show i + j + 1 = i + (j + 1) by omega]
theorem runeP_nil (s : List UInt8) (i : Nat) : uRuneP s i = if s.length ≤ i then (0, 0) else uRuneP (s.drop i) 0 := by
  have e : (s.drop i).getD 0 0 = s.getD i 0 := by simp [List.getD_eq_getElem?_getD, List.getElem?_drop]
  by_cases h : s.length ≤ i
  · rw [if_pos h]; unfold uRuneP; rw [if_pos h]
  · rw [if_neg h]; unfold uRuneP
    rw [if_neg h, if_neg (show ¬ (s.drop i).length ≤ 0 by rw [List.length_drop]; omega), e, ← uGoP_drop s i _ (0 + 1)]
    have hl : (s.drop i).length < uLen (s.getD i 0).toNat ↔ s.length < i + uLen (s.getD i 0).toNat := by rw [List.length_drop]; omega
    simp only [Nat.zero_add, hl]
theorem getD_take {t : List UInt8} {n k : Nat} (h : k < n) : (t.take n).getD k 0 = t.getD k 0 := by
  simp [List.getD_eq_getElem?_getD, List.getElem?_take, h]
theorem take1 (t : List UInt8) (x : UInt8) : t.take 1 = [x] ↔ 1 ≤ t.length ∧ t.getD 0 0 = x := by
  match t with
  | [] => simp
  | a :: _ => simp
theorem take2 (t : List UInt8) (x y : UInt8) : t.take 2 = [x, y] ↔ 2 ≤ t.length ∧ t.getD 0 0 = x ∧ t.getD 1 0 = y := by
  match t with
  | [] => simp
  | [a] => simp
  | a :: b :: _ => simp
theorem take3 (t : List UInt8) (x y z : UInt8) : t.take 3 = [x, y, z] ↔ 3 ≤ t.length ∧ t.getD 0 0 = x ∧ t.getD 1 0 = y ∧ t.getD 2 0 = z := by
  match t with
  | [] => simp
  | [a] => simp
  | [a, b] => simp
  | a :: b :: c :: _ => simp
theorem take4 (t : List UInt8) (x y z u : UInt8) : t.take 4 = [x, y, z, u] ↔ 4 ≤ t.length ∧ t.getD 0 0 = x ∧ t.getD 1 0 = y ∧ t.getD 2 0 = z ∧ t.getD 3 0 = u := by
  match t with
  | [] => simp
  | [a] => simp
  | [a, b] => simp
  | [a, b, c] => simp
  | a :: b :: c :: d :: _ => simp
theorem eq_byte {n : Int} {b : UInt8} (h : 0 ≤ n ∧ n ≤ 255) : b = byte n ↔ (b.toNat : Int) = n := by
  rw [eq_comm, byte_eq h, eq_comm]
theorem bytes_key (t : List UInt8) (g : Int) (h0 : 0 ≤ g) (h1 : g ≤ 1114111) : t.take (uBytes g).length = uBytes g ↔
    (g < 128 ∧ 1 ≤ t.length ∧ ((t.getD 0 0).toNat : Int) = g) ∨
    (128 ≤ g ∧ g < 2048 ∧ 2 ≤ t.length ∧ ((t.getD 0 0).toNat : Int) = 192 + g / 64 ∧ ((t.getD 1 0).toNat : Int) = 128 + g % 64) ∨
    (2048 ≤ g ∧ g < 65536 ∧ 3 ≤ t.length ∧ ((t.getD 0 0).toNat : Int) = 224 + g / 4096 ∧ ((t.getD 1 0).toNat : Int) = 128 + g / 64 % 64 ∧ ((t.getD 2 0).toNat : Int) = 128 + g % 64) ∨
    (65536 ≤ g ∧ 4 ≤ t.length ∧ ((t.getD 0 0).toNat : Int) = 240 + g / 262144 ∧ ((t.getD 1 0).toNat : Int) = 128 + g / 4096 % 64 ∧ ((t.getD 2 0).toNat : Int) = 128 + g / 64 % 64 ∧ ((t.getD 3 0).toNat : Int) = 128 + g % 64) := by
  unfold uBytes
  by_cases a : g < 128
  · rw [if_pos a]
    show t.take 1 = _ ↔ _
    rw [take1, eq_byte (by omega)]; omega
  by_cases b : g < 2048
  · rw [if_neg a, if_pos b]
    show t.take 2 = _ ↔ _
    rw [take2, eq_byte (by omega), eq_byte (by omega)]; omega
  by_cases c : g < 65536
  · rw [if_neg a, if_neg b, if_pos c]
    show t.take 3 = _ ↔ _
    rw [take3, eq_byte (by omega), eq_byte (by omega), eq_byte (by omega)]; omega
  · rw [if_neg a, if_neg b, if_neg c]
    show t.take 4 = _ ↔ _
    rw [take4, eq_byte (by omega), eq_byte (by omega), eq_byte (by omega), eq_byte (by omega)]; omega
theorem bytes_size (g : Int) : (uBytes g).length = if g < 128 then 1 else if g < 2048 then 2 else if g < 65536 then 3 else 4 := by
  unfold uBytes; repeat' split
  all_goals rfl
/-- what the document answers, told by its guess -/
theorem rune_by (t : List UInt8) (hL : 0 < t.length) (g : Int) (hg : uGuess t = g) (r : Int × Nat)
    (h1 : (g < 0 ∨ 1114111 < g ∨ uIs g = false) → r = (0, 0))
    (h2 : 0 ≤ g → g ≤ 1114111 → uIs g = true → t.take (uBytes g).length = uBytes g → r = (g, (uBytes g).length))
    (h3 : 0 ≤ g → g ≤ 1114111 → uIs g = true → ¬ t.take (uBytes g).length = uBytes g → r = (0, 0)) : r = uRune t 0 := by
  unfold uRune
  rw [List.drop_zero, hg, if_neg (by omega)]
  by_cases a : g < 0 ∨ 1114111 < g ∨ uIs g = false
  · rw [if_pos a]; exact h1 a
  · rw [if_neg a]
    have b : 0 ≤ g ∧ g ≤ 1114111 ∧ uIs g = true := by
      refine ⟨by omega, by omega, ?_⟩
      cases h : uIs g with
      | true => rfl
      | false => exact absurd (.inr (.inr h)) a
    by_cases c : t.take (uBytes g).length = uBytes g
    · rw [if_pos c]; exact h2 b.1 b.2.1 b.2.2 c
    · rw [if_neg c]; exact h3 b.1 b.2.1 b.2.2 c
theorem uIs_t (g : Int) : uIs g = true ↔ (0 ≤ g ∧ g ≤ 1114111 ∧ (g < 55296 ∨ 57343 < g)) := by unfold uIs; rw [decide_eq_true_eq]
theorem uIs_f (g : Int) : uIs g = false ↔ ¬ (0 ≤ g ∧ g ≤ 1114111 ∧ (g < 55296 ∨ 57343 < g)) := by unfold uIs; rw [decide_eq_false_iff_not]
theorem cont_t (b : UInt8) : cont b = true ↔ 128 ≤ b.toNat ∧ b.toNat < 192 := by unfold cont; rw [decide_eq_true_eq]
theorem uOut_none (n : Nat) : uOut n none = (0, 0) := rfl
theorem bytes_len (g : Int) (n : Nat) (h : (n = 1 ∧ g < 128) ∨ (n = 2 ∧ 128 ≤ g ∧ g < 2048) ∨ (n = 3 ∧ 2048 ≤ g ∧ g < 65536) ∨ (n = 4 ∧ 65536 ≤ g)) : (uBytes g).length = n := by
  rw [bytes_size]
  repeat' split
  all_goals omega
theorem runeP_0 (t : List UInt8) (h : uLen (t.getD 0 0).toNat = 0 ∨ t.length < uLen (t.getD 0 0).toNat) : uRuneP t 0 = (0, 0) := by
  unfold uRuneP
  repeat' split
  all_goals first | rfl | (exfalso; omega)
theorem runeP_1 (t : List UInt8) (hL : 0 < t.length) (h : uLen (t.getD 0 0).toNat = 1) : uRuneP t 0 = (((t.getD 0 0).toNat : Int), 1) := by
  unfold uRuneP
  rw [if_neg (by omega), if_neg (by omega), if_neg (by omega), if_pos h]
theorem runeP_n (t : List UInt8) (n : Nat) (hL : n ≤ t.length) (h : uLen (t.getD 0 0).toNat = n) (hn : 2 ≤ n) : uRuneP t 0 = uOut n (uGoP t (n - 1) 1 ((t.getD 0 0).toNat % 2 ^ (7 - n))) := by
  unfold uRuneP
  rw [h, if_neg (by omega), if_neg (by omega), if_neg (by omega), if_neg (by omega)]
theorem out_bad (n r : Nat) (h : (r : Int) < uLeast n ∨ ¬ (0 ≤ (r : Int) ∧ (r : Int) ≤ 1114111 ∧ ((r : Int) < 55296 ∨ 57343 < (r : Int)))) : uOut n (some r) = (0, 0) := by
  rw [uOut_some]
  by_cases a : (r : Int) < uLeast n
  · rw [if_pos a]
  · rw [if_neg a, if_neg (by rw [uIs_t]; omega)]
theorem out_ok (n r : Nat) (g : Int) (hg : (r : Int) = g) (h : ¬ (r : Int) < uLeast n) (k : 0 ≤ (r : Int) ∧ (r : Int) ≤ 1114111 ∧ ((r : Int) < 55296 ∨ 57343 < (r : Int))) : uOut n (some r) = (g, n) := by
  rw [uOut_some, if_neg h, if_pos ((uIs_t _).2 k), hg]
theorem rune_eq0 (t : List UInt8) (hL : 0 < t.length) : uRuneP t 0 = uRune t 0 := by
  have h0 : (t.getD 0 0).toNat < 256 := UInt8.toNat_lt _
  have h1 : (t.getD 1 0).toNat < 256 := UInt8.toNat_lt _
  have h2 : (t.getD 2 0).toNat < 256 := UInt8.toNat_lt _
  have h3 : (t.getD 3 0).toNat < 256 := UInt8.toNat_lt _
  have l2 : uLeast (2 : Nat) = 128 := rfl
  have l3 : uLeast (3 : Nat) = 2048 := rfl
  have l4 : uLeast (4 : Nat) = 65536 := rfl
  by_cases a1 : (t.getD 0 0).toNat < 128
  · have hu : uLen (t.getD 0 0).toNat = 1 := by unfold uLen; rw [if_pos a1]
    rw [runeP_1 t hL hu]
    refine rune_by t hL _ (by unfold uGuess; rw [if_pos a1]) _ (fun h => ?_) (fun _ _ _ h => ?_) (fun q1 q2 q3 h => ?_)
    · rw [uIs_f] at h; omega
    · rw [bytes_len _ 1 (by omega)]
    · rw [bytes_key t _ (by omega) (by omega)] at h; omega
  by_cases a2 : (t.getD 0 0).toNat < 224
  · have hg : uGuess t = if t.length ≤ 1 then -1 else 64 * (((t.getD 0 0).toNat : Int) - 192) + (t.getD 1 0).toNat - 128 := by
      unfold uGuess
      rw [if_neg a1, if_neg (by omega), if_neg (by omega)]
      simp only [uGo]
    by_cases b1 : t.length ≤ 1
    · rw [if_pos b1] at hg
      have hz : uRuneP t 0 = (0, 0) := runeP_0 t (by
        by_cases q : uLen (t.getD 0 0).toNat = 0
        · exact .inl q
        · refine .inr ?_
          have : uLen (t.getD 0 0).toNat = 0 ∨ uLen (t.getD 0 0).toNat = 2 := by
            unfold uLen; repeat' split
            all_goals omega
          omega)
      rw [hz]
      exact rune_by t hL _ hg _ (fun _ => rfl) (fun h => by omega) (fun h => by omega)
    · rw [if_neg b1] at hg
      by_cases a3 : (t.getD 0 0).toNat < 194
      · have hz : uRuneP t 0 = (0, 0) := runeP_0 t (.inl (by unfold uLen; rw [if_neg a1, if_pos a3]))
        rw [hz]
        refine rune_by t hL _ hg _ (fun _ => rfl) (fun q1 q2 q3 h => ?_) (fun _ _ _ _ => rfl)
        rw [bytes_key t _ q1 q2] at h; omega
      · have hu : uLen (t.getD 0 0).toNat = 2 := by unfold uLen; rw [if_neg a1, if_neg a3, if_pos a2]
        rw [runeP_n t 2 (by omega) hu (by omega)]
        simp only [uGoP, show (1 : Nat) + 1 = 2 from rfl, show (2 : Nat) + 1 = 3 from rfl]
        by_cases c1 : cont (t.getD 1 0) = true
        · rw [if_pos c1]
          rw [cont_t] at c1
          refine rune_by t hL _ hg _ (fun h => out_bad _ _ (by rw [uIs_f] at h; omega)) (fun q1 q2 q3 h => ?_) (fun q1 q2 q3 h => ?_)
          · rw [bytes_len _ 2 (by omega)]
            exact out_ok _ _ _ (by omega) (by rw [l2]; omega) (by omega)
          · exfalso; rw [bytes_key t _ q1 q2] at h; omega
        · rw [if_neg c1, uOut_none]
          rw [cont_t] at c1
          refine rune_by t hL _ hg _ (fun _ => rfl) (fun q1 q2 q3 h => ?_) (fun _ _ _ _ => rfl)
          rw [bytes_key t _ q1 q2] at h; omega
  by_cases a4 : (t.getD 0 0).toNat < 240
  · have hg : uGuess t = if t.length ≤ 1 then -1 else if t.length ≤ 2 then -1 else 64 * (64 * (((t.getD 0 0).toNat : Int) - 224) + (t.getD 1 0).toNat - 128) + (t.getD 2 0).toNat - 128 := by
      unfold uGuess
      rw [if_neg a1, if_neg (by omega), if_pos (by omega)]
      simp only [uGo]
    have hu : uLen (t.getD 0 0).toNat = 3 := by unfold uLen; rw [if_neg a1, if_neg (by omega), if_neg a2, if_pos a4]
    by_cases b1 : t.length ≤ 2
    · have hg : uGuess t = -1 := by
        rw [hg]; repeat' split
        all_goals rfl
      rw [runeP_0 t (.inr (by omega))]
      exact rune_by t hL _ hg _ (fun _ => rfl) (fun h => by omega) (fun h => by omega)
    · rw [if_neg (by omega), if_neg b1] at hg
      rw [runeP_n t 3 (by omega) hu (by omega)]
      simp only [uGoP, show (1 : Nat) + 1 = 2 from rfl, show (2 : Nat) + 1 = 3 from rfl]
      by_cases c1 : cont (t.getD 1 0) = true
      · rw [if_pos c1]
        rw [cont_t] at c1
        by_cases c2 : cont (t.getD 2 0) = true
        · rw [if_pos c2]
          rw [cont_t] at c2
          refine rune_by t hL _ hg _ (fun h => out_bad _ _ (by rw [uIs_f] at h; omega)) (fun q1 q2 q3 h => ?_) (fun q1 q2 q3 h => out_bad _ _ ?_)
          · rw [uIs_t] at q3
            rw [bytes_key t _ q1 q2] at h
            rw [bytes_len _ 3 (by omega)]
            exact out_ok _ _ _ (by omega) (by rw [l3]; omega) (by omega)
          · rw [bytes_key t _ q1 q2] at h; rw [l3]; omega
        · rw [if_neg c2, uOut_none]
          rw [cont_t] at c2
          refine rune_by t hL _ hg _ (fun _ => rfl) (fun q1 q2 q3 h => ?_) (fun _ _ _ _ => rfl)
          rw [bytes_key t _ q1 q2] at h; omega
      · rw [if_neg c1, uOut_none]
        rw [cont_t] at c1
        refine rune_by t hL _ hg _ (fun _ => rfl) (fun q1 q2 q3 h => ?_) (fun _ _ _ _ => rfl)
        rw [bytes_key t _ q1 q2] at h; omega
  have hg : uGuess t = if t.length ≤ 1 then -1 else if t.length ≤ 2 then -1 else if t.length ≤ 3 then -1 else 64 * (64 * (64 * (((t.getD 0 0).toNat : Int) - 240) + (t.getD 1 0).toNat - 128) + (t.getD 2 0).toNat - 128) + (t.getD 3 0).toNat - 128 := by
    unfold uGuess
    rw [if_neg a1, if_pos (by omega)]
    simp only [uGo]
  by_cases b1 : t.length ≤ 3
  · have hg : uGuess t = -1 := by
      rw [hg]; repeat' split
      all_goals rfl
    have hz : uRuneP t 0 = (0, 0) := runeP_0 t (by
      have : uLen (t.getD 0 0).toNat = 0 ∨ uLen (t.getD 0 0).toNat = 4 := by
        unfold uLen; repeat' split
        all_goals omega
      omega)
    rw [hz]
    exact rune_by t hL _ hg _ (fun _ => rfl) (fun h => by omega) (fun h => by omega)
  rw [if_neg (by omega), if_neg (by omega), if_neg b1] at hg
  by_cases a5 : (t.getD 0 0).toNat < 245
  · have hu : uLen (t.getD 0 0).toNat = 4 := by unfold uLen; rw [if_neg a1, if_neg (by omega), if_neg a2, if_neg a4, if_pos a5]
    rw [runeP_n t 4 (by omega) hu (by omega)]
    simp only [uGoP, show (1 : Nat) + 1 = 2 from rfl, show (2 : Nat) + 1 = 3 from rfl]
    by_cases c1 : cont (t.getD 1 0) = true
    · rw [if_pos c1]
      rw [cont_t] at c1
      by_cases c2 : cont (t.getD 2 0) = true
      · rw [if_pos c2]
        rw [cont_t] at c2
        by_cases c3 : cont (t.getD 3 0) = true
        · rw [if_pos c3]
          rw [cont_t] at c3
          refine rune_by t hL _ hg _ (fun h => out_bad _ _ (by rw [uIs_f] at h; omega)) (fun q1 q2 q3 h => ?_) (fun q1 q2 q3 h => out_bad _ _ ?_)
          · rw [uIs_t] at q3
            rw [bytes_key t _ q1 q2] at h
            rw [bytes_len _ 4 (by omega)]
            exact out_ok _ _ _ (by omega) (by rw [l4]; omega) (by omega)
          · rw [bytes_key t _ q1 q2] at h; rw [l4]; omega
        · rw [if_neg c3, uOut_none]
          rw [cont_t] at c3
          refine rune_by t hL _ hg _ (fun _ => rfl) (fun q1 q2 q3 h => ?_) (fun _ _ _ _ => rfl)
          rw [bytes_key t _ q1 q2] at h; omega
      · rw [if_neg c2, uOut_none]
        rw [cont_t] at c2
        refine rune_by t hL _ hg _ (fun _ => rfl) (fun q1 q2 q3 h => ?_) (fun _ _ _ _ => rfl)
        rw [bytes_key t _ q1 q2] at h; omega
    · rw [if_neg c1, uOut_none]
      rw [cont_t] at c1
      refine rune_by t hL _ hg _ (fun _ => rfl) (fun q1 q2 q3 h => ?_) (fun _ _ _ _ => rfl)
      rw [bytes_key t _ q1 q2] at h; omega
  · have hz : uRuneP t 0 = (0, 0) := runeP_0 t (.inl (by unfold uLen; rw [if_neg a1, if_neg (by omega), if_neg a2, if_neg a4, if_neg a5]))
    rw [hz]
    refine rune_by t hL _ hg _ (fun _ => rfl) (fun q1 q2 q3 h => ?_) (fun _ _ _ _ => rfl)
    rw [bytes_key t _ q1 q2] at h; omega
theorem rune_eq (s : List UInt8) (i : Nat) : uRuneP s i = uRune s i := by
  rw [rune_nil, runeP_nil]
  by_cases h : s.length ≤ i
  · rw [if_pos h, if_pos h]
  · rw [if_neg h, if_neg h]
    exact rune_eq0 _ (by rw [List.length_drop]; omega)
end Go.Proofs.Ytllncocibkgjkaa
