/-
  Characters: the program's are the document's (plain law).
-/
import Derived.Test.YtgbkjecepncjoaaUTF
set_option linter.unusedSimpArgs false
set_option linter.unusedVariables false
set_option maxHeartbeats 4000000
namespace Go.Proofs.Ytgbkjecepncjoaa
open Go Go.VG
set_option maxRecDepth 100000
/-! the document's guess -/
theorem byte_eq {n : Int} {b : UInt8} (h : 0 ≤ n ∧ n ≤ 255) : byte n = b ↔ n = b.toNat := by
  constructor
  · intro e; rw [← e, byte_toNat h]
  · intro e; rw [e, byte_of]
theorem rune_nil (s : List UInt8) (i : Nat) : uRune s i = if s.length ≤ i then (0, 0) else uRune (s.drop i) 0 := by
  by_cases h : s.length ≤ i
  · rw [if_pos h]; unfold uRune; rw [if_pos h]
  · rw [if_neg h]; unfold uRune
    rw [if_neg h, if_neg (show ¬ (s.drop i).length ≤ 0 by rw [List.length_drop]; omega), List.drop_zero]
theorem uGoP_drop (s : List UInt8) (i : Nat) : ∀ r j a, uGoP s r (i + j) a = uGoP (s.drop i) r j a
  | 0, _, _ => rfl
  | r + 1, j, a => by
    simp only [uGoP]
    rw [show (s.drop i).getD j 0 = s.getD (i + j) 0 by simp [List.getD_eq_getElem?_getD, List.getElem?_drop], ← uGoP_drop s i r (j + 1), show i + j + 1 = i + (j + 1) by omega]
theorem runeP_nil (s : List UInt8) (i : Nat) : uRuneP s i = if s.length ≤ i then (0, 0) else uRuneP (s.drop i) 0 := by
  have e : (s.drop i).getD 0 0 = s.getD i 0 := by simp [List.getD_eq_getElem?_getD, List.getElem?_drop]
  by_cases h : s.length ≤ i
  · rw [if_pos h]; unfold uRuneP; rw [if_pos h]
  · rw [if_neg h]; unfold uRuneP
    rw [if_neg h, if_neg (show ¬ (s.drop i).length ≤ 0 by rw [List.length_drop]; omega), e, ← uGoP_drop s i _ (0 + 1)]
    have hl : (s.drop i).length < uLen (s.getD i 0).toNat ↔ s.length < i + uLen (s.getD i 0).toNat := by rw [List.length_drop]; omega
    simp only [Nat.zero_add, hl]
theorem getD_take {t : List UInt8} {n k : Nat} (h : k < n) : (t.take n).getD k 0 = t.getD k 0 := by
  simp [List.getD_eq_getElem?_getD, List.getElem?_take, h]
theorem take1 (t : List UInt8) (x : UInt8) : t.take 1 = [x] ↔ 1 ≤ t.length ∧ t.getD 0 0 = x := by
  match t with
  | [] => simp
  | a :: _ => simp
theorem take2 (t : List UInt8) (x y : UInt8) : t.take 2 = [x, y] ↔ 2 ≤ t.length ∧ t.getD 0 0 = x ∧ t.getD 1 0 = y := by
  match t with
  | [] => simp
  | [a] => simp
  | a :: b :: _ => simp
theorem take3 (t : List UInt8) (x y z : UInt8) : t.take 3 = [x, y, z] ↔ 3 ≤ t.length ∧ t.getD 0 0 = x ∧ t.getD 1 0 = y ∧ t.getD 2 0 = z := by
  match t with
  | [] => simp
  | [a] => simp
  | [a, b] => simp
  | a :: b :: c :: _ => simp
theorem take4 (t : List UInt8) (x y z u : UInt8) : t.take 4 = [x, y, z, u] ↔ 4 ≤ t.length ∧ t.getD 0 0 = x ∧ t.getD 1 0 = y ∧ t.getD 2 0 = z ∧ t.getD 3 0 = u := by
  match t with
  | [] => simp
  | [a] => simp
  | [a, b] => simp
  | [a, b, c] => simp
  | a :: b :: c :: d :: _ => simp
theorem eq_byte {n : Int} {b : UInt8} (h : 0 ≤ n ∧ n ≤ 255) : b = byte n ↔ (b.toNat : Int) = n := by
  rw [eq_comm, byte_eq h, eq_comm]
theorem bytes_key (t : List UInt8) (g : Int) (h0 : 0 ≤ g) (h1 : g ≤ 1114111) : t.take (uBytes g).length = uBytes g ↔
    (g < 128 ∧ 1 ≤ t.length ∧ ((t.getD 0 0).toNat : Int) = g) ∨
    (128 ≤ g ∧ g < 2048 ∧ 2 ≤ t.length ∧ ((t.getD 0 0).toNat : Int) = 192 + g / 64 ∧ ((t.getD 1 0).toNat : Int) = 128 + g % 64) ∨
    (2048 ≤ g ∧ g < 65536 ∧ 3 ≤ t.length ∧ ((t.getD 0 0).toNat : Int) = 224 + g / 4096 ∧ ((t.getD 1 0).toNat : Int) = 128 + g / 64 % 64 ∧ ((t.getD 2 0).toNat : Int) = 128 + g % 64) ∨
    (65536 ≤ g ∧ 4 ≤ t.length ∧ ((t.getD 0 0).toNat : Int) = 240 + g / 262144 ∧ ((t.getD 1 0).toNat : Int) = 128 + g / 4096 % 64 ∧ ((t.getD 2 0).toNat : Int) = 128 + g / 64 % 64 ∧ ((t.getD 3 0).toNat : Int) = 128 + g % 64) := by
  unfold uBytes
  by_cases a : g < 128
  · rw [if_pos a]
    show t.take 1 = _ ↔ _
    rw [take1, eq_byte (by omega)]; omega
  by_cases b : g < 2048
  · rw [if_neg a, if_pos b]
    show t.take 2 = _ ↔ _
    rw [take2, eq_byte (by omega), eq_byte (by omega)]; omega
  by_cases c : g < 65536
  · rw [if_neg a, if_neg b, if_pos c]
    show t.take 3 = _ ↔ _
    rw [take3, eq_byte (by omega), eq_byte (by omega), eq_byte (by omega)]; omega
  · rw [if_neg a, if_neg b, if_neg c]
    show t.take 4 = _ ↔ _
    rw [take4, eq_byte (by omega), eq_byte (by omega), eq_byte (by omega), eq_byte (by omega)]; omega
theorem bytes_size (g : Int) : (uBytes g).length = if g < 128 then 1 else if g < 2048 then 2 else if g < 65536 then 3 else 4 := by
  unfold uBytes; repeat' split
  all_goals rfl
/-- what the document answers, told by its guess -/
theorem rune_by (t : List UInt8) (hL : 0 < t.length) (g : Int) (hg : uGuess t = g) (r : Int × Nat)
    (h1 : (g < 0 ∨ 1114111 < g ∨ uIs g = false) → r = (0, 0))
    (h2 : 0 ≤ g → g ≤ 1114111 → uIs g = true → t.take (uBytes g).length = uBytes g → r = (g, (uBytes g).length))
    (h3 : 0 ≤ g → g ≤ 1114111 → uIs g = true → ¬ t.take (uBytes g).length = uBytes g → r = (0, 0)) : r = uRune t 0 := by
  unfold uRune
  rw [List.drop_zero, hg, if_neg (by omega)]
  by_cases a : g < 0 ∨ 1114111 < g ∨ uIs g = false
  · rw [if_pos a]; exact h1 a
  · rw [if_neg a]
    have b : 0 ≤ g ∧ g ≤ 1114111 ∧ uIs g = true := by
      refine ⟨by omega, by omega, ?_⟩
      cases h : uIs g with
      | true => rfl
      | false => exact absurd (.inr (.inr h)) a
    by_cases c : t.take (uBytes g).length = uBytes g
    · rw [if_pos c]; exact h2 b.1 b.2.1 b.2.2 c
    · rw [if_neg c]; exact h3 b.1 b.2.1 b.2.2 c
end Go.Proofs.Ytgbkjecepncjoaa
