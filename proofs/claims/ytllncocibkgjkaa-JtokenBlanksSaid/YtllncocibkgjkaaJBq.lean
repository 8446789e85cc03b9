/-
  A right text's JSON is read as that text; what is read is a right text; unlike texts have unlike JSON (plain law).
-/
import Derived.Test.YtllncocibkgjkaaJRe
set_option linter.unusedSimpArgs false
set_option linter.unusedVariables false
set_option maxHeartbeats 4000000
namespace Go.Proofs.Ytllncocibkgjkaa
open Go Go.VG
set_option maxRecDepth 100000
def Chr (x : List UInt8) : Prop := 0 < x.length ∧ (uRune x 0).2 = x.length
inductive Txt : List UInt8 → Prop where
  | nil : Txt []
  | cons (x r : List UInt8) (h : Chr x) (k : Txt r) : Txt (x ++ r)
theorem Txt.append {x y : List UInt8} (h : Txt x) (k : Txt y) : Txt (x ++ y) := by
  induction h with
  | nil => exact k
  | cons x r h _ ih => rw [List.append_assoc]; exact .cons x _ h ih
theorem Txt.one {x : List UInt8} (h : Chr x) : Txt x := by have := Txt.cons x [] h .nil; simpa using this
theorem getD_drop (t : List UInt8) (i k : Nat) : (t.drop i).getD k 0 = t.getD (i + k) 0 := by
  rw [List.getD_eq_getElem?_getD, List.getD_eq_getElem?_getD, List.getElem?_drop]
theorem getD_app {x r : List UInt8} {k : Nat} (h : k < x.length) : (x ++ r).getD k 0 = x.getD k 0 := by
  rw [List.getD_eq_getElem?_getD, List.getD_eq_getElem?_getD, List.getElem?_append_left h]
theorem chr_len {x : List UInt8} (h : Chr x) : uLen (x.getD 0 0).toNat = x.length ∧ ∀ j, 1 ≤ j → j < x.length → cont (x.getD j 0) = true := by
  obtain ⟨h1, h2⟩ := h
  rw [← rune_eq] at h2
  rcases runeP_2 x h1 with k | ⟨k1, k2, k3, k4⟩
  · omega
  · exact ⟨by omega, fun j a b => k4 j a (by omega)⟩
/-- a character is read wherever it stands -/
theorem chr_at {x r t : List UInt8} {i : Nat} (h : Chr x) (e : t.drop i = x ++ r) : uRune t i = uRune x 0 := by
  have hl := congrArg List.length e
  rw [List.length_drop, List.length_append] at hl
  have h1 := h.1
  rw [rune_nil, if_neg (by omega), e, ← rune_eq, ← rune_eq]
  have hn := (chr_len h).1
  have := runeP_take (x ++ r) x.length (by rw [getD_app h1]; omega) h1 (by simp)
  rw [List.take_left] at this
  exact this.symm
theorem chr_of {t : List UInt8} {i : Nat} (hi : i < t.length) (h : (uRune t i).2 ≠ 0) : Chr ((t.drop i).take (uRune t i).2) ∧ ((t.drop i).take (uRune t i).2).length = (uRune t i).2 := by
  have hr := uRune_le t i
  have hl : ((t.drop i).take (uRune t i).2).length = (uRune t i).2 := by rw [List.length_take, List.length_drop]; omega
  refine ⟨⟨by omega, ?_⟩, hl⟩
  rw [hl]
  have e := rune_nil t i
  rw [if_neg (by omega)] at e
  rw [e] at h ⊢
  generalize t.drop i = x at *
  rw [← rune_eq] at h ⊢
  have hx : 0 < x.length := by
    rcases Nat.lt_or_ge 0 x.length with q | q
    · exact q
    · exact absurd (by unfold uRuneP; rw [if_pos (by omega)]) h
  rcases runeP_2 x hx with k | ⟨k1, k2, k3, k4⟩
  · exact absurd k h
  · rw [← rune_eq, runeP_take x _ (by omega) (by omega) (by omega)]
theorem chr_ascii {b : UInt8} (h : b.toNat < 128) : Chr [b] := by
  refine ⟨by simp, ?_⟩
  rw [← rune_eq]
  unfold uRuneP
  have e : ([b] : List UInt8).getD 0 0 = b := rfl
  have u : uLen b.toNat = 1 := by unfold uLen; rw [if_pos h]
  rw [e, u, if_neg (by simp), if_neg (by omega), if_neg (by simp), if_pos rfl]; rfl
theorem chr_bytes {n : Int} (h0 : 0 ≤ n) (h1 : n ≤ 1114111) (hs : n < 55296 ∨ 57343 < n) : Chr (uBytes n) := by
  have hl := uBytes_len n
  refine ⟨by omega, ?_⟩
  have hg : uGuess (uBytes n) = n := by
    unfold uBytes
    repeat' split
    all_goals
      simp only [uGuess, uGo, List.getD_cons_zero, List.getD_cons_succ, List.length_cons, List.length_nil]
      repeat (first | rw [byte_toNat (by omega)])
    · split
      · rfl
      · have := byte_toNat (n := n) (by omega); omega
    · have a := byte_toNat (n := 192 + n / 64) (by omega)
      have b := byte_toNat (n := 128 + n % 64) (by omega)
      rw [if_neg (by omega), if_neg (by omega), if_neg (by omega), if_neg (by omega)]; omega
    · have a := byte_toNat (n := 224 + n / 4096) (by omega)
      have b := byte_toNat (n := 128 + n / 64 % 64) (by omega)
      have c := byte_toNat (n := 128 + n % 64) (by omega)
      rw [if_neg (by omega), if_neg (by omega), if_pos (by omega), if_neg (by omega), if_neg (by omega)]; omega
    · have a := byte_toNat (n := 240 + n / 262144) (by omega)
      have b := byte_toNat (n := 128 + n / 4096 % 64) (by omega)
      have c := byte_toNat (n := 128 + n / 64 % 64) (by omega)
      have d := byte_toNat (n := 128 + n % 64) (by omega)
      rw [if_neg (by omega), if_pos (by omega), if_neg (by omega), if_neg (by omega), if_neg (by omega)]; omega
  unfold uRune
  have hi : uIs n = true := (uIs_t n).2 ⟨h0, h1, hs⟩
  rw [List.drop_zero, hg, if_neg (by omega), if_neg (by rw [hi]; simp; omega), if_pos (by rw [List.take_length])]
/-! the document's check -/
theorem walk_txt (s : List UInt8) : ∀ (k i c : Nat), s.length - i ≤ k → i ≤ s.length → (uWalk s i c).1 = s.length → Txt (s.drop i)
  | k, i, c, hk, hi, h => by
    rw [uWalk] at h
    by_cases a : s.length ≤ i
    · rw [List.drop_eq_nil_of_le a]; exact .nil
    · rw [if_neg a] at h
      split at h
      · exact absurd h (by omega)
      · rename_i q
        have hr := uRune_le s i
        match k with
        | 0 => omega
        | k + 1 =>
          have ih := walk_txt s k (i + (uRune s i).2) (c + 1) (by omega) (by omega) h
          have e : s.drop i = (s.drop i).take (uRune s i).2 ++ s.drop (i + (uRune s i).2) := by
            rw [← List.drop_drop]; exact (List.take_append_drop _ _).symm
          rw [e]
          exact .cons _ _ (chr_of (by omega) q).1 ih
theorem txt_walk (s : List UInt8) : ∀ (k i c : Nat), s.length - i ≤ k → i ≤ s.length → Txt (s.drop i) → (uWalk s i c).1 = s.length
  | k, i, c, hk, hi, h => by
    rw [uWalk]
    by_cases a : s.length ≤ i
    · rw [if_pos a]; show i = _; omega
    · rw [if_neg a]
      generalize hd : s.drop i = d at h
      cases h with
      | nil => have := congrArg List.length hd; rw [List.length_drop] at this; simp at this; omega
      | cons x r h kr =>
        have e := chr_at h hd
        have e2 := h.2
        have h1 := h.1
        have hl := congrArg List.length hd
        rw [List.length_drop, List.length_append] at hl
        rw [dif_neg (by rw [e]; omega)]
        match k with
        | 0 => omega
        | k + 1 =>
          refine txt_walk s k _ _ (by rw [e]; omega) (by rw [e]; omega) ?_
          rw [e, e2, ← List.drop_drop, hd, List.drop_left]; exact kr
theorem check_txt {s : List UInt8} : ¬ (0 ≤ uCheck s) ↔ Txt s := by
  unfold uCheck
  constructor
  · intro h
    split at h
    · rename_i q
      have := walk_txt s s.length 0 0 (by omega) (by omega) q
      simpa using this
    · omega
  · intro h
    rw [if_pos (txt_walk s s.length 0 0 (by omega) (by omega) (by simpa using h))]; omega
end Go.Proofs.Ytllncocibkgjkaa
