/-
  A text of JSON is read by the program as by the document (plain law): characters, the whole.
-/
import Derived.Test.YtgbkjecepncjoaaJRe
set_option linter.unusedSimpArgs false
set_option linter.unusedVariables false
set_option maxHeartbeats 4000000
namespace Go.Proofs.Ytgbkjecepncjoaa
open Go Go.VG
set_option maxRecDepth 100000
theorem raw_go : ∀ (k : Nat) (c : Cu) (s : List UInt8), c.ok → c.c = 0 → ∃ j, j ≤ k ∧ On c (rawGo k c s).1 j ∧ (rawGo k c s).2 = s ++ (c.txt.drop c.p).take j ∧ (∀ i, i < j → cont (c.txt.getD (c.p + i) 0) = true) ∧
    c.p + j ≤ c.e ∧ (j = k ∨ c.p + j = c.e ∨ cont (c.txt.getD (c.p + j) 0) = false)
  | 0, c, s, h, h0 => by
    rw [rawGo]
    exact ⟨0, Nat.le_refl _, ⟨rfl, rfl, h0, rfl⟩, by simp, by omega, by have := h.1; omega, .inl rfl⟩
  | k + 1, c, s, h, h0 => by
    rw [rawGo]
    by_cases hp : c.p < c.e
    · obtain ⟨b1, b2⟩ := byte_lt h0 hp
      have hl := txt_len h
      by_cases hc : cont (c.txt.getD c.p 0) = true
      · rw [if_pos ⟨h0, hp, by rw [b2]; exact hc⟩]
        have on1 := On.byte h0 hp
        obtain ⟨j, q1, q2, q3, q4, q5, q6⟩ := raw_go k c.byte (s ++ [c.byteV]) (byte_ok h) on1.c0
        rw [on1.txt, on1.p] at q3 q4 q6
        rw [on1.p, on1.e] at q5
        rw [on1.e] at q6
        refine ⟨j + 1, by omega, ?_, ?_, fun i hi => ?_, by omega, ?_⟩
        · have := on1.trans q2; rw [Nat.add_comm 1 j] at this; exact this
        · rw [q3, b2, List.append_assoc]
          congr 1
          rw [List.drop_eq_getElem_cons (show c.p < c.txt.length by omega), List.take_succ_cons, List.getD_eq_getElem?_getD, List.getElem?_eq_getElem (show c.p < c.txt.length by omega)]; rfl
        · cases i with
          | zero => exact hc
          | succ i => rw [show c.p + (i + 1) = c.p + 1 + i by omega]; exact q4 i (by omega)
        · rw [show c.p + (j + 1) = c.p + 1 + j by omega]
          rcases q6 with q6 | q6 | q6
          · exact .inl (by omega)
          · exact .inr (.inl q6)
          · exact .inr (.inr q6)
      · rw [if_neg (by rw [b2]; exact fun h => hc h.2.2)]
        refine ⟨0, by omega, ⟨rfl, rfl, h0, rfl⟩, by simp, by omega, by omega, .inr (.inr ?_)⟩
        cases hq : cont (c.txt.getD (c.p + 0) 0) with
        | false => rfl
        | true => exact absurd hq hc
    · rw [if_neg (by omega)]
      have := h.1
      exact ⟨0, by omega, ⟨rfl, rfl, h0, rfl⟩, by simp, by omega, by omega, .inr (.inl (by omega))⟩
/-! a character's bytes -/
theorem go_take (x : List UInt8) (m : Nat) : ∀ r i a, i + r ≤ m → m ≤ x.length → uGoP (x.take m) r i a = uGoP x r i a
  | 0, _, _, _, _ => rfl
  | r + 1, i, a, h, hm => by
    simp only [uGoP]
    rw [getD_take (by omega), go_take x m r (i + 1) _ (by omega) hm]
theorem go_cont (x : List UInt8) : ∀ r i a, uGoP x r i a ≠ none → ∀ j, i ≤ j → j < i + r → cont (x.getD j 0) = true
  | 0, _, _, _, _, _, _ => by omega
  | r + 1, i, a, h, j, h1, h2 => by
    simp only [uGoP] at h
    by_cases hc : cont (x.getD i 0) = true
    · rw [if_pos hc] at h
      by_cases e : j = i
      · subst e; exact hc
      · exact go_cont x r (i + 1) _ h j (by omega) (by omega)
    · rw [if_neg hc] at h; exact absurd rfl h
theorem uOut_2 (n : Nat) (o : Option Nat) : (uOut n o).2 = 0 ∨ ((uOut n o).2 = n ∧ o ≠ none) := by
  cases o with
  | none => exact .inl rfl
  | some r =>
    rw [uOut_some]
    repeat' split
    · exact .inl rfl
    · exact .inr ⟨rfl, by simp⟩
    · exact .inl rfl
theorem runeP_2 (x : List UInt8) (hx : 0 < x.length) : (uRuneP x 0).2 = 0 ∨ ((uRuneP x 0).2 = uLen (x.getD 0 0).toNat ∧ 1 ≤ uLen (x.getD 0 0).toNat ∧ uLen (x.getD 0 0).toNat ≤ x.length ∧ ∀ j, 1 ≤ j → j < uLen (x.getD 0 0).toNat → cont (x.getD j 0) = true) := by
  unfold uRuneP
  rw [if_neg (by omega)]
  split
  · exact .inl rfl
  split
  · exact .inl rfl
  split
  · rename_i h1 h2 h3
    exact .inr ⟨h3.symm, by omega, by omega, by omega⟩
  · rename_i h1 h2 h3
    rcases uOut_2 (uLen (x.getD 0 0).toNat) (uGoP x (uLen (x.getD 0 0).toNat - 1) (0 + 1) ((x.getD 0 0).toNat % 2 ^ (7 - uLen (x.getD 0 0).toNat))) with h | ⟨h, k⟩
    · exact .inl h
    · exact .inr ⟨h, by omega, by omega, fun j a b => go_cont x _ _ _ k j a (by omega)⟩
theorem runeP_take (x : List UInt8) (m : Nat) (hm : uLen (x.getD 0 0).toNat ≤ m) (h1 : 1 ≤ m) (hx : m ≤ x.length) : uRuneP (x.take m) 0 = uRuneP x 0 := by
  have e : (x.take m).getD 0 0 = x.getD 0 0 := getD_take (by omega)
  have l : (x.take m).length = m := by rw [List.length_take]; omega
  unfold uRuneP
  rw [e, l, if_neg (show ¬ m ≤ 0 by omega), if_neg (show ¬ x.length ≤ 0 by omega)]
  by_cases a : uLen (x.getD 0 0).toNat = 0
  · rw [if_pos a, if_pos a]
  · rw [if_neg a, if_neg a, if_neg (show ¬ m < 0 + uLen (x.getD 0 0).toNat by omega), if_neg (show ¬ x.length < 0 + uLen (x.getD 0 0).toNat by omega), go_take x m _ _ _ (by omega) hx]
theorem check_0 {s : List UInt8} (hs : 0 < s.length) (h : (uRune s 0).2 = 0) : uCheck s = 0 := by
  have hw : uWalk s 0 0 = (0, 0) := by rw [uWalk, if_neg (by omega), dif_pos h]
  unfold uCheck
  rw [hw, if_neg (show ¬ 0 = s.length by omega)]; rfl
theorem check_1 {s : List UInt8} (hs : 0 < s.length) (h : (uRune s 0).2 = s.length) : uCheck s = -1 := by
  have hw : uWalk s 0 0 = (0 + (uRune s 0).2, 0 + 1) := by
    rw [uWalk, if_neg (by omega), dif_neg (by omega), uWalk, if_pos (by omega)]
  unfold uCheck
  rw [hw, if_pos (show 0 + (uRune s 0).2 = s.length by omega)]
theorem tail_len {b : UInt8} : uLen b.toNat = 0 ∨ tailN b + 1 = uLen b.toNat := by
  unfold uLen tailN; repeat' split
  all_goals omega
theorem raw_eq {d : Cu} (hk : d.ok) (h0 : d.c = 0) (hp : d.p < d.e) :
    ((uRune d.txt d.p).2 = 0 → (d.byte.rawC (d.txt.getD d.p 0)).c = 5) ∧
    ((uRune d.txt d.p).2 ≠ 0 → On d (d.byte.rawC (d.txt.getD d.p 0)) (uRune d.txt d.p).2 ∧ d.byte.rawO (d.txt.getD d.p 0) = (d.txt.take (d.p + (uRune d.txt d.p).2)).drop d.p) := by
  have hl := txt_len hk
  have on1 := On.byte h0 hp
  have hxl : (d.txt.drop d.p).length = d.e - d.p := by rw [List.length_drop, hl]
  have hx0 : (d.txt.drop d.p).getD 0 0 = d.txt.getD d.p 0 := by simp [List.getD_eq_getElem?_getD, List.getElem?_drop]
  have hxc : d.txt.drop d.p = d.txt.getD d.p 0 :: d.txt.drop (d.p + 1) := by
    rw [List.drop_eq_getElem_cons (show d.p < d.txt.length by omega), List.getD_eq_getElem?_getD, List.getElem?_eq_getElem (show d.p < d.txt.length by omega)]; rfl
  have hu : uRune d.txt d.p = uRuneP (d.txt.drop d.p) 0 := by rw [rune_nil, if_neg (by omega), rune_eq]
  obtain ⟨j, q1, q2, q3, q4, q5, q6⟩ := raw_go (tailN (d.txt.getD d.p 0)) d.byte [d.txt.getD d.p 0] (byte_ok hk) on1.c0
  rw [on1.txt, on1.p] at q3 q4 q6
  rw [on1.p, on1.e] at q5
  rw [on1.e] at q6
  have hS : (rawGo (tailN (d.txt.getD d.p 0)) d.byte [d.txt.getD d.p 0]).2 = (d.txt.drop d.p).take (j + 1) := by
    rw [q3, hxc, List.take_succ_cons]; rfl
  have hSl : ((d.txt.drop d.p).take (j + 1)).length = j + 1 := by rw [List.length_take, hxl]; omega
  have hS0 : ((d.txt.drop d.p).take (j + 1)).getD 0 0 = d.txt.getD d.p 0 := by rw [getD_take (by omega), hx0]
  rw [hu]
  unfold Cu.rawC Cu.rawO
  rw [hS]
  refine ⟨fun hn => ?_, fun hn => ?_⟩
  · have hz : (uRune ((d.txt.drop d.p).take (j + 1)) 0).2 = 0 := by
      rw [← rune_eq]
      rcases runeP_2 ((d.txt.drop d.p).take (j + 1)) (by omega) with h | ⟨h1, h2, h3, h4⟩
      · exact h
      · rw [hS0] at h1 h2 h3
        rw [runeP_take _ (j + 1) (by rw [hx0]; omega) (by omega) (by omega)]; exact hn
    rw [check_0 (by omega) hz, if_pos (by decide), fail_c0 _ q2.c0]
  · rcases runeP_2 (d.txt.drop d.p) (by omega) with h | ⟨h1, h2, h3, h4⟩
    · exact absurd h hn
    · rw [hx0] at h1 h2 h3 h4
      have ht := tail_len (b := d.txt.getD d.p 0)
      have hj : j + 1 = uLen (d.txt.getD d.p 0).toNat := by
        rcases q6 with q6 | q6 | q6
        · omega
        · omega
        · by_cases e : j + 1 = uLen (d.txt.getD d.p 0).toNat
          · exact e
          · exfalso
            have := h4 (j + 1) (by omega) (by omega)
            rw [show (d.txt.drop d.p).getD (j + 1) 0 = d.txt.getD (d.p + 1 + j) 0 by
              rw [List.getD_eq_getElem?_getD, List.getD_eq_getElem?_getD, List.getElem?_drop, show d.p + (j + 1) = d.p + 1 + j by omega], q6] at this
            cases this
      have hz : (uRune ((d.txt.drop d.p).take (j + 1)) 0).2 = ((d.txt.drop d.p).take (j + 1)).length := by
        rw [← rune_eq, runeP_take _ (j + 1) (by rw [hx0]; omega) (by omega) (by omega), h1, hSl, hj]
      rw [check_1 (by omega) hz, if_neg (by decide), if_neg (by decide), h1, ← hj]
      refine ⟨?_, ?_⟩
      · have := on1.trans q2
        rw [Nat.add_comm 1 j] at this; exact this
      · rw [List.drop_take, show d.p + (j + 1) - d.p = j + 1 by omega]
end Go.Proofs.Ytgbkjecepncjoaa
