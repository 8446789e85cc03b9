/-
  A text of JSON is read by the program as by the document (plain law).
-/
import Derived.Test.YtllncocibkgjkaaJSt
import Derived.Test.YtllncocibkgjkaaJD3
set_option linter.unusedSimpArgs false
set_option linter.unusedVariables false
set_option maxHeartbeats 4000000
namespace Go.Proofs.Ytllncocibkgjkaa
open Go Go.VG
set_option maxRecDepth 100000
def Cu.txt (c : Cu) : List UInt8 := c.s.take c.e
theorem ace {c : Cu} (h0 : c.c = 0) (h : c.p < c.e) : c.byte = { c with p := c.p + 1 } ∧ c.aa2 = c.txt.getD c.p 0 := by
  refine ⟨?_, ?_⟩
  · unfold Cu.byte Cu.pass
    rw [if_neg (by omega), if_neg (by omega), if_neg (by omega)]; rfl
  · unfold Cu.aa2 Cu.txt
    rw [if_pos ⟨h0, h⟩, aeu h]; rfl
theorem ahr {c : Cu} (h0 : c.c = 0) (h : c.p = c.e) : c.byte = { c with c := 1 } ∧ c.aa2 = 0 := by
  refine ⟨?_, ?_⟩
  · unfold Cu.byte Cu.pass
    rw [if_neg (by omega), if_neg (by omega), if_pos (by omega)]
  · unfold Cu.aa2; rw [if_neg (by omega)]
theorem aje {c : Cu} (h0 : c.c ≠ 0) : c.byte = c ∧ c.aa2 = 0 := by
  refine ⟨?_, ?_⟩
  · unfold Cu.byte Cu.pass; rw [if_pos h0]
  · unfold Cu.aa2; rw [if_neg (by omega)]
theorem ads {c : Cu} (k : Int) (h : c.c = 0) : c.fail k = { c with c := k } := by unfold Cu.fail; rw [if_pos h]
theorem ahv {c : Cu} (k : Int) (h : c.c ≠ 0) : c.fail k = c := by unfold Cu.fail; rw [if_neg h]
theorem aci {c : Cu} (h : c.ok) : c.txt.length = c.e := by have := h.2; unfold Cu.txt; rw [List.length_take]; omega
theorem bdh {c : Cu} (h0 : c.c = 0) (h : c.p = c.e) : c.asd.c = 1 := by
  obtain ⟨b1, b2⟩ := ahr h0 h
  unfold Cu.asd
  rw [b2, if_neg (by decide), b1, ahv _ (by show (1 : Int) ≠ 0; decide)]
structure On (c d : Cu) (n : Nat) : Prop where
  s : d.s = c.s
  e : d.e = c.e
  c0 : d.c = 0
  p : d.p = c.p + n
theorem On.trans {c d f : Cu} {n m : Nat} (h : On c d n) (k : On d f m) : On c f (n + m) := ⟨k.s.trans h.s, k.e.trans h.e, k.c0, by rw [k.p, h.p]; omega⟩
theorem On.txt {c d : Cu} {n : Nat} (h : On c d n) : d.txt = c.txt := by unfold Cu.txt; rw [h.s, h.e]
theorem On.byte {c : Cu} (h0 : c.c = 0) (h : c.p < c.e) : On c c.byte 1 := by rw [(ace h0 h).1]; exact ⟨rfl, rfl, h0, rfl⟩
theorem az6 : ∀ (k : Nat) (c : Cu) (u : Int), c.ok → c.c = 0 →
    ((afc c.txt k c.p u).2 = 0 → On c (acx k c u).1 k ∧ (acx k c u).2 = (afc c.txt k c.p u).1) ∧
    ((afc c.txt k c.p u).2 ≠ 0 → (acx k c u).1.c = (afc c.txt k c.p u).2 ∧ (acx k c u).2 = 0)
  | 0, c, u, h, h0 => by
    rw [afc, acx]
    exact ⟨fun _ => ⟨⟨rfl, rfl, h0, rfl⟩, rfl⟩, fun k => absurd rfl k⟩
  | k + 1, c, u, h, h0 => by
    have hl := aci h
    rw [afc, acx]
    by_cases hp : c.p = c.e
    · have he := bdh h0 hp
      rw [if_pos (by omega), if_pos (by omega)]
      exact ⟨fun k => absurd k (by simp), fun _ => ⟨he, rfl⟩⟩
    · have hlt : c.p < c.e := by have := h.1; omega
      obtain ⟨b1, b2⟩ := ace h0 hlt
      rw [if_neg (by omega)]
      by_cases hn : ahz (amy (c.txt.getD c.p 0)) = true
      · have hx : c.asd = c.byte := by unfold Cu.asd; rw [b2, if_pos hn]
        have hv : c.a93 = asm (amy (c.txt.getD c.p 0)) := by unfold Cu.a93; rw [b2]
        have hon := On.byte h0 hlt
        rw [if_pos hn, hx, if_neg (by rw [hon.c0]; simp), hv]
        have ih := az6 k c.byte (16 * u + asm (amy (c.txt.getD c.p 0))) (abv h) hon.c0
        rw [hon.txt, hon.p] at ih
        refine ⟨fun q => ?_, ih.2⟩
        obtain ⟨i1, i2⟩ := ih.1 q
        have := hon.trans i1
        rw [Nat.add_comm 1 k] at this
        exact ⟨this, i2⟩
      · have hx : c.asd.c = 6 := by
          unfold Cu.asd
          rw [b2, if_neg hn, ads _ (On.byte h0 hlt).c0]
        rw [if_neg hn, if_pos (by omega)]
        exact ⟨fun k => absurd k (by simp), fun _ => ⟨hx, rfl⟩⟩
theorem a1a {c : Cu} (b : UInt8) (h : c.c ≠ 0) : c.ajt b = c := by
  obtain ⟨b1, b2⟩ := aje h
  unfold Cu.ajt; rw [b1]
  split
  · rfl
  · exact ahv _ h
theorem bdi {c : Cu} (h : c.c ≠ 0) : c.asd = c := by
  obtain ⟨b1, b2⟩ := aje h
  unfold Cu.asd; rw [b1, ahv _ h]; split <;> rfl
theorem ba2 {c : Cu} (h : c.c ≠ 0) : c.four = (c, 0) := by
  unfold Cu.four
  rw [acx, bdi h, if_pos h]
theorem a19 {c : Cu} (b : UInt8) (h0 : c.c = 0) (h : c.p = c.e) (hb : b.toNat ≠ 0) : (c.ajt b).c = 1 := by
  obtain ⟨b1, b2⟩ := ahr h0 h
  unfold Cu.ajt
  rw [b2, if_neg (by show ¬ 0 = b.toNat; omega), b1, ahv _ (by show (1 : Int) ≠ 0; decide)]
theorem a7r {c : Cu} (b : UInt8) (h0 : c.c = 0) (h : c.p < c.e) (hb : (c.txt.getD c.p 0).toNat ≠ b.toNat) : (c.ajt b).c = 6 := by
  obtain ⟨b1, b2⟩ := ace h0 h
  unfold Cu.ajt
  rw [b2, if_neg hb, ads _ (On.byte h0 h).c0]
theorem a1b {c : Cu} (b : UInt8) (h0 : c.c = 0) (h : c.p < c.e) (hb : (c.txt.getD c.p 0).toNat = b.toNat) : On c (c.ajt b) 1 := by
  obtain ⟨b1, b2⟩ := ace h0 h
  unfold Cu.ajt
  rw [b2, if_pos hb]
  exact On.byte h0 h
def Cu.two (c : Cu) : Cu := (c.ajt 92).ajt 117
theorem two_eq {c : Cu} (hk : c.ok) (h0 : c.c = 0) (n : Int) (hn : 55296 ≤ n ∧ n ≤ 56319) :
    ((ae5 c.txt c.p n).2.2 = 0 → On c c.two.four.1 6 ∧ 56320 ≤ c.two.four.2 ∧ c.two.four.2 ≤ 57343 ∧ ae5 c.txt c.p n = (aaj (65536 + 1024 * (n - 55296) + c.two.four.2 - 56320), (c.p : Int) + 6, 0)) ∧
    ((ae5 c.txt c.p n).2.2 ≠ 0 → (c.two.four.2 < 56320 ∨ 57344 ≤ c.two.four.2) ∧ (c.two.four.1.fail 6).c = (ae5 c.txt c.p n).2.2) := by
  have hl := aci hk
  have h1 := hk.1
  have bad : ∀ x : Int, x ≠ 0 → c.two.c = x → (c.two.four.2 < 56320 ∨ 57344 ≤ c.two.four.2) ∧ (c.two.four.1.fail 6).c = x := fun x hx hc => by
    have hne : c.two.c ≠ 0 := by rw [hc]; exact hx
    rw [ba2 hne]
    exact ⟨.inl (by show (0 : Int) < 56320; decide), by show (c.two.fail 6).c = x; rw [ahv _ hne, hc]⟩
  unfold ae5
  by_cases a : c.p = c.e
  · rw [if_pos (by omega)]
    refine ⟨fun k => absurd k (by simp), fun _ => bad 1 (by decide) ?_⟩
    have := a19 92 h0 a (by decide)
    unfold Cu.two; rw [a1a _ (by omega)]; exact this
  have a' : c.p < c.e := by omega
  rw [if_neg (by omega)]
  by_cases b : (c.txt.getD c.p 0).toNat ≠ 92
  · rw [if_pos b]
    refine ⟨fun k => absurd k (by simp), fun _ => bad 6 (by decide) ?_⟩
    have := a7r 92 h0 a' b
    unfold Cu.two; rw [a1a _ (by omega)]; exact this
  have on1 := a1b 92 h0 a' (by show _ = 92; omega)
  rw [if_neg b]
  have hk1 := amz hk 92
  by_cases d : c.txt.length ≤ c.p + 1
  · rw [if_pos d]
    refine ⟨fun k => absurd k (by simp), fun _ => bad 1 (by decide) ?_⟩
    exact a19 117 on1.c0 (by rw [on1.p, on1.e]; omega) (by decide)
  rw [if_neg d]
  have a2 : (c.ajt 92).p < (c.ajt 92).e := by rw [on1.p, on1.e]; omega
  by_cases f : (c.txt.getD (c.p + 1) 0).toNat ≠ 117
  · rw [if_pos f]
    refine ⟨fun k => absurd k (by simp), fun _ => bad 6 (by decide) ?_⟩
    exact a7r 117 on1.c0 a2 (by rw [on1.txt, on1.p]; exact f)
  rw [if_neg f]
  have on2 : On c c.two 2 := on1.trans (a1b 117 on1.c0 a2 (by rw [on1.txt, on1.p]; show _ = 117; omega))
  have hk2 := amz hk1 117
  have fe := az6 4 c.two 0 hk2 on2.c0
  rw [on2.txt, on2.p] at fe
  have fe : ((afc c.txt 4 (c.p + 2) 0).2 = 0 → On c.two c.two.four.1 4 ∧ c.two.four.2 = (afc c.txt 4 (c.p + 2) 0).1) ∧ ((afc c.txt 4 (c.p + 2) 0).2 ≠ 0 → c.two.four.1.c = (afc c.txt 4 (c.p + 2) 0).2 ∧ c.two.four.2 = 0) := fe
  by_cases g : (afc c.txt 4 (c.p + 2) 0).2 ≠ 0
  · rw [if_pos g]
    obtain ⟨q1, q2⟩ := fe.2 g
    exact ⟨fun k => absurd k g, fun _ => ⟨.inl (by rw [q2]; decide), by rw [ahv _ (by rw [q1]; exact g), q1]⟩⟩
  rw [if_neg g]
  obtain ⟨q1, q2⟩ := fe.1 (by omega)
  rw [← q2]
  by_cases m : c.two.four.2 < 56320 ∨ 57343 < c.two.four.2
  · rw [if_pos m]
    exact ⟨fun k => absurd k (by simp), fun _ => ⟨by omega, by rw [ads _ q1.c0]⟩⟩
  · rw [if_neg m]
    exact ⟨fun _ => ⟨on2.trans q1, by omega, by omega, rfl⟩, fun k => absurd rfl k⟩
theorem a45 (c : Cu) : c.number = if c.four.2 < 55296 ∨ 57344 ≤ c.four.2 then c.four
    else if 56320 ≤ c.four.2 then (c.four.1.fail 6, 0)
    else if c.four.1.two.four.2 < 56320 ∨ 57344 ≤ c.four.1.two.four.2 then (c.four.1.two.four.1.fail 6, 0)
    else (c.four.1.two.four.1, 65536 + (c.four.2 - 55296) * 1024 + (c.four.1.two.four.2 - 56320)) := rfl
theorem esc_eq {c : Cu} (hk : c.ok) (h0 : c.c = 0) :
    ((amo c.txt c.p).2.2 = 0 → ∃ n, On c c.aol n ∧ (amo c.txt c.p).2.1 = ((c.p + n : Nat) : Int) ∧ c.axx = (amo c.txt c.p).1) ∧
    ((amo c.txt c.p).2.2 ≠ 0 → c.aol.c = (amo c.txt c.p).2.2) := by
  have hl := aci hk
  have h1 := hk.1
  unfold amo
  by_cases a : c.p = c.e
  · obtain ⟨b1, b2⟩ := ahr h0 a
    rw [if_pos (by omega)]
    refine ⟨fun k => absurd k (by simp), fun _ => ?_⟩
    unfold Cu.aol
    rw [b2, if_neg (by decide), if_neg (by decide), b1, ahv _ (by show (1 : Int) ≠ 0; decide)]
  have a' : c.p < c.e := by omega
  obtain ⟨b1, b2⟩ := ace h0 a'
  have on1 := On.byte h0 a'
  rw [if_neg (by omega)]
  by_cases b : (c.txt.getD c.p 0).toNat ≠ 117
  · rw [if_pos b]
    by_cases p : ac1 (c.txt.getD c.p 0) = true
    · rw [if_pos p]
      refine ⟨fun _ => ⟨1, ?_, rfl, ?_⟩, fun k => absurd rfl k⟩
      · unfold Cu.aol; rw [b2, if_neg b, if_pos p]; exact on1
      · unfold Cu.axx ae8; rw [b2, if_neg b, if_pos p]
    · rw [if_neg p]
      refine ⟨fun k => absurd k (by simp), fun _ => ?_⟩
      unfold Cu.aol; rw [b2, if_neg b, if_neg p, ads _ on1.c0]
  rw [if_neg b]
  have hb : (c.txt.getD c.p 0).toNat = 117 := by omega
  have hk1 := abv hk
  have hC : c.aol = c.byte.number.1 := by unfold Cu.aol; rw [b2, if_pos hb]
  have hO : c.axx = if c.byte.number.1.c = 0 then aaj c.byte.number.2 else [] := by unfold Cu.axx; rw [b2, if_pos hb]
  have fe : ((afc c.byte.txt 4 c.byte.p 0).2 = 0 → On c.byte c.byte.four.1 4 ∧ c.byte.four.2 = (afc c.byte.txt 4 c.byte.p 0).1) ∧ ((afc c.byte.txt 4 c.byte.p 0).2 ≠ 0 → c.byte.four.1.c = (afc c.byte.txt 4 c.byte.p 0).2 ∧ c.byte.four.2 = 0) := az6 4 c.byte 0 hk1 on1.c0
  rw [on1.txt, on1.p] at fe
  rw [hC, hO, a45]
  by_cases g : (afc c.txt 4 (c.p + 1) 0).2 ≠ 0
  · rw [if_pos g]
    obtain ⟨q1, q2⟩ := fe.2 g
    refine ⟨fun k => absurd k g, fun _ => ?_⟩
    rw [if_pos (.inl (by rw [q2]; decide)), q1]
  rw [if_neg g]
  obtain ⟨q1, q2⟩ := fe.1 (by omega)
  have on5 := on1.trans q1
  rw [← q2]
  by_cases m1 : 55296 ≤ c.byte.four.2 ∧ c.byte.four.2 ≤ 56319
  · rw [if_pos m1, if_neg (by omega), if_neg (by omega)]
    have te := two_eq (atx hk1) q1.c0 c.byte.four.2 m1
    rw [on5.txt, on5.p] at te
    have te : ((ae5 c.txt (c.p + 5) c.byte.four.2).2.2 = 0 → On c.byte.four.1 c.byte.four.1.two.four.1 6 ∧ 56320 ≤ c.byte.four.1.two.four.2 ∧ c.byte.four.1.two.four.2 ≤ 57343 ∧ ae5 c.txt (c.p + 5) c.byte.four.2 = (aaj (65536 + 1024 * (c.byte.four.2 - 55296) + c.byte.four.1.two.four.2 - 56320), ((c.p + 5 : Nat) : Int) + 6, 0)) ∧
      ((ae5 c.txt (c.p + 5) c.byte.four.2).2.2 ≠ 0 → (c.byte.four.1.two.four.2 < 56320 ∨ 57344 ≤ c.byte.four.1.two.four.2) ∧ (c.byte.four.1.two.four.1.fail 6).c = (ae5 c.txt (c.p + 5) c.byte.four.2).2.2) := te
    refine ⟨fun k => ?_, fun k => ?_⟩
    · obtain ⟨t1, t2, t3, t4⟩ := te.1 k
      rw [if_neg (by omega)]
      refine ⟨11, on5.trans t1, ?_, ?_⟩
      · rw [t4]; show ((c.p + 5 : Nat) : Int) + 6 = _; omega
      · rw [t4, if_pos t1.c0]
        show aaj _ = aaj _
        congr 1; omega
    · obtain ⟨t1, t2⟩ := te.2 k
      rw [if_pos t1]; exact t2
  · rw [if_neg m1]
    by_cases m2 : 56320 ≤ c.byte.four.2 ∧ c.byte.four.2 ≤ 57343
    · rw [if_pos m2, if_neg (by omega), if_pos m2.1]
      refine ⟨fun k => absurd k (by simp), fun _ => ?_⟩
      show (c.byte.four.1.fail 6).c = 6
      rw [ads _ q1.c0]
    · rw [if_neg m2, if_pos (by omega)]
      exact ⟨fun _ => ⟨5, on5, by show (c.p : Int) + 5 = _; omega, by rw [if_pos q1.c0]⟩, fun k => absurd rfl k⟩
theorem bco : ∀ (k : Nat) (c : Cu) (s : List UInt8), c.ok → c.c = 0 → ∃ j, j ≤ k ∧ On c (ae7 k c s).1 j ∧ (ae7 k c s).2 = s ++ (c.txt.drop c.p).take j ∧ (∀ i, i < j → cont (c.txt.getD (c.p + i) 0) = true) ∧
    c.p + j ≤ c.e ∧ (j = k ∨ c.p + j = c.e ∨ cont (c.txt.getD (c.p + j) 0) = false)
  | 0, c, s, h, h0 => by
    rw [ae7]
    exact ⟨0, Nat.le_refl _, ⟨rfl, rfl, h0, rfl⟩, by simp, by omega, by have := h.1; omega, .inl rfl⟩
  | k + 1, c, s, h, h0 => by
    rw [ae7]
    by_cases hp : c.p < c.e
    · obtain ⟨b1, b2⟩ := ace h0 hp
      have hl := aci h
      by_cases hc : cont (c.txt.getD c.p 0) = true
      · rw [if_pos ⟨h0, hp, by rw [b2]; exact hc⟩]
        have on1 := On.byte h0 hp
        obtain ⟨j, q1, q2, q3, q4, q5, q6⟩ := bco k c.byte (s ++ [c.aa2]) (abv h) on1.c0
        rw [on1.txt, on1.p] at q3 q4 q6
        rw [on1.p, on1.e] at q5
        rw [on1.e] at q6
        refine ⟨j + 1, by omega, ?_, ?_, fun i hi => ?_, by omega, ?_⟩
        · have := on1.trans q2; rw [Nat.add_comm 1 j] at this; exact this
        · rw [q3, b2, List.append_assoc]
          congr 1
          rw [List.drop_eq_getElem_cons (show c.p < c.txt.length by omega), List.take_succ_cons, List.getD_eq_getElem?_getD, List.getElem?_eq_getElem (show c.p < c.txt.length by omega)]; rfl
        · cases i with
          | zero => exact hc
          | succ i => rw [show c.p + (i + 1) = c.p + 1 + i by omega]; exact q4 i (by omega)
        · rw [show c.p + (j + 1) = c.p + 1 + j by omega]
          rcases q6 with q6 | q6 | q6
          · exact .inl (by omega)
          · exact .inr (.inl q6)
          · exact .inr (.inr q6)
      · rw [if_neg (by rw [b2]; exact fun h => hc h.2.2)]
        refine ⟨0, by omega, ⟨rfl, rfl, h0, rfl⟩, by simp, by omega, by omega, .inr (.inr ?_)⟩
        cases hq : cont (c.txt.getD (c.p + 0) 0) with
        | false => rfl
        | true => exact absurd hq hc
    · rw [if_neg (by omega)]
      have := h.1
      exact ⟨0, by omega, ⟨rfl, rfl, h0, rfl⟩, by simp, by omega, by omega, .inr (.inl (by omega))⟩
theorem a6o (x : List UInt8) (m : Nat) : ∀ r i a, i + r ≤ m → m ≤ x.length → arl (x.take m) r i a = arl x r i a
  | 0, _, _, _, _ => rfl
  | r + 1, i, a, h, hm => by
    simp only [arl]
    rw [aeu (by omega), a6o x m r (i + 1) _ (by omega) hm]
theorem a6n (x : List UInt8) : ∀ r i a, arl x r i a ≠ none → ∀ j, i ≤ j → j < i + r → cont (x.getD j 0) = true
  | 0, _, _, _, _, _, _ => by omega
  | r + 1, i, a, h, j, h1, h2 => by
    simp only [arl] at h
    by_cases hc : cont (x.getD i 0) = true
    · rw [if_pos hc] at h
      by_cases e : j = i
      · subst e; exact hc
      · exact a6n x r (i + 1) _ h j (by omega) (by omega)
    · rw [if_neg hc] at h; exact absurd rfl h
theorem uOut_2 (n : Nat) (o : Option Nat) : (bbx n o).2 = 0 ∨ ((bbx n o).2 = n ∧ o ≠ none) := by
  cases o with
  | none => exact .inl rfl
  | some r =>
    rw [am7]
    repeat' split
    · exact .inl rfl
    · exact .inr ⟨rfl, by simp⟩
    · exact .inl rfl
theorem a8d (x : List UInt8) (hx : 0 < x.length) : (ac3 x 0).2 = 0 ∨ ((ac3 x 0).2 = ado (x.getD 0 0).toNat ∧ 1 ≤ ado (x.getD 0 0).toNat ∧ ado (x.getD 0 0).toNat ≤ x.length ∧ ∀ j, 1 ≤ j → j < ado (x.getD 0 0).toNat → cont (x.getD j 0) = true) := by
  unfold ac3
  rw [if_neg (by omega)]
  split
  · exact .inl rfl
  split
  · exact .inl rfl
  split
  · rename_i h1 h2 h3
    exact .inr ⟨h3.symm, by omega, by omega, by omega⟩
  · rename_i h1 h2 h3
    rcases uOut_2 (ado (x.getD 0 0).toNat) (arl x (ado (x.getD 0 0).toNat - 1) (0 + 1) ((x.getD 0 0).toNat % 2 ^ (7 - ado (x.getD 0 0).toNat))) with h | ⟨h, k⟩
    · exact .inl h
    · exact .inr ⟨h, by omega, by omega, fun j a b => a6n x _ _ _ k j a (by omega)⟩
theorem asv (x : List UInt8) (m : Nat) (hm : ado (x.getD 0 0).toNat ≤ m) (h1 : 1 ≤ m) (hx : m ≤ x.length) : ac3 (x.take m) 0 = ac3 x 0 := by
  have e : (x.take m).getD 0 0 = x.getD 0 0 := aeu (by omega)
  have l : (x.take m).length = m := by rw [List.length_take]; omega
  unfold ac3
  rw [e, l, if_neg (show ¬ m ≤ 0 by omega), if_neg (show ¬ x.length ≤ 0 by omega)]
  by_cases a : ado (x.getD 0 0).toNat = 0
  · rw [if_pos a, if_pos a]
  · rw [if_neg a, if_neg a, if_neg (show ¬ m < 0 + ado (x.getD 0 0).toNat by omega), if_neg (show ¬ x.length < 0 + ado (x.getD 0 0).toNat by omega), a6o x m _ _ _ (by omega) hx]
theorem bd0 {s : List UInt8} (hs : 0 < s.length) (h : (abr s 0).2 = 0) : ak7 s = 0 := by
  have hw : anl s 0 0 = (0, 0) := by rw [anl, if_neg (by omega), dif_pos h]
  unfold ak7
  rw [hw, if_neg (show ¬ 0 = s.length by omega)]; rfl
theorem check_1 {s : List UInt8} (hs : 0 < s.length) (h : (abr s 0).2 = s.length) : ak7 s = -1 := by
  have hw : anl s 0 0 = (0 + (abr s 0).2, 0 + 1) := by
    rw [anl, if_neg (by omega), dif_neg (by omega), anl, if_pos (by omega)]
  unfold ak7
  rw [hw, if_pos (show 0 + (abr s 0).2 = s.length by omega)]
theorem bbt {b : UInt8} : ado b.toNat = 0 ∨ adk b + 1 = ado b.toNat := by
  unfold ado adk; repeat' split
  all_goals omega
theorem raw_eq {d : Cu} (hk : d.ok) (h0 : d.c = 0) (hp : d.p < d.e) :
    ((abr d.txt d.p).2 = 0 → (d.byte.arj (d.txt.getD d.p 0)).c = 5) ∧
    ((abr d.txt d.p).2 ≠ 0 → On d (d.byte.arj (d.txt.getD d.p 0)) (abr d.txt d.p).2 ∧ d.byte.azo (d.txt.getD d.p 0) = (d.txt.take (d.p + (abr d.txt d.p).2)).drop d.p) := by
  have hl := aci hk
  have on1 := On.byte h0 hp
  have hxl : (d.txt.drop d.p).length = d.e - d.p := by rw [List.length_drop, hl]
  have hx0 : (d.txt.drop d.p).getD 0 0 = d.txt.getD d.p 0 := by simp [List.getD_eq_getElem?_getD, List.getElem?_drop]
  have hxc : d.txt.drop d.p = d.txt.getD d.p 0 :: d.txt.drop (d.p + 1) := by
    rw [List.drop_eq_getElem_cons (show d.p < d.txt.length by omega), List.getD_eq_getElem?_getD, List.getElem?_eq_getElem (show d.p < d.txt.length by omega)]; rfl
  have hu : abr d.txt d.p = ac3 (d.txt.drop d.p) 0 := by rw [a1k, if_neg (by omega), aui]
  obtain ⟨j, q1, q2, q3, q4, q5, q6⟩ := bco (adk (d.txt.getD d.p 0)) d.byte [d.txt.getD d.p 0] (abv hk) on1.c0
  rw [on1.txt, on1.p] at q3 q4 q6
  rw [on1.p, on1.e] at q5
  rw [on1.e] at q6
  have hS : (ae7 (adk (d.txt.getD d.p 0)) d.byte [d.txt.getD d.p 0]).2 = (d.txt.drop d.p).take (j + 1) := by
    rw [q3, hxc, List.take_succ_cons]; rfl
  have hSl : ((d.txt.drop d.p).take (j + 1)).length = j + 1 := by rw [List.length_take, hxl]; omega
  have hS0 : ((d.txt.drop d.p).take (j + 1)).getD 0 0 = d.txt.getD d.p 0 := by rw [aeu (by omega), hx0]
  rw [hu]
  unfold Cu.arj Cu.azo
  rw [hS]
  refine ⟨fun hn => ?_, fun hn => ?_⟩
  · have hz : (abr ((d.txt.drop d.p).take (j + 1)) 0).2 = 0 := by
      rw [← aui]
      rcases a8d ((d.txt.drop d.p).take (j + 1)) (by omega) with h | ⟨h1, h2, h3, h4⟩
      · exact h
      · rw [hS0] at h1 h2 h3
        rw [asv _ (j + 1) (by rw [hx0]; omega) (by omega) (by omega)]; exact hn
    rw [bd0 (by omega) hz, if_pos (by decide), ads _ q2.c0]
  · rcases a8d (d.txt.drop d.p) (by omega) with h | ⟨h1, h2, h3, h4⟩
    · exact absurd h hn
    · rw [hx0] at h1 h2 h3 h4
      have ht := bbt (b := d.txt.getD d.p 0)
      have hj : j + 1 = ado (d.txt.getD d.p 0).toNat := by
        rcases q6 with q6 | q6 | q6
        · omega
        · omega
        · by_cases e : j + 1 = ado (d.txt.getD d.p 0).toNat
          · exact e
          · exfalso
            have := h4 (j + 1) (by omega) (by omega)
            rw [show (d.txt.drop d.p).getD (j + 1) 0 = d.txt.getD (d.p + 1 + j) 0 by
              rw [List.getD_eq_getElem?_getD, List.getD_eq_getElem?_getD, List.getElem?_drop, show d.p + (j + 1) = d.p + 1 + j by omega], q6] at this
            cases this
      have hz : (abr ((d.txt.drop d.p).take (j + 1)) 0).2 = ((d.txt.drop d.p).take (j + 1)).length := by
        rw [← aui, asv _ (j + 1) (by rw [hx0]; omega) (by omega) (by omega), h1, hSl, hj]
      rw [check_1 (by omega) hz, if_neg (by decide), if_neg (by decide), h1, ← hj]
      refine ⟨?_, ?_⟩
      · have := on1.trans q2
        rw [Nat.add_comm 1 j] at this; exact this
      · rw [List.drop_take, show d.p + (j + 1) - d.p = j + 1 by omega]
theorem aep {n : Nat} {c : Cu} {o : List UInt8} (hn : 0 < n) (h : c.c ≠ 0) : aei n c o = (c, []) := by
  cases n with
  | zero => omega
  | succ n => rw [aei, if_pos h]
def Same (d : Cu) (P : Cu × List UInt8) (R : Int × Nat × List UInt8) : Prop :=
  (R.1 = 0 → P.1.c = 0 ∧ P.1.p = R.2.1 ∧ P.2 = R.2.2 ∧ P.1.s = d.s ∧ P.1.e = d.e) ∧ (R.1 ≠ 0 → P.1.c = R.1 ∧ P.2 = [])
theorem go_eq : ∀ (n m : Nat) (d : Cu) (o : List UInt8), d.ok → d.c = 0 → d.mu < n → d.txt.length - d.p + 1 ≤ m → Same d (aei n d o) (ab4 d.txt m d.p o)
  | 0, _, _, _, _, _, h, _ => by omega
  | n + 1, 0, _, _, _, _, _, h => by omega
  | n + 1, m + 1, d, o, hk, h0, hn, hm => by
    have hl := aci hk
    have h1 := hk.1
    have hmu : d.mu = d.e - d.p + 1 := by unfold Cu.mu; rw [if_neg (by omega)]
    rw [aei, ab4, if_neg (by omega)]
    by_cases a : d.p = d.e
    · obtain ⟨b1, b2⟩ := ahr h0 a
      have hc : d.byte.c = 1 := by rw [b1]
      rw [if_pos (by omega), if_pos (by omega), aep (by omega) (by omega)]
      exact ⟨fun k => absurd k (by decide), fun _ => ⟨hc, rfl⟩⟩
    have a' : d.p < d.e := by omega
    obtain ⟨b1, b2⟩ := ace h0 a'
    have on1 := On.byte h0 a'
    have hkb := abv hk
    rw [if_neg (show ¬ d.byte.c ≠ 0 by rw [on1.c0]; decide), if_neg (show ¬ d.txt.length ≤ d.p by omega), b2]
    by_cases q34 : (d.txt.getD d.p 0).toNat = 34
    · rw [if_pos q34, if_pos q34]
      exact ⟨fun _ => ⟨on1.c0, on1.p, rfl, on1.s, on1.e⟩, fun k => absurd rfl k⟩
    rw [if_neg q34, if_neg q34]
    by_cases q32 : (d.txt.getD d.p 0).toNat < 32
    · have hp : ad1 d.txt d.p = ([], 0, 3) := by unfold ad1; rw [if_neg (by omega), if_pos q32]
      have hc : (d.byte.fail 3).c = 3 := by rw [ads _ on1.c0]
      rw [if_pos q32, hp, if_pos (by decide), aep (by omega) (by omega)]
      exact ⟨fun k => absurd k (by decide), fun _ => ⟨hc, rfl⟩⟩
    rw [if_neg q32]
    have step : ∀ (f : Cu) (k : Nat) (w : List UInt8), On d f k → 0 < k → f.ok → Same d (aei n f (o ++ w)) (ab4 d.txt m (d.p + k) (o ++ w)) := fun f k w hf hk0 hfk => by
      have hfm : f.mu = f.e - f.p + 1 := by unfold Cu.mu; rw [if_neg (by have := hf.c0; omega)]
      have ih := go_eq n m f (o ++ w) hfk hf.c0 (by rw [hfm, hf.e, hf.p]; omega) (by rw [hf.txt, hf.p]; omega)
      rw [hf.txt, hf.p] at ih
      exact ⟨fun q => by obtain ⟨i1, i2, i3, i4, i5⟩ := ih.1 q; exact ⟨i1, i2, i3, i4.trans hf.s, i5.trans hf.e⟩, ih.2⟩
    by_cases q92 : (d.txt.getD d.p 0).toNat = 92
    · have hp : ad1 d.txt d.p = amo d.txt (d.p + 1) := by unfold ad1; rw [if_pos q92]
      have ee := esc_eq hkb on1.c0
      rw [on1.txt, on1.p] at ee
      rw [if_pos q92, hp]
      by_cases e0 : (amo d.txt (d.p + 1)).2.2 ≠ 0
      · have hc := ee.2 e0
        rw [if_pos e0, aep (by omega) (by rw [hc]; exact e0)]
        exact ⟨fun k => absurd k e0, fun _ => ⟨hc, rfl⟩⟩
      · rw [if_neg e0]
        obtain ⟨k, r1, r2, r3⟩ := ee.1 (by omega)
        rw [r2, r3, Int.toNat_natCast]
        have := step _ (1 + k) (amo d.txt (d.p + 1)).1 (on1.trans r1) (by omega) (akb hkb)
        rw [← Nat.add_assoc] at this
        exact this
    · have ee := raw_eq hk h0 a'
      rw [if_neg q92]
      by_cases e0 : (abr d.txt d.p).2 = 0
      · have hp : ad1 d.txt d.p = ([], 0, 5) := by unfold ad1; rw [if_neg q92, if_neg q32, if_pos e0]
        have hc := ee.1 e0
        rw [hp, if_pos (by decide), aep (by omega) (by omega)]
        exact ⟨fun k => absurd k (by decide), fun _ => ⟨hc, rfl⟩⟩
      · have hp : ad1 d.txt d.p = ((d.txt.take (d.p + (abr d.txt d.p).2)).drop d.p, ((d.p + (abr d.txt d.p).2 : Nat) : Int), 0) := by unfold ad1; rw [if_neg q92, if_neg q32, if_neg e0]
        obtain ⟨r1, r2⟩ := ee.2 e0
        rw [hp, if_neg (fun k => k rfl), r2]
        exact step _ _ _ r1 (by omega) (akk hkb _)
theorem bei {c : Cu} (hk : c.ok) : c.read.2 = c.aiy.2 ∧ c.read.1.c = c.aiy.1.c ∧ (c.aiy.1.c = 0 → c.read.1 = c.aiy.1) := by
  have h1 := hk.1
  have hl := aci hk
  unfold Cu.read Cu.aiy
  by_cases a : c.c ≠ 0
  · have hs : c.start = c := by unfold Cu.start; rw [if_neg (by omega)]
    obtain ⟨b1, _⟩ := aje a
    rw [hs, b1, aep (by omega) a, if_pos a]
    exact ⟨rfl, rfl, fun k => absurd k a⟩
  have h0 : c.c = 0 := by omega
  rw [if_neg a]
  by_cases b : c.p = c.e
  · have hs : c.start = c := by unfold Cu.start; rw [if_neg (by omega)]
    obtain ⟨b1, _⟩ := ahr h0 b
    have hc : c.byte.c = 1 := by rw [b1]
    rw [hs, aep (by omega) (by omega), if_pos b, ads _ h0]
    exact ⟨rfl, hc, fun k => absurd k (by show (1 : Int) ≠ 0; decide)⟩
  have b' : c.p < c.e := by omega
  obtain ⟨d1, d2⟩ := ace h0 b'
  have hg : c.get = c.txt.getD c.p 0 := by unfold Cu.txt; rw [aeu b']; rfl
  rw [if_neg b]
  by_cases e : c.get.toNat ≠ 34
  · have hs : c.start = c.fail 3 := by unfold Cu.start; rw [if_pos ⟨⟨h0, b'⟩, by rw [d2, ← hg]; exact e⟩]
    have hf : (c.fail 3).c = 3 := by rw [ads _ h0]
    obtain ⟨b1, _⟩ := aje (c := c.fail 3) (by omega)
    rw [hs, b1, aep (by omega) (by omega), if_pos e]
    exact ⟨rfl, rfl, fun k => absurd (hf.symm.trans k) (by decide)⟩
  rw [if_neg e]
  have hs : c.start = c := by unfold Cu.start; rw [if_neg (by rw [d2, ← hg]; exact fun k => k.2 (by omega))]
  have on1 := On.byte h0 b'
  rw [hs]
  have ge := go_eq (c.byte.mu + 1) (c.e - c.p) c.byte [] (abv hk) on1.c0 (by omega) (by rw [on1.txt, on1.p]; omega)
  rw [on1.txt, on1.p] at ge
  have ge : Same c.byte (aei (c.byte.mu + 1) c.byte []) (ab4 (c.s.take c.e) (c.e - c.p) (c.p + 1) []) := ge
  by_cases r : (ab4 (c.s.take c.e) (c.e - c.p) (c.p + 1) []).1 = 0
  · rw [if_pos r]
    obtain ⟨g1, g2, g3, g4, g5⟩ := ge.1 r
    refine ⟨g3, g1.trans h0.symm, fun _ => ?_⟩
    generalize (aei (c.byte.mu + 1) c.byte []).1 = f at *
    obtain ⟨fs, fp, fe, fc⟩ := f
    simp only at g1 g2 g4 g5
    rw [g1, g2, g4, g5, on1.s, on1.e]
    obtain ⟨cs, cp, ce, cc⟩ := c
    simp only at h0
    rw [h0]
  · rw [if_neg r, ads _ h0]
    obtain ⟨g1, g2⟩ := ge.2 r
    exact ⟨g2, g1, fun k => absurd k r⟩
end Go.Proofs.Ytllncocibkgjkaa
