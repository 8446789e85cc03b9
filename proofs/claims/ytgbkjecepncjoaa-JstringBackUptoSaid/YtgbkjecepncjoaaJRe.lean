/-
  A text of JSON is read by the program as by the document (plain law).
-/
import Derived.Test.YtgbkjecepncjoaaJSt
import Derived.Test.YtgbkjecepncjoaaJD3
set_option linter.unusedSimpArgs false
set_option linter.unusedVariables false
set_option maxHeartbeats 4000000
namespace Go.Proofs.Ytgbkjecepncjoaa
open Go Go.VG
set_option maxRecDepth 100000
def Cu.txt (c : Cu) : List UInt8 := c.s.take c.e
theorem byte_lt {c : Cu} (h0 : c.c = 0) (h : c.p < c.e) : c.byte = { c with p := c.p + 1 } ∧ c.byteV = c.txt.getD c.p 0 := by
  refine ⟨?_, ?_⟩
  · unfold Cu.byte Cu.pass
    rw [if_neg (by omega), if_neg (by omega), if_neg (by omega)]; rfl
  · unfold Cu.byteV Cu.txt
    rw [if_pos ⟨h0, h⟩, getD_take h]; rfl
theorem byte_end {c : Cu} (h0 : c.c = 0) (h : c.p = c.e) : c.byte = { c with c := 1 } ∧ c.byteV = 0 := by
  refine ⟨?_, ?_⟩
  · unfold Cu.byte Cu.pass
    rw [if_neg (by omega), if_neg (by omega), if_pos (by omega)]
  · unfold Cu.byteV; rw [if_neg (by omega)]
theorem byte_err {c : Cu} (h0 : c.c ≠ 0) : c.byte = c ∧ c.byteV = 0 := by
  refine ⟨?_, ?_⟩
  · unfold Cu.byte Cu.pass; rw [if_pos h0]
  · unfold Cu.byteV; rw [if_neg (by omega)]
theorem fail_c0 {c : Cu} (k : Int) (h : c.c = 0) : c.fail k = { c with c := k } := by unfold Cu.fail; rw [if_pos h]
theorem fail_ne {c : Cu} (k : Int) (h : c.c ≠ 0) : c.fail k = c := by unfold Cu.fail; rw [if_neg h]
theorem txt_len {c : Cu} (h : c.ok) : c.txt.length = c.e := by have := h.2; unfold Cu.txt; rw [List.length_take]; omega
theorem hex_end {c : Cu} (h0 : c.c = 0) (h : c.p = c.e) : c.hexC.c = 1 := by
  obtain ⟨b1, b2⟩ := byte_end h0 h
  unfold Cu.hexC
  rw [b2, if_neg (by decide), b1, fail_ne _ (by show (1 : Int) ≠ 0; decide)]
/-- a cursor that reads on in the same text -/
structure On (c d : Cu) (n : Nat) : Prop where
  s : d.s = c.s
  e : d.e = c.e
  c0 : d.c = 0
  p : d.p = c.p + n
theorem On.trans {c d f : Cu} {n m : Nat} (h : On c d n) (k : On d f m) : On c f (n + m) := ⟨k.s.trans h.s, k.e.trans h.e, k.c0, by rw [k.p, h.p]; omega⟩
theorem On.txt {c d : Cu} {n : Nat} (h : On c d n) : d.txt = c.txt := by unfold Cu.txt; rw [h.s, h.e]
theorem On.byte {c : Cu} (h0 : c.c = 0) (h : c.p < c.e) : On c c.byte 1 := by rw [(byte_lt h0 h).1]; exact ⟨rfl, rfl, h0, rfl⟩
theorem four_eq : ∀ (k : Nat) (c : Cu) (u : Int), c.ok → c.c = 0 →
    ((digD c.txt k c.p u).2 = 0 → On c (fourGo k c u).1 k ∧ (fourGo k c u).2 = (digD c.txt k c.p u).1) ∧
    ((digD c.txt k c.p u).2 ≠ 0 → (fourGo k c u).1.c = (digD c.txt k c.p u).2 ∧ (fourGo k c u).2 = 0)
  | 0, c, u, h, h0 => by
    rw [digD, fourGo]
    exact ⟨fun _ => ⟨⟨rfl, rfl, h0, rfl⟩, rfl⟩, fun k => absurd rfl k⟩
  | k + 1, c, u, h, h0 => by
    have hl := txt_len h
    rw [digD, fourGo]
    by_cases hp : c.p = c.e
    · have he := hex_end h0 hp
      rw [if_pos (by omega), if_pos (by omega)]
      exact ⟨fun k => absurd k (by simp), fun _ => ⟨he, rfl⟩⟩
    · have hlt : c.p < c.e := by have := h.1; omega
      obtain ⟨b1, b2⟩ := byte_lt h0 hlt
      rw [if_neg (by omega)]
      by_cases hn : nibIs (lowB (c.txt.getD c.p 0)) = true
      · have hx : c.hexC = c.byte := by unfold Cu.hexC; rw [b2, if_pos hn]
        have hv : c.hexV = nibV (lowB (c.txt.getD c.p 0)) := by unfold Cu.hexV; rw [b2]
        have hon := On.byte h0 hlt
        rw [if_pos hn, hx, if_neg (by rw [hon.c0]; simp), hv]
        have ih := four_eq k c.byte (16 * u + nibV (lowB (c.txt.getD c.p 0))) (byte_ok h) hon.c0
        rw [hon.txt, hon.p] at ih
        refine ⟨fun q => ?_, ih.2⟩
        obtain ⟨i1, i2⟩ := ih.1 q
        have := hon.trans i1
        rw [Nat.add_comm 1 k] at this
        exact ⟨this, i2⟩
      · have hx : c.hexC.c = 6 := by
          unfold Cu.hexC
          rw [b2, if_neg hn, fail_c0 _ (On.byte h0 hlt).c0]
        rw [if_neg hn, if_pos (by omega)]
        exact ⟨fun k => absurd k (by simp), fun _ => ⟨hx, rfl⟩⟩
theorem must_err {c : Cu} (b : UInt8) (h : c.c ≠ 0) : c.must b = c := by
  obtain ⟨b1, b2⟩ := byte_err h
  unfold Cu.must; rw [b1]
  split
  · rfl
  · exact fail_ne _ h
theorem hex_err {c : Cu} (h : c.c ≠ 0) : c.hexC = c := by
  obtain ⟨b1, b2⟩ := byte_err h
  unfold Cu.hexC; rw [b1, fail_ne _ h]; split <;> rfl
theorem four_err {c : Cu} (h : c.c ≠ 0) : c.four = (c, 0) := by
  unfold Cu.four
  rw [fourGo, hex_err h, if_pos h]
theorem must_end {c : Cu} (b : UInt8) (h0 : c.c = 0) (h : c.p = c.e) (hb : b.toNat ≠ 0) : (c.must b).c = 1 := by
  obtain ⟨b1, b2⟩ := byte_end h0 h
  unfold Cu.must
  rw [b2, if_neg (by show ¬ 0 = b.toNat; omega), b1, fail_ne _ (by show (1 : Int) ≠ 0; decide)]
theorem must_no {c : Cu} (b : UInt8) (h0 : c.c = 0) (h : c.p < c.e) (hb : (c.txt.getD c.p 0).toNat ≠ b.toNat) : (c.must b).c = 6 := by
  obtain ⟨b1, b2⟩ := byte_lt h0 h
  unfold Cu.must
  rw [b2, if_neg hb, fail_c0 _ (On.byte h0 h).c0]
theorem must_yes {c : Cu} (b : UInt8) (h0 : c.c = 0) (h : c.p < c.e) (hb : (c.txt.getD c.p 0).toNat = b.toNat) : On c (c.must b) 1 := by
  obtain ⟨b1, b2⟩ := byte_lt h0 h
  unfold Cu.must
  rw [b2, if_pos hb]
  exact On.byte h0 h
/-- the second one of a pair -/
def Cu.two (c : Cu) : Cu := (c.must 92).must 117
theorem two_eq {c : Cu} (hk : c.ok) (h0 : c.c = 0) (n : Int) (hn : 55296 ≤ n ∧ n ≤ 56319) :
    ((pairD c.txt c.p n).2.2 = 0 → On c c.two.four.1 6 ∧ 56320 ≤ c.two.four.2 ∧ c.two.four.2 ≤ 57343 ∧ pairD c.txt c.p n = (uBytes (65536 + 1024 * (n - 55296) + c.two.four.2 - 56320), (c.p : Int) + 6, 0)) ∧
    ((pairD c.txt c.p n).2.2 ≠ 0 → (c.two.four.2 < 56320 ∨ 57344 ≤ c.two.four.2) ∧ (c.two.four.1.fail 6).c = (pairD c.txt c.p n).2.2) := by
  have hl := txt_len hk
  have h1 := hk.1
  have bad : ∀ x : Int, x ≠ 0 → c.two.c = x → (c.two.four.2 < 56320 ∨ 57344 ≤ c.two.four.2) ∧ (c.two.four.1.fail 6).c = x := fun x hx hc => by
    have hne : c.two.c ≠ 0 := by rw [hc]; exact hx
    rw [four_err hne]
    exact ⟨.inl (by show (0 : Int) < 56320; decide), by show (c.two.fail 6).c = x; rw [fail_ne _ hne, hc]⟩
  unfold pairD
  by_cases a : c.p = c.e
  · rw [if_pos (by omega)]
    refine ⟨fun k => absurd k (by simp), fun _ => bad 1 (by decide) ?_⟩
    have := must_end 92 h0 a (by decide)
    unfold Cu.two; rw [must_err _ (by omega)]; exact this
  have a' : c.p < c.e := by omega
  rw [if_neg (by omega)]
  by_cases b : (c.txt.getD c.p 0).toNat ≠ 92
  · rw [if_pos b]
    refine ⟨fun k => absurd k (by simp), fun _ => bad 6 (by decide) ?_⟩
    have := must_no 92 h0 a' b
    unfold Cu.two; rw [must_err _ (by omega)]; exact this
  have on1 := must_yes 92 h0 a' (by show _ = 92; omega)
  rw [if_neg b]
  have hk1 := must_ok hk 92
  by_cases d : c.txt.length ≤ c.p + 1
  · rw [if_pos d]
    refine ⟨fun k => absurd k (by simp), fun _ => bad 1 (by decide) ?_⟩
    exact must_end 117 on1.c0 (by rw [on1.p, on1.e]; omega) (by decide)
  rw [if_neg d]
  have a2 : (c.must 92).p < (c.must 92).e := by rw [on1.p, on1.e]; omega
  by_cases f : (c.txt.getD (c.p + 1) 0).toNat ≠ 117
  · rw [if_pos f]
    refine ⟨fun k => absurd k (by simp), fun _ => bad 6 (by decide) ?_⟩
    exact must_no 117 on1.c0 a2 (by rw [on1.txt, on1.p]; exact f)
  rw [if_neg f]
  have on2 : On c c.two 2 := on1.trans (must_yes 117 on1.c0 a2 (by rw [on1.txt, on1.p]; show _ = 117; omega))
  have hk2 := must_ok hk1 117
  have fe := four_eq 4 c.two 0 hk2 on2.c0
  rw [on2.txt, on2.p] at fe
  have fe : ((digD c.txt 4 (c.p + 2) 0).2 = 0 → On c.two c.two.four.1 4 ∧ c.two.four.2 = (digD c.txt 4 (c.p + 2) 0).1) ∧ ((digD c.txt 4 (c.p + 2) 0).2 ≠ 0 → c.two.four.1.c = (digD c.txt 4 (c.p + 2) 0).2 ∧ c.two.four.2 = 0) := fe
  by_cases g : (digD c.txt 4 (c.p + 2) 0).2 ≠ 0
  · rw [if_pos g]
    obtain ⟨q1, q2⟩ := fe.2 g
    exact ⟨fun k => absurd k g, fun _ => ⟨.inl (by rw [q2]; decide), by rw [fail_ne _ (by rw [q1]; exact g), q1]⟩⟩
  rw [if_neg g]
  obtain ⟨q1, q2⟩ := fe.1 (by omega)
  rw [← q2]
  by_cases m : c.two.four.2 < 56320 ∨ 57343 < c.two.four.2
  · rw [if_pos m]
    exact ⟨fun k => absurd k (by simp), fun _ => ⟨by omega, by rw [fail_c0 _ q1.c0]⟩⟩
  · rw [if_neg m]
    exact ⟨fun _ => ⟨on2.trans q1, by omega, by omega, rfl⟩, fun k => absurd rfl k⟩
theorem number_two (c : Cu) : c.number = if c.four.2 < 55296 ∨ 57344 ≤ c.four.2 then c.four
    else if 56320 ≤ c.four.2 then (c.four.1.fail 6, 0)
    else if c.four.1.two.four.2 < 56320 ∨ 57344 ≤ c.four.1.two.four.2 then (c.four.1.two.four.1.fail 6, 0)
    else (c.four.1.two.four.1, 65536 + (c.four.2 - 55296) * 1024 + (c.four.1.two.four.2 - 56320)) := rfl
theorem esc_eq {c : Cu} (hk : c.ok) (h0 : c.c = 0) :
    ((escD c.txt c.p).2.2 = 0 → ∃ n, On c c.escC n ∧ (escD c.txt c.p).2.1 = ((c.p + n : Nat) : Int) ∧ c.escO = (escD c.txt c.p).1) ∧
    ((escD c.txt c.p).2.2 ≠ 0 → c.escC.c = (escD c.txt c.p).2.2) := by
  have hl := txt_len hk
  have h1 := hk.1
  unfold escD
  by_cases a : c.p = c.e
  · obtain ⟨b1, b2⟩ := byte_end h0 a
    rw [if_pos (by omega)]
    refine ⟨fun k => absurd k (by simp), fun _ => ?_⟩
    unfold Cu.escC
    rw [b2, if_neg (by decide), if_neg (by decide), b1, fail_ne _ (by show (1 : Int) ≠ 0; decide)]
  have a' : c.p < c.e := by omega
  obtain ⟨b1, b2⟩ := byte_lt h0 a'
  have on1 := On.byte h0 a'
  rw [if_neg (by omega)]
  by_cases b : (c.txt.getD c.p 0).toNat ≠ 117
  · rw [if_pos b]
    by_cases p : plainIs (c.txt.getD c.p 0) = true
    · rw [if_pos p]
      refine ⟨fun _ => ⟨1, ?_, rfl, ?_⟩, fun k => absurd rfl k⟩
      · unfold Cu.escC; rw [b2, if_neg b, if_pos p]; exact on1
      · unfold Cu.escO simpleD; rw [b2, if_neg b, if_pos p]
    · rw [if_neg p]
      refine ⟨fun k => absurd k (by simp), fun _ => ?_⟩
      unfold Cu.escC; rw [b2, if_neg b, if_neg p, fail_c0 _ on1.c0]
  rw [if_neg b]
  have hb : (c.txt.getD c.p 0).toNat = 117 := by omega
  have hk1 := byte_ok hk
  have hC : c.escC = c.byte.number.1 := by unfold Cu.escC; rw [b2, if_pos hb]
  have hO : c.escO = if c.byte.number.1.c = 0 then uBytes c.byte.number.2 else [] := by unfold Cu.escO; rw [b2, if_pos hb]
  have fe : ((digD c.byte.txt 4 c.byte.p 0).2 = 0 → On c.byte c.byte.four.1 4 ∧ c.byte.four.2 = (digD c.byte.txt 4 c.byte.p 0).1) ∧ ((digD c.byte.txt 4 c.byte.p 0).2 ≠ 0 → c.byte.four.1.c = (digD c.byte.txt 4 c.byte.p 0).2 ∧ c.byte.four.2 = 0) := four_eq 4 c.byte 0 hk1 on1.c0
  rw [on1.txt, on1.p] at fe
  rw [hC, hO, number_two]
  by_cases g : (digD c.txt 4 (c.p + 1) 0).2 ≠ 0
  · rw [if_pos g]
    obtain ⟨q1, q2⟩ := fe.2 g
    refine ⟨fun k => absurd k g, fun _ => ?_⟩
    rw [if_pos (.inl (by rw [q2]; decide)), q1]
  rw [if_neg g]
  obtain ⟨q1, q2⟩ := fe.1 (by omega)
  have on5 := on1.trans q1
  rw [← q2]
  by_cases m1 : 55296 ≤ c.byte.four.2 ∧ c.byte.four.2 ≤ 56319
  · rw [if_pos m1, if_neg (by omega), if_neg (by omega)]
    have te := two_eq (four_ok hk1) q1.c0 c.byte.four.2 m1
    rw [on5.txt, on5.p] at te
    have te : ((pairD c.txt (c.p + 5) c.byte.four.2).2.2 = 0 → On c.byte.four.1 c.byte.four.1.two.four.1 6 ∧ 56320 ≤ c.byte.four.1.two.four.2 ∧ c.byte.four.1.two.four.2 ≤ 57343 ∧ pairD c.txt (c.p + 5) c.byte.four.2 = (uBytes (65536 + 1024 * (c.byte.four.2 - 55296) + c.byte.four.1.two.four.2 - 56320), ((c.p + 5 : Nat) : Int) + 6, 0)) ∧
      ((pairD c.txt (c.p + 5) c.byte.four.2).2.2 ≠ 0 → (c.byte.four.1.two.four.2 < 56320 ∨ 57344 ≤ c.byte.four.1.two.four.2) ∧ (c.byte.four.1.two.four.1.fail 6).c = (pairD c.txt (c.p + 5) c.byte.four.2).2.2) := te
    refine ⟨fun k => ?_, fun k => ?_⟩
    · obtain ⟨t1, t2, t3, t4⟩ := te.1 k
      rw [if_neg (by omega)]
      refine ⟨11, on5.trans t1, ?_, ?_⟩
      · rw [t4]; show ((c.p + 5 : Nat) : Int) + 6 = _; omega
      · rw [t4, if_pos t1.c0]
        show uBytes _ = uBytes _
        congr 1; omega
    · obtain ⟨t1, t2⟩ := te.2 k
      rw [if_pos t1]; exact t2
  · rw [if_neg m1]
    by_cases m2 : 56320 ≤ c.byte.four.2 ∧ c.byte.four.2 ≤ 57343
    · rw [if_pos m2, if_neg (by omega), if_pos m2.1]
      refine ⟨fun k => absurd k (by simp), fun _ => ?_⟩
      show (c.byte.four.1.fail 6).c = 6
      rw [fail_c0 _ q1.c0]
    · rw [if_neg m2, if_pos (by omega)]
      exact ⟨fun _ => ⟨5, on5, by show (c.p : Int) + 5 = _; omega, by rw [if_pos q1.c0]⟩, fun k => absurd rfl k⟩
end Go.Proofs.Ytgbkjecepncjoaa
