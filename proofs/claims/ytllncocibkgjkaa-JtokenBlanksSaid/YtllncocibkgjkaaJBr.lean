/-
  A right text's JSON is read as that text; unlike texts have unlike JSON (plain law).
-/
import Derived.Test.YtllncocibkgjkaaJBq
set_option linter.unusedSimpArgs false
set_option linter.unusedVariables false
set_option maxHeartbeats 4000000
namespace Go.Proofs.Ytllncocibkgjkaa
open Go Go.VG
set_option maxRecDepth 100000
theorem at_drop {t : List UInt8} {i : Nat} {y : List UInt8} (e : t.drop i = y) (k : Nat) : t.getD (i + k) 0 = y.getD k 0 := by rw [← e, getD_drop]
theorem byte_nat (b : UInt8) : byte (b.toNat : Int) = b := byte_of b
theorem ctl_dig : ∀ b : Nat, b < 32 → nibIs (lowB (hexd (b / 16))) = true ∧ nibIs (lowB (hexd (b % 16))) = true ∧ 16 * nibV (lowB (hexd (b / 16))) + nibV (lowB (hexd (b % 16))) = b := by decide
theorem zero_dig : nibIs (lowB 48) = true ∧ nibV (lowB 48) = 0 := by decide
theorem part_ctl {t r : List UInt8} {i : Nat} {b : UInt8} (hb : b.toNat < 32) (e : t.drop i = [92, 117, 48, 48, hexd (b.toNat / 16), hexd (b.toNat % 16)] ++ r) : partD t i = ([b], (i : Int) + 6, 0) := by
  have g0 : t.getD i 0 = 92 := at_drop e 0
  have g1 : t.getD (i + 1) 0 = 117 := at_drop e 1
  have g2 : t.getD (i + 2) 0 = 48 := at_drop e 2
  have g3 : t.getD (i + 3) 0 = 48 := at_drop e 3
  have g4 : t.getD (i + 4) 0 = hexd (b.toNat / 16) := at_drop e 4
  have g5 : t.getD (i + 5) 0 = hexd (b.toNat % 16) := at_drop e 5
  have hl := congrArg List.length e
  rw [List.length_drop] at hl
  simp at hl
  obtain ⟨k1, k2, k3⟩ := ctl_dig b.toNat hb
  have hd : digD t 4 (i + 2) 0 = ((b.toNat : Int), 0) := by
    rw [digD, if_neg (by omega), g2, if_pos zero_dig.1, digD, if_neg (by omega), show i + 2 + 1 = i + 3 from rfl, g3, if_pos zero_dig.1, digD, if_neg (by omega), show i + 3 + 1 = i + 4 from rfl, g4, if_pos k1,
      digD, if_neg (by omega), show i + 4 + 1 = i + 5 from rfl, g5, if_pos k2, digD, zero_dig.2]
    refine Prod.ext ?_ rfl
    show (16 * (16 * (16 * (16 * 0 + ((0 : Nat) : Int)) + ((0 : Nat) : Int)) + ((nibV (lowB (hexd (b.toNat / 16))) : Nat) : Int)) + ((nibV (lowB (hexd (b.toNat % 16))) : Nat) : Int)) = _
    omega
  unfold partD
  rw [g0, if_pos (by decide)]
  unfold escD
  rw [if_neg (by omega), g1, if_neg (by decide), hd, if_neg (by simp), if_neg (by simp; omega), if_neg (by simp; omega)]
  refine Prod.ext ?_ (Prod.ext (by show ((i + 1 : Nat) : Int) + 5 = (i : Int) + 6; omega) rfl)
  show uBytes (b.toNat : Int) = [b]
  unfold uBytes
  rw [if_pos (by omega), byte_nat]
theorem part_esc {t r : List UInt8} {i : Nat} {b : UInt8} (hb : b.toNat = 34 ∨ b.toNat = 92) (e : t.drop i = [92, b] ++ r) : partD t i = ([b], (i : Int) + 2, 0) := by
  have g0 : t.getD i 0 = 92 := at_drop e 0
  have g1 : t.getD (i + 1) 0 = b := at_drop e 1
  have hl := congrArg List.length e
  rw [List.length_drop] at hl
  simp at hl
  have hp : plainIs b = true := by unfold plainIs; rw [decide_eq_true_eq]; omega
  have hv : plainV b = b.toNat := by unfold plainV; rw [if_pos (by omega)]
  unfold partD
  rw [g0, if_pos (by decide)]
  unfold escD
  rw [if_neg (by omega), g1, if_pos (by omega), if_pos hp]
  refine Prod.ext ?_ (Prod.ext (by show ((i + 1 : Nat) : Int) + 1 = (i : Int) + 2; omega) rfl)
  show simpleD b = [b]
  unfold simpleD
  rw [if_pos hp, hv, byte_nat]
theorem part_raw {t r x : List UInt8} {i : Nat} (h : Chr x) (h1 : (x.getD 0 0).toNat ≠ 92) (h2 : 32 ≤ (x.getD 0 0).toNat) (e : t.drop i = x ++ r) : partD t i = (x, ((i + x.length : Nat) : Int), 0) := by
  have g0 : t.getD i 0 = x.getD 0 0 := (at_drop e 0).trans (getD_app h.1)
  have hr := (chr_at h e)
  have hn := h.2
  have hp := h.1
  unfold partD
  rw [g0, if_neg h1, if_neg (by omega), hr, hn, if_neg (by omega)]
  refine Prod.ext ?_ rfl
  show (t.take (i + x.length)).drop i = x
  rw [List.drop_take, e, Nat.add_sub_cancel_left, List.take_left]
theorem quoteB_app (x y : List UInt8) : quoteB (x ++ y) = quoteB x ++ quoteB y := by simp [quoteB]
theorem quoteB_id {x : List UInt8} (h : ∀ b ∈ x, quoteC b = [b]) : quoteB x = x := by
  induction x with
  | nil => rfl
  | cons b x ih =>
    rw [show b :: x = [b] ++ x from rfl, quoteB_app, ih fun c hc => h c (List.mem_cons_of_mem _ hc)]
    simp [quoteB, h b (by simp)]
theorem quoteC_raw {b : UInt8} (h1 : b.toNat ≠ 34) (h2 : b.toNat ≠ 92) (h3 : 32 ≤ b.toNat) : quoteC b = [b] := by
  unfold quoteC; rw [if_neg (by omega), if_neg (by omega)]
theorem chr_one {x : List UInt8} (h : Chr x) (hb : (x.getD 0 0).toNat < 128) : x = [x.getD 0 0] := by
  have h1 := (chr_len h).1
  have : uLen (x.getD 0 0).toNat = 1 := by unfold uLen; rw [if_pos hb]
  match x, h1.symm.trans this with
  | [b], _ => rfl
theorem chr_raw {x : List UInt8} (h : Chr x) (h1 : (x.getD 0 0).toNat ≠ 34) (h2 : (x.getD 0 0).toNat ≠ 92) (h3 : 32 ≤ (x.getD 0 0).toNat) : quoteB x = x := by
  refine quoteB_id fun b hb => ?_
  obtain ⟨j, hj, rfl⟩ := List.getElem_of_mem hb
  have e : x[j] = x.getD j 0 := by rw [List.getD_eq_getElem?_getD, List.getElem?_eq_getElem hj]; rfl
  rw [e]
  by_cases hj0 : j = 0
  · subst hj0; exact quoteC_raw h1 h2 h3
  · have := (cont_t _).1 ((chr_len h).2 j (by omega) hj)
    exact quoteC_raw (by omega) (by omega) (by omega)
theorem go_quote {s : List UInt8} (h : Txt s) : ∀ (t r o : List UInt8) (n i : Nat), t.drop i = quoteB s ++ 34 :: r → t.length - i + 1 ≤ n → readDGo t n i o = (0, i + (quoteB s).length + 1, o ++ s) := by
  induction h with
  | nil =>
    intro t r o n i e hn
    have hl := congrArg List.length e
    rw [List.length_drop] at hl
    simp [quoteB] at hl
    have g0 : t.getD i 0 = 34 := at_drop e 0
    match n with
    | 0 => omega
    | n + 1 =>
      rw [readDGo, if_neg (by omega), g0, if_pos (by decide)]
      simp [quoteB]
  | cons x s h hs ih =>
    intro t r o n i e hn
    rw [quoteB_app, List.append_assoc] at e
    have step : ∀ m : Nat, 0 < m → t.drop (i + m) = quoteB s ++ 34 :: r → i < t.length → t.getD i 0 ≠ 34 → partD t i = (x, ((i + m : Nat) : Int), 0) → (quoteB x).length = m →
        readDGo t n i o = (0, i + (quoteB (x ++ s)).length + 1, o ++ (x ++ s)) := fun m hm hd hi h34 hp hq => by
      match n with
      | 0 => omega
      | n + 1 =>
        have q : (t.getD i 0).toNat ≠ 34 := fun k => h34 (UInt8.toNat_inj.1 (by rw [k]; rfl))
        rw [readDGo, if_neg (by omega), if_neg q, hp, if_neg (by simp), show ((i + m : Nat) : Int).toNat = i + m from rfl, ih t r (o ++ x) n (i + m) hd (by omega), quoteB_app, List.length_append, hq]
        refine Prod.ext rfl (Prod.ext ?_ ?_)
        · show i + m + _ + 1 = i + (m + _) + 1; omega
        · show o ++ x ++ s = _; rw [List.append_assoc]
    have hdrop : t.drop (i + (quoteB x).length) = quoteB s ++ 34 :: r := by rw [← List.drop_drop, e, List.drop_left]
    have hl := congrArg List.length e
    rw [List.length_drop, List.length_append, List.length_append] at hl
    simp only [List.length_cons] at hl
    by_cases hb : (x.getD 0 0).toNat = 34 ∨ (x.getD 0 0).toNat = 92
    · have hx := chr_one h (by omega)
      generalize x.getD 0 0 = b at *
      subst hx
      have hq : quoteB [b] = [92, b] := by
        show quoteC b ++ [] = _
        unfold quoteC; rw [if_pos hb]; rfl
      rw [hq] at hdrop e
      refine step 2 (by omega) hdrop (by omega) ?_ (part_esc hb e) (by rw [hq]; rfl)
      rw [show t.getD i 0 = 92 from at_drop e 0]; decide
    by_cases hc : (x.getD 0 0).toNat < 32
    · have hx := chr_one h (by omega)
      generalize x.getD 0 0 = b at *
      subst hx
      have hq : quoteB [b] = [92, 117, 48, 48, hexd (b.toNat / 16), hexd (b.toNat % 16)] := by
        show quoteC b ++ [] = _
        unfold quoteC; rw [if_neg hb, if_pos hc]; rfl
      rw [hq] at hdrop e
      refine step 6 (by omega) hdrop (by omega) ?_ (part_ctl hc e) (by rw [hq]; rfl)
      rw [show t.getD i 0 = 92 from at_drop e 0]; decide
    · have hq := chr_raw h (by omega) (by omega) (by omega)
      rw [hq] at hdrop e
      have hp := h.1
      refine step x.length h.1 hdrop (by omega) ?_ (part_raw h (by omega) (by omega) e) (by rw [hq])
      rw [show t.getD i 0 = x.getD 0 0 from (at_drop e 0).trans (getD_app hp)]
      intro k
      rw [k] at hb
      exact hb (.inl rfl)
/-- a right text is read of its JSON, whatever stands behind -/
theorem readD_quote {s : List UInt8} (h : Txt s) (r : List UInt8) : (Cu.new (quote s ++ r)).readD = (⟨quote s ++ r, (quote s).length, (quote s ++ r).length, 0⟩, s) := by
  have hl : (quote s ++ r).length = (quoteB s).length + 2 + r.length := by simp [quote]; omega
  have hg := go_quote h (quote s ++ r) r [] ((quote s ++ r).length - 0) (0 + 1) (by simp [quote]) (by omega)
  unfold Cu.readD Cu.new
  simp only
  rw [if_neg (by decide), if_neg (by omega), List.take_length, hg, if_neg (by unfold Cu.get; simp [quote]), if_pos rfl]
  refine Prod.ext ?_ (by simp)
  simp only [quote, List.length_cons, List.length_append, List.length_nil]
  congr 1
  omega
theorem read_quote {s : List UInt8} (h : Txt s) (r : List UInt8) : (Cu.new (quote s ++ r)).read = (⟨quote s ++ r, (quote s).length, (quote s ++ r).length, 0⟩, s) := by
  obtain ⟨h1, h2, h3⟩ := read_eq (c := Cu.new (quote s ++ r)) ⟨Nat.zero_le _, Nat.le_refl _⟩
  rw [readD_quote h r] at h1 h3
  exact Prod.ext (h3 rfl) h1
/-! what is read is right -/
theorem esc_txt (t : List UInt8) (i : Nat) : (escD t i).2.2 = 0 → Txt (escD t i).1 := by
  have hd := fun j => digD_bound t 4 j 0 1 (by omega) (by omega) (by omega)
  have h1 := hd (i + 1)
  have h2 := hd (i + 5 + 2)
  unfold escD pairD
  repeat' split
  all_goals intro h
  all_goals first
    | (exfalso; simp at h; done)
    | (exfalso; exact absurd h (by assumption))
    | skip
  · rename_i hp
    refine Txt.one ?_
    show Chr (simpleD _)
    unfold simpleD
    rw [if_pos hp]
    have hv : plainV (t.getD i 0) < 128 := by unfold plainV; repeat' split
                                              all_goals omega
    exact chr_ascii (by have := byte_toNat (n := plainV (t.getD i 0)) (by omega); omega)
  · refine Txt.one (chr_bytes ?_ ?_ ?_) <;> omega
  · refine Txt.one (chr_bytes ?_ ?_ ?_) <;> omega
theorem part_txt (t : List UInt8) (i : Nat) (hi : i < t.length) : (partD t i).2.2 = 0 → Txt (partD t i).1 := by
  unfold partD
  repeat' split
  all_goals intro h
  · exact esc_txt t _ h
  · exfalso; simp at h
  · exfalso; simp at h
  · rename_i q
    rw [List.drop_take, Nat.add_sub_cancel_left]
    exact Txt.one (chr_of hi q).1
theorem go_txt (t : List UInt8) : ∀ (n i : Nat) (o : List UInt8), Txt o → (readDGo t n i o).1 = 0 → Txt (readDGo t n i o).2.2
  | 0, _, _, _, h => by rw [readDGo] at h; simp at h
  | n + 1, i, o, ho, h => by
    rw [readDGo] at h ⊢
    by_cases a : t.length ≤ i
    · rw [if_pos a] at h; simp at h
    · rw [if_neg a] at h ⊢
      by_cases b : (t.getD i 0).toNat = 34
      · rw [if_pos b]; exact ho
      · rw [if_neg b] at h ⊢
        by_cases c : (partD t i).2.2 ≠ 0
        · rw [if_pos c] at h; exact absurd h c
        · rw [if_neg c] at h ⊢
          exact go_txt t n _ _ (ho.append (part_txt t i (by omega) (by omega))) h
theorem readD_txt {c : Cu} (h0 : c.c = 0) (h : c.readD.1.c = 0) : Txt c.readD.2 := by
  have e : ∀ k : Int, k ≠ 0 → (c.fail k).c ≠ 0 := fun k hk => by rw [fail_c0 _ h0]; exact hk
  unfold Cu.readD at h ⊢
  rw [if_neg (by omega)] at h ⊢
  by_cases a : c.p = c.e
  · rw [if_pos a] at h; exact absurd h (e 1 (by decide))
  rw [if_neg a] at h ⊢
  by_cases b : c.get.toNat ≠ 34
  · rw [if_pos b] at h; exact absurd h (e 3 (by decide))
  rw [if_neg b] at h ⊢
  by_cases d : (readDGo (c.s.take c.e) (c.e - c.p) (c.p + 1) []).1 = 0
  · rw [if_pos d]; exact go_txt _ _ _ _ .nil d
  · rw [if_neg d] at h; exact absurd h (e _ d)
theorem read_txt {c : Cu} (hk : c.ok) (h0 : c.c = 0) (h : c.read.1.c = 0) : Txt c.read.2 := by
  obtain ⟨h1, h2, h3⟩ := read_eq hk
  rw [h1]
  exact readD_txt h0 (by rw [← h2]; exact h)
/-! unlike texts have unlike JSON -/
theorem hexd_inj0 : ∀ a : Nat, a < 16 → ∀ b : Nat, b < 16 → hexd a = hexd b → a = b := by decide
theorem hexd_inj (a b : Nat) (ha : a < 16) (hb : b < 16) : hexd a = hexd b → a = b := hexd_inj0 a ha b hb
theorem quoteC_app {a b : UInt8} {x y : List UInt8} (h : quoteC a ++ x = quoteC b ++ y) : a = b ∧ x = y := by
  have ha := a.toNat_lt
  have hb := b.toNat_lt
  have tn : ∀ (u : UInt8) (n : Nat), n < 256 → u = UInt8.ofNat n → u.toNat = n := fun u n hn e => by rw [e]; simp; omega
  unfold quoteC at h
  split at h <;> split at h <;> (try split at h) <;> (try split at h)
  all_goals simp [hexText] at h
  · exact h
  · have := tn a 117 (by decide) h.1; omega
  · have := tn b 92 (by decide) h.1.symm; omega
  · have := tn b 117 (by decide) h.1.symm; omega
  · obtain ⟨h1, h2, h3⟩ := h
    have h1 := hexd_inj _ _ (by omega) (by omega) h1
    have h2 := hexd_inj _ _ (by omega) (by omega) h2
    exact ⟨UInt8.toNat_inj.1 (by omega), h3⟩
  · have := tn b 92 (by decide) h.1.symm; omega
  · have := tn a 92 (by decide) h.1; omega
  · have := tn a 92 (by decide) h.1; omega
  · exact h
theorem quoteB_inj : ∀ {s t : List UInt8}, quoteB s = quoteB t → s = t
  | [], [], _ => rfl
  | [], b :: t, h => by
    have h : [] = quoteC b ++ quoteB t := h
    have hc : 0 < (quoteC b).length := by unfold quoteC; repeat' split
                                          all_goals simp
    have := congrArg List.length h
    rw [List.length_append, List.length_nil] at this; omega
  | a :: s, [], h => by
    have h : quoteC a ++ quoteB s = [] := h
    have hc : 0 < (quoteC a).length := by unfold quoteC; repeat' split
                                          all_goals simp
    have := congrArg List.length h
    rw [List.length_append, List.length_nil] at this; omega
  | a :: s, b :: t, h => by
    simp only [quoteB, List.flatMap_cons] at h
    obtain ⟨h1, h2⟩ := quoteC_app h
    rw [h1, quoteB_inj h2]
theorem quote_inj {s t : List UInt8} : quote s = quote t ↔ s = t := by
  refine ⟨fun h => ?_, fun h => by rw [h]⟩
  unfold quote at h
  simp only [List.cons.injEq, true_and, List.append_cancel_right_eq] at h
  exact quoteB_inj h
theorem part_len4 (t : List UInt8) (i : Nat) : (partD t i).2.2 = 0 → (partD t i).1.length ≤ 4 := by
  have hr := uRune_le t i
  unfold partD
  repeat' split
  all_goals intro h
  · have := esc_next t (i + 1) h; omega
  · exfalso; simp at h
  · exfalso; simp at h
  · show ((t.take (i + (uRune t i).2)).drop i).length ≤ 4
    rw [List.length_drop, List.length_take]; omega
theorem go_len : ∀ (t : List UInt8) (n i : Nat) (o : List UInt8), (readDGo t n i o).2.2.length ≤ o.length + 4 * n
  | t, 0, _, _ => by rw [readDGo]; simp
  | t, n + 1, i, o => by
    rw [readDGo]
    repeat' split
    · simp
    · show o.length ≤ _; omega
    · simp
    · have h := part_len4 t i (by omega)
      have := go_len t n (partD t i).2.1.toNat (o ++ (partD t i).1)
      rw [List.length_append] at this; omega
end Go.Proofs.Ytllncocibkgjkaa
