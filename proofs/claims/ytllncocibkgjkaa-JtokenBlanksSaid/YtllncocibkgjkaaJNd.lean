/-
  A number of JSON: the document's and the program's reading, as functions; they are the same (plain law).
-/
import Derived.Test.YtllncocibkgjkaaJRe
set_option linter.unusedSimpArgs false
set_option linter.unusedVariables false
set_option maxHeartbeats 4000000
namespace Go.Proofs.Ytllncocibkgjkaa
open Go Go.VG
set_option maxRecDepth 100000
def digB (b : UInt8) : Bool := decide (48 ≤ b.toNat ∧ b.toNat ≤ 57)
/-- the place behind the bytes of a kind that stand there -/
def runW (q : UInt8 → Bool) (t : List UInt8) (i : Nat) : Nat := i + ((t.drop i).takeWhile q).length
theorem runW_hit {q : UInt8 → Bool} {t : List UInt8} {i : Nat} (hi : i < t.length) (h : q (t.getD i 0) = true) : runW q t i = runW q t (i + 1) := by
  unfold runW
  have e : t.drop i = t.getD i 0 :: t.drop (i + 1) := by
    rw [List.drop_eq_getElem_cons hi, List.getD_eq_getElem?_getD, List.getElem?_eq_getElem hi]; rfl
  rw [e, List.takeWhile_cons, if_pos h, List.length_cons]; omega
theorem runW_stop {q : UInt8 → Bool} {t : List UInt8} {i : Nat} (h : t.length ≤ i ∨ q (t.getD i 0) = false) : runW q t i = i := by
  unfold runW
  rcases Nat.lt_or_ge i t.length with hi | hi
  · have e : t.drop i = t.getD i 0 :: t.drop (i + 1) := by
      rw [List.drop_eq_getElem_cons hi, List.getD_eq_getElem?_getD, List.getElem?_eq_getElem hi]; rfl
    have h : q (t.getD i 0) = false := by rcases h with h | h; omega; exact h
    rw [e, List.takeWhile_cons, if_neg (by rw [h]; decide)]; rfl
  · rw [List.drop_eq_nil_of_le hi]; rfl
theorem runW_le (q : UInt8 → Bool) (t : List UInt8) (i : Nat) : i ≤ runW q t i ∧ (runW q t i ≤ t.length ∨ runW q t i = i) := by
  unfold runW
  have h := (List.takeWhile_sublist (p := q) (l := t.drop i)).length_le
  rw [List.length_drop] at h
  omega
abbrev runD (t : List UInt8) (i : Nat) : Nat := runW digB t i
theorem runD_hit {t : List UInt8} {i : Nat} (hi : i < t.length) (h : digB (t.getD i 0) = true) : runD t i = runD t (i + 1) := runW_hit hi h
theorem runD_stop {t : List UInt8} {i : Nat} (h : t.length ≤ i ∨ digB (t.getD i 0) = false) : runD t i = i := runW_stop h
theorem runD_le (t : List UInt8) (i : Nat) : i ≤ runD t i ∧ (runD t i ≤ t.length ∨ runD t i = i) := runW_le _ t i
def oneD (t : List UInt8) (i : Nat) (a b : Nat) : Bool := decide (i < t.length) && decide ((t.getD i 0).toNat = a ∨ (t.getD i 0).toNat = b)
theorem oneD_t {t : List UInt8} {i a b : Nat} : oneD t i a b = true ↔ i < t.length ∧ ((t.getD i 0).toNat = a ∨ (t.getD i 0).toNat = b) := by simp [oneD]
theorem oneD_f {t : List UInt8} {i a b : Nat} : oneD t i a b = false ↔ ¬ (i < t.length ∧ ((t.getD i 0).toNat = a ∨ (t.getD i 0).toNat = b)) := by
  rw [← oneD_t, Bool.not_eq_true]
def needD (t : List UInt8) (i : Nat) : Nat × Int := if runD t i > i then (runD t i, 0) else if i = t.length then (i, 1) else (i, 3)
def sgnD (t : List UInt8) (i a b : Nat) : Nat := if oneD t i a b = true then i + 1 else i
def wholeE (t : List UInt8) (i : Nat) : Nat × Int := if oneD t (sgnD t i 45 45) 48 48 = true then (sgnD t i 45 45 + 1, 0) else needD t (sgnD t i 45 45)
def behindE (t : List UInt8) (x : Nat × Int) : Nat × Int := if x.2 = 0 ∧ oneD t x.1 46 46 = true then needD t (x.1 + 1) else x
def powerE (t : List UInt8) (x : Nat × Int) : Nat × Int := if x.2 = 0 ∧ oneD t x.1 101 69 = true then needD t (sgnD t (x.1 + 1) 43 45) else x
def sub (t : List UInt8) (i j : Nat) : List UInt8 := (t.take j).drop i
/-- where the number ends that begins there, and what is wrong -/
def numE (t : List UInt8) (i : Nat) : Nat × Int := powerE t (behindE t (wholeE t i))
/-! the program's way -/
def Cu.has (c : Cu) : Prop := c.c = 0 ∧ c.p < c.e
instance (c : Cu) : Decidable c.has := by unfold Cu.has; infer_instance
def Cu.eatB (c : Cu) (s : List UInt8) : Bool := decide (c.has ∧ c.byteV ∈ s)
def Cu.eatC (c : Cu) (s : List UInt8) : Cu := if c.eatB s = true then c.byte else c
def Cu.eatO (c : Cu) (s : List UInt8) : List UInt8 := if c.eatB s = true then [c.byteV] else []
def digsGo : Nat → Cu → List UInt8 → Cu × List UInt8
  | 0, c, o => (c.byte, o ++ [c.byteV])
  | n + 1, c, o => if digB c.byte.byteV = true then digsGo n c.byte (o ++ [c.byteV]) else (c.byte, o ++ [c.byteV])
termination_by n => n
def Cu.digs (c : Cu) : Cu × List UInt8 := if digB c.byteV = true then digsGo (c.e - c.p) c [] else ((if c.left > 0 then c.fail 3 else c).byte, [])
abbrev CO := Cu × List UInt8
def CO.eat (x : CO) (s : List UInt8) : CO := (x.1.eatC s, x.2 ++ x.1.eatO s)
def CO.digs (x : CO) : CO := (x.1.digs.1, x.2 ++ x.1.digs.2)
def CO.whole (x : CO) : CO := if (x.eat [45]).1.eatB [48] = true then (x.eat [45]).eat [48] else ((x.eat [45]).eat [48]).digs
def CO.behind (x : CO) : CO := if x.1.eatB [46] = true then (x.eat [46]).digs else x.eat [46]
def CO.power (x : CO) : CO := if x.1.eatB [101, 69] = true then ((x.eat [101, 69]).eat [43, 45]).digs else x.eat [101, 69]
def Cu.past (c : Cu) : CO := CO.power (CO.behind (CO.whole (c, [])))
/-! both are the same -/
structure Nx (c : Cu) (x : CO) (r : Nat × Int) : Prop where
  ok : r.2 = 0 → x.1.s = c.s ∧ x.1.e = c.e ∧ x.1.c = 0 ∧ x.1.p = r.1 ∧ c.p ≤ r.1 ∧ r.1 ≤ c.e ∧ x.2 = sub c.txt c.p r.1
  bad : r.2 ≠ 0 → x.1.c = r.2
theorem sub_self (t : List UInt8) (i : Nat) : sub t i i = [] := by unfold sub; rw [List.drop_eq_nil_iff, List.length_take]; omega
theorem sub_next {t : List UInt8} {i j : Nat} (h : i ≤ j) (hj : j < t.length) : sub t i (j + 1) = sub t i j ++ [t.getD j 0] := by
  unfold sub
  rw [take_next hj, List.drop_append_of_le_length (by rw [List.length_take]; omega)]
theorem txt_of {c d : Cu} (h1 : d.s = c.s) (h2 : d.e = c.e) : d.txt = c.txt := by unfold Cu.txt; rw [h1, h2]
theorem byteV_not {d : Cu} (h : ¬ d.has) : d.byteV = 0 := by unfold Cu.byteV; rw [if_neg (show ¬ (d.c = 0 ∧ d.p < d.e) from h)]
theorem eatB_t {d : Cu} {s : List UInt8} : d.eatB s = true ↔ d.has ∧ d.byteV ∈ s := by unfold Cu.eatB; rw [decide_eq_true_eq]
theorem eat_no {x : CO} {s : List UInt8} (h : x.1.eatB s = false) : x.eat s = x := by
  unfold CO.eat Cu.eatC Cu.eatO; rw [h]; simp
theorem eat_bad {x : CO} {s : List UInt8} (h : x.1.c ≠ 0) : x.1.eatB s = false := by
  cases e : x.1.eatB s with
  | false => rfl
  | true => exact absurd (eatB_t.1 e).1.1 h
theorem eat_yes {c : Cu} (hk : c.ok) {x : CO} {i : Nat} {s : List UInt8} (h : Nx c x (i, 0)) (he : x.1.eatB s = true) : i < c.txt.length ∧ c.txt.getD i 0 ∈ s ∧ Nx c (x.eat s) (i + 1, 0) := by
  obtain ⟨h1, h2, h3, h4, h5, h6, h7⟩ := h.ok rfl
  simp only at h4 h5 h6 h7
  obtain ⟨k1, k2⟩ := eatB_t.1 he
  have hp : x.1.p < x.1.e := k1.2
  have hl := txt_len hk
  obtain ⟨b1, b2⟩ := byte_lt h3 hp
  rw [txt_of h1 h2, h4] at b2
  refine ⟨by omega, by rw [← b2]; exact k2, ⟨fun _ => ?_, fun k => absurd rfl k⟩⟩
  unfold CO.eat Cu.eatC Cu.eatO
  rw [if_pos he, if_pos he, b1]
  refine ⟨h1, h2, h3, by show x.1.p + 1 = i + 1; omega, by show c.p ≤ i + 1; omega, by show i + 1 ≤ c.e; omega, ?_⟩
  show x.2 ++ [x.1.byteV] = sub c.txt c.p (i + 1)
  rw [sub_next h5 (by omega), h7, b2]
theorem eat_iff {c : Cu} (hk : c.ok) {x : CO} {i : Nat} {a b : UInt8} {s : List UInt8} (hs : ∀ y, y ∈ s ↔ y = a ∨ y = b) (h : Nx c x (i, 0)) : x.1.eatB s = oneD c.txt i a.toNat b.toNat := by
  obtain ⟨h1, h2, h3, h4, h5, h6, h7⟩ := h.ok rfl
  simp only at h4 h5 h6
  have hl := txt_len hk
  cases e : x.1.eatB s with
  | true =>
    obtain ⟨q1, q2, _⟩ := eat_yes hk h e
    exact (oneD_t.2 ⟨q1, ((hs _).1 q2).imp (fun e => by rw [e]) (fun e => by rw [e])⟩).symm
  | false =>
    refine (oneD_f.2 fun ⟨q1, q2⟩ => ?_).symm
    have hp : x.1.p < x.1.e := by omega
    obtain ⟨_, b2⟩ := byte_lt h3 hp
    rw [txt_of h1 h2, h4] at b2
    have : x.1.eatB s = true := eatB_t.2 ⟨⟨h3, hp⟩, (hs _).2 (by rw [b2]; exact q2.imp (fun e => UInt8.toNat_inj.1 e) (fun e => UInt8.toNat_inj.1 e))⟩
    rw [this] at e; cases e
theorem digsGo_eq {c : Cu} (hk : c.ok) : ∀ (n : Nat) (x : CO) (i : Nat), Nx c x (i, 0) → i < c.e → digB (c.txt.getD i 0) = true → c.e - i ≤ n + 1 → Nx c (digsGo n x.1 x.2) (runD c.txt i, 0)
  | n, x, i, h, hi, hd, hn => by
    obtain ⟨h1, h2, h3, h4, h5, h6, h7⟩ := h.ok rfl
    simp only at h4 h5 h6 h7
    have hl := txt_len hk
    obtain ⟨b1, b2⟩ := byte_lt h3 (by omega)
    rw [txt_of h1 h2, h4] at b2
    have hx : Nx c (x.1.byte, x.2 ++ [x.1.byteV]) (i + 1, 0) := ⟨fun _ => by
      rw [b1]
      refine ⟨h1, h2, h3, by show x.1.p + 1 = i + 1; omega, by show c.p ≤ i + 1; omega, by show i + 1 ≤ c.e; omega, ?_⟩
      show x.2 ++ [x.1.byteV] = sub c.txt c.p (i + 1)
      rw [sub_next h5 (by omega), h7, b2], fun k => absurd rfl k⟩
    rw [runD_hit (by omega) hd]
    have hb : x.1.byte.byteV = if i + 1 < c.e then c.txt.getD (i + 1) 0 else 0 := by
      rw [b1]
      split
      · rename_i q
        have := (byte_lt (c := { x.1 with p := x.1.p + 1 }) h3 (by show x.1.p + 1 < x.1.e; omega)).2
        rw [this]
        show (Cu.txt { x.1 with p := x.1.p + 1 }).getD (x.1.p + 1) 0 = _
        rw [h4]
        exact congrArg (fun l : List UInt8 => l.getD (i + 1) 0) (txt_of (d := { x.1 with p := i + 1 }) h1 h2)
      · exact byteV_not fun q => by have : x.1.p + 1 < x.1.e := q.2; omega
    have stop : (c.e ≤ i + 1 ∨ digB (c.txt.getD (i + 1) 0) = false) → Nx c (x.1.byte, x.2 ++ [x.1.byteV]) (runD c.txt (i + 1), 0) := fun q => by
      rw [runD_stop (by rcases q with q | q; exact .inl (by omega); exact .inr q)]; exact hx
    match n with
    | 0 => rw [digsGo]; exact stop (.inl (by omega))
    | n + 1 =>
      rw [digsGo]
      by_cases q : i + 1 < c.e
      · rw [if_pos q] at hb
        rw [hb]
        by_cases r : digB (c.txt.getD (i + 1) 0) = true
        · rw [if_pos r]; exact digsGo_eq hk n _ (i + 1) hx q r (by omega)
        · rw [if_neg r]; exact stop (.inr (by simpa using r))
      · rw [if_neg q] at hb
        rw [hb, if_neg (by decide)]; exact stop (.inl (by omega))
theorem digs_eq {c : Cu} (hk : c.ok) {x : CO} {i : Nat} (h : Nx c x (i, 0)) : Nx c x.digs (needD c.txt i) := by
  obtain ⟨h1, h2, h3, h4, h5, h6, h7⟩ := h.ok rfl
  simp only at h4 h5 h6 h7
  have hl := txt_len hk
  have hp := runD_le c.txt i
  unfold CO.digs Cu.digs needD
  by_cases q : i < c.e
  · obtain ⟨b1, b2⟩ := byte_lt h3 (by omega)
    rw [txt_of h1 h2, h4] at b2
    rw [b2]
    by_cases r : digB (c.txt.getD i 0) = true
    · have e := runD_hit (by omega) r
      have := (runD_le c.txt (i + 1)).1
      rw [if_pos r, if_pos (by omega)]
      have g := digsGo_eq hk (x.1.e - x.1.p) (x.1, []) i
      have g2 := digsGo_eq hk (x.1.e - x.1.p) x i h q r (by omega)
      have ap : ∀ (n : Nat) (d : Cu) (o o' : List UInt8), (digsGo n d (o ++ o')).1 = (digsGo n d o').1 ∧ (digsGo n d (o ++ o')).2 = o ++ (digsGo n d o').2 := by
        intro n
        induction n with
        | zero => intro d o o'; rw [digsGo, digsGo]; simp
        | succ n ih =>
          intro d o o'
          rw [digsGo, digsGo]
          split
          · rw [List.append_assoc]; exact ih _ _ _
          · simp
      obtain ⟨a1, a2⟩ := ap (x.1.e - x.1.p) x.1 x.2 []
      rw [List.append_nil] at a1 a2
      have e3 : (digsGo (x.1.e - x.1.p) x.1 x.2) = ((digsGo (x.1.e - x.1.p) x.1 []).1, x.2 ++ (digsGo (x.1.e - x.1.p) x.1 []).2) := Prod.ext a1 a2
      rw [e3] at g2
      exact g2
    · have e := runD_stop (t := c.txt) (i := i) (.inr (by simpa using r))
      have hleft : x.1.left > 0 := by show (x.1.e : Int) - x.1.p > 0; omega
      rw [if_neg r, if_pos hleft, if_neg (show ¬ runD c.txt i > i by omega), if_neg (show ¬ i = c.txt.length by omega)]
      refine ⟨fun k => absurd (show (3 : Int) = 0 from k) (by decide), fun _ => ?_⟩
      have hf : (x.1.fail 3).c = 3 := by rw [fail_c0 _ h3]
      show (x.1.fail 3).byte.c = 3
      rw [(byte_err (by omega)).1]; exact hf
  · have e := runD_stop (t := c.txt) (i := i) (.inl (by omega))
    have hb : x.1.byteV = 0 := byteV_not fun k => by have := k.2; omega
    have hleft : ¬ x.1.left > 0 := by show ¬ (x.1.e : Int) - x.1.p > 0; omega
    rw [hb, if_neg (show ¬ digB 0 = true by decide), if_neg hleft, if_neg (show ¬ runD c.txt i > i by omega), if_pos (show i = c.txt.length by omega)]
    refine ⟨fun k => absurd (show (1 : Int) = 0 from k) (by decide), fun _ => ?_⟩
    show x.1.byte.c = 1
    rw [(byte_end h3 (by omega)).1]
theorem bad_c {c : Cu} {x : CO} {r : Nat × Int} (h : Nx c x r) (k : r.2 ≠ 0) : x.1.c ≠ 0 := by rw [h.bad k]; exact k
theorem eat_eq {c : Cu} (hk : c.ok) {x : CO} {i : Nat} {a b : UInt8} {s : List UInt8} (hs : ∀ y, y ∈ s ↔ y = a ∨ y = b) (h : Nx c x (i, 0)) : Nx c (x.eat s) (sgnD c.txt i a.toNat b.toNat, 0) := by
  have e := eat_iff hk hs h
  unfold sgnD
  rw [← e]
  split
  · rename_i q; exact (eat_yes hk h q).2.2
  · rename_i q; rw [eat_no (by simpa using q)]; exact h
theorem mem1 (a y : UInt8) : y ∈ [a] ↔ y = a ∨ y = a := by simp
theorem mem2 (a b y : UInt8) : y ∈ [a, b] ↔ y = a ∨ y = b := by simp
theorem past_eq {c : Cu} (hk : c.ok) (h0 : c.c = 0) : Nx c c.past (numE c.txt c.p) := by
  have hl := txt_len hk
  have s0 : Nx c (c, []) (c.p, 0) := ⟨fun _ => ⟨rfl, rfl, h0, rfl, Nat.le_refl _, hk.1, (sub_self _ _).symm⟩, fun k => absurd rfl k⟩
  have s1 := eat_eq hk (mem1 45) s0
  have w : Nx c (CO.whole (c, [])) (wholeE c.txt c.p) := by
    unfold CO.whole wholeE
    have e := eat_iff hk (mem1 48) s1
    have s2 := eat_eq hk (mem1 48) s1
    unfold sgnD at s2
    rw [e]
    by_cases q : oneD c.txt (sgnD c.txt c.p 45 45) 48 48 = true
    · rw [if_pos (by exact q), if_pos q]
      rw [if_pos (by exact q)] at s2; exact s2
    · rw [if_neg (by exact q), if_neg q]
      rw [if_neg (by exact q)] at s2; exact digs_eq hk s2
  have b : Nx c (CO.behind (CO.whole (c, []))) (behindE c.txt (wholeE c.txt c.p)) := by
    generalize CO.whole (c, []) = x at *
    generalize wholeE c.txt c.p = r at *
    obtain ⟨i, k⟩ := r
    unfold CO.behind behindE
    by_cases z : k = 0
    · subst z
      have e := eat_iff hk (mem1 46) w
      have s2 := eat_eq hk (mem1 46) w
      unfold sgnD at s2
      rw [e]
      by_cases q : oneD c.txt i 46 46 = true
      · rw [if_pos (by exact q), if_pos ⟨rfl, q⟩]
        rw [if_pos (by exact q)] at s2; exact digs_eq hk s2
      · rw [if_neg (by exact q), if_neg (fun t => q t.2)]
        rw [if_neg (by exact q)] at s2; exact s2
    · have e := eat_bad (s := [46]) (bad_c w z)
      rw [e, if_neg (by decide), if_neg (fun t => z t.1), eat_no e]; exact w
  unfold Cu.past numE
  generalize CO.behind (CO.whole (c, [])) = x at *
  generalize behindE c.txt (wholeE c.txt c.p) = r at *
  obtain ⟨i, k⟩ := r
  unfold CO.power powerE
  by_cases z : k = 0
  · subst z
    have e := eat_iff hk (mem2 101 69) b
    have s2 := eat_eq hk (mem2 101 69) b
    rw [e]
    by_cases q : oneD c.txt i 101 69 = true
    · rw [if_pos (by exact q), if_pos ⟨rfl, q⟩]
      unfold sgnD at s2
      rw [if_pos (by exact q)] at s2
      exact digs_eq hk (eat_eq hk (mem2 43 45) s2)
    · rw [if_neg (by exact q), if_neg (fun t => q t.2)]
      unfold sgnD at s2
      rw [if_neg (by exact q)] at s2; exact s2
  · have e := eat_bad (s := [101, 69]) (bad_c b z)
    rw [e, if_neg (by decide), if_neg (fun t => z t.1), eat_no e]; exact b
def blkB (b : UInt8) : Bool := decide (b.toNat = 32 ∨ b.toNat = 9 ∨ b.toNat = 10 ∨ b.toNat = 13)
def signB (b : UInt8) : Bool := decide (b.toNat = 123 ∨ b.toNat = 125 ∨ b.toNat = 91 ∨ b.toNat = 93 ∨ b.toNat = 58 ∨ b.toNat = 44)
structure Tk where
  k : UInt8
  t : List UInt8
instance : Inhabited Tk := ⟨⟨0, []⟩⟩
abbrev Tk.no : Tk := ⟨0, []⟩
def spell (k : UInt8) : List UInt8 := if k.toNat = 116 then [116, 114, 117, 101] else if k.toNat = 102 then [102, 97, 108, 115, 101] else if k.toNat = 122 then [110, 117, 108, 108] else []
/-! the program's -/
def Cu.blanks (c : Cu) : Cu := if c.c = 0 then { c with p := runW blkB c.txt c.p } else c
def Cu.word : List UInt8 → Cu → Cu × Bool
  | [], c => (c, true)
  | b :: s, c => if c.byteV ≠ b then (c.byte.fail 3, false) else Cu.word s c.byte
def Cu.num (c : Cu) : CO := (c.past.1, if c.past.1.c = 0 then c.past.2 else [])
def held (x : CO) (k : UInt8) : Cu × Tk := (x.1, if x.1.c = 0 then ⟨k, x.2⟩ else .no)
def Cu.wordT (c : Cu) (k : UInt8) : Cu × Tk := ((c.word (spell k)).1, if (c.word (spell k)).2 = true then ⟨k, []⟩ else .no)
def Cu.tokAt (d : Cu) : Cu × Tk :=
  if ¬ d.has then (d, .no)
  else if signB d.byteV = true then (d.byte, ⟨d.byteV, []⟩)
  else if d.byteV.toNat = 34 then held d.read 115
  else if d.byteV.toNat = 45 ∨ digB d.byteV = true then held d.num 110
  else if d.byteV.toNat = 116 then d.wordT 116
  else if d.byteV.toNat = 102 then d.wordT 102
  else if d.byteV.toNat = 110 then d.wordT 122
  else (d.fail 3, .no)
def Cu.next (c : Cu) : Cu × Tk := c.blanks.tokAt
/-! the document's -/
def Cu.numD (c : Cu) : CO :=
  if c.c ≠ 0 then (c, []) else if (numE c.txt c.p).2 ≠ 0 then (c.fail (numE c.txt c.p).2, []) else ({ c with p := (numE c.txt c.p).1 }, sub c.s c.p (numE c.txt c.p).1)
def wordE (c : Cu) : List UInt8 → Nat → Int
  | [], _ => 0
  | b :: s, i => if c.p + i ≥ c.e then 1 else if c.s.getD (c.p + i) 0 ≠ b then 3 else wordE c s (i + 1)
def Cu.wordD (c : Cu) (k : UInt8) : Cu × Tk := if wordE c (spell k) 0 ≠ 0 then (c.fail (wordE c (spell k) 0), .no) else ({ c with p := c.p + (spell k).length }, ⟨k, []⟩)
def Cu.tokD (d : Cu) : Cu × Tk :=
  if d.p = d.e then (d, .no)
  else if signB d.get = true then ({ d with p := d.p + 1 }, ⟨d.get, []⟩)
  else if d.get.toNat = 34 then held d.readD 115
  else if d.get.toNat = 45 ∨ digB d.get = true then held d.numD 110
  else if d.get.toNat = 116 ∨ d.get.toNat = 102 then d.wordD d.get
  else if d.get.toNat = 110 then d.wordD 122
  else (d.fail 3, .no)
def Cu.nextD (c : Cu) : Cu × Tk := if c.c ≠ 0 then (c, .no) else ({ c with p := runW blkB c.txt c.p } : Cu).tokD
/-! both are the same -/
def SameT (x y : Cu × Tk) : Prop := x.2 = y.2 ∧ x.1.c = y.1.c ∧ (y.1.c = 0 → x.1 = y.1)
theorem SameT.refl (x : Cu × Tk) : SameT x x := ⟨rfl, rfl, fun _ => rfl⟩
theorem sub_txt {c : Cu} {i j : Nat} (h : j ≤ c.e) : sub c.txt i j = sub c.s i j := by unfold sub Cu.txt; rw [List.take_take, Nat.min_eq_left h]
theorem needD_ge (t : List UInt8) (i : Nat) (h : i ≤ t.length) : i ≤ (needD t i).1 ∧ (needD t i).1 ≤ t.length := by
  have := runD_le t i
  unfold needD; repeat' split
  all_goals (constructor <;> (try dsimp only) <;> omega)
theorem sgnD_ge (t : List UInt8) (i a b : Nat) (h : i ≤ t.length) : i ≤ sgnD t i a b ∧ sgnD t i a b ≤ t.length := by
  unfold sgnD; split
  · rename_i q; have := (oneD_t.1 q).1; omega
  · omega
theorem numE_ge (t : List UInt8) (i : Nat) (h : i ≤ t.length) : i ≤ (numE t i).1 ∧ (numE t i).1 ≤ t.length := by
  have h1 := sgnD_ge t i 45 45 h
  have w : i ≤ (wholeE t i).1 ∧ (wholeE t i).1 ≤ t.length := by
    unfold wholeE; split
    · rename_i q; have := (oneD_t.1 q).1; dsimp only; omega
    · have := needD_ge t _ h1.2; omega
  have b : i ≤ (behindE t (wholeE t i)).1 ∧ (behindE t (wholeE t i)).1 ≤ t.length := by
    generalize wholeE t i = x at *
    unfold behindE; split
    · rename_i q; have := (oneD_t.1 q.2).1; have := needD_ge t (x.1 + 1) (by omega); omega
    · exact w
  unfold numE
  generalize behindE t (wholeE t i) = x at *
  unfold powerE; split
  · rename_i q; have := (oneD_t.1 q.2).1; have := sgnD_ge t (x.1 + 1) 43 45 (by omega); have := needD_ge t _ this.2; omega
  · exact b
theorem num_eq {c : Cu} (hk : c.ok) : SameT (held c.num 110) (held c.numD 110) := by
  unfold Cu.numD
  by_cases h0 : c.c = 0
  · have h := past_eq hk h0
    rw [if_neg (by omega)]
    by_cases z : (numE c.txt c.p).2 = 0
    · obtain ⟨h1, h2, h3, h4, h5, h6, h7⟩ := h.ok z
      rw [if_neg (by omega)]
      have e1 : c.past.1 = { c with p := (numE c.txt c.p).1 } := by
        generalize c.past.1 = d at *
        obtain ⟨ds, dp, de, dc⟩ := d
        simp only at h1 h2 h3 h4
        rw [h1, h2, h3, h4, ← h0]
      have e2 : c.num = ({ c with p := (numE c.txt c.p).1 }, sub c.s c.p (numE c.txt c.p).1) := by
        unfold Cu.num; rw [if_pos h3, h7, sub_txt h6, e1]
      rw [e2]; exact .refl _
    · have hb := h.bad z
      rw [if_pos z, fail_c0 _ h0]
      unfold held Cu.num
      rw [hb]
      simp only
      rw [if_neg z, if_neg z]
      exact ⟨rfl, hb, fun k => absurd k z⟩
  · rw [if_pos h0]
    have hp : c.past = (c, []) := by
      have e : ∀ s, (c, ([] : List UInt8)).1.eatB s = false := fun s => eat_bad h0
      unfold Cu.past
      have w : CO.whole (c, []) = (c, []) := by
        unfold CO.whole
        rw [eat_no (e _), e, if_neg (by decide), eat_no (e _)]
        unfold CO.digs Cu.digs
        have hb : c.byteV = 0 := byteV_not fun k => h0 k.1
        have hf : (if c.left > 0 then c.fail 3 else c) = c := by split; exact fail_ne 3 h0; rfl
        show ((if digB c.byteV = true then _ else _ : CO).1, [] ++ (if digB c.byteV = true then _ else _ : CO).2) = _
        rw [hb, if_neg (by decide), hf, (byte_err h0).1]; rfl
      have b : CO.behind (c, []) = (c, []) := by
        unfold CO.behind; rw [e, if_neg (by decide), eat_no (e _)]
      have p : CO.power (c, []) = (c, []) := by
        unfold CO.power; rw [e, if_neg (by decide), eat_no (e _)]
      rw [w, b, p]
    unfold held Cu.num
    rw [hp]
    simp only
    rw [if_neg h0, if_neg h0]
    exact ⟨rfl, rfl, fun _ => rfl⟩
theorem word_eq {c : Cu} : ∀ (s : List UInt8) (i : Nat) (d : Cu), (∀ x ∈ s, x ≠ 0) → On c d i → d.p ≤ d.e →
    (wordE c s i = 0 → (d.word s).2 = true ∧ On c (d.word s).1 (i + s.length)) ∧ (wordE c s i ≠ 0 → (d.word s).2 = false ∧ (d.word s).1.c = wordE c s i)
  | [], i, d, _, h, _ => by
    unfold wordE Cu.word
    exact ⟨fun _ => ⟨rfl, h⟩, fun k => absurd rfl k⟩
  | b :: s, i, d, hz, h, hd => by
    unfold wordE Cu.word
    have hp := h.p
    have he := h.e
    by_cases q : c.p + i ≥ c.e
    · obtain ⟨b1, b2⟩ := byte_end h.c0 (by omega)
      rw [if_pos q]
      refine ⟨fun k => absurd k (by decide), fun _ => ?_⟩
      by_cases hb : d.byteV ≠ b
      · rw [if_pos hb, b1]
        refine ⟨rfl, ?_⟩
        rw [fail_ne _ (by show (1 : Int) ≠ 0; decide)]
      · rw [if_neg hb]
        have bb : b = 0 := by rw [b2] at hb; exact (Decidable.not_not.1 hb).symm
        exact absurd bb (hz b (by simp))
    · obtain ⟨b1, b2⟩ := byte_lt h.c0 (by omega)
      rw [h.txt, hp] at b2
      have hg : c.txt.getD (c.p + i) 0 = c.s.getD (c.p + i) 0 := by unfold Cu.txt; exact getD_take (by omega)
      rw [if_neg q, b2, hg]
      by_cases hb : c.s.getD (c.p + i) 0 ≠ b
      · rw [if_pos hb, if_pos hb]
        refine ⟨fun k => absurd k (by decide), fun _ => ⟨rfl, ?_⟩⟩
        rw [b1]
        show (Cu.fail { d with p := d.p + 1 } 3).c = 3
        rw [fail_c0 3 (show ({ d with p := d.p + 1 } : Cu).c = 0 from h.c0)]
      · rw [if_neg hb, if_neg hb]
        have := word_eq s (i + 1) d.byte (fun x hx => hz x (List.mem_cons_of_mem _ hx)) (by have := h.trans (On.byte h.c0 (by omega)); exact this) (by rw [b1]; show d.p + 1 ≤ d.e; omega)
        rw [show i + (b :: s).length = i + 1 + s.length by simp; omega]
        exact this
theorem spell_nz (k : UInt8) : ∀ x ∈ spell k, x ≠ 0 := by
  unfold spell; repeat' split
  all_goals decide
theorem wordT_eq {c : Cu} (hk : c.ok) (h0 : c.c = 0) (k : UInt8) : SameT (c.wordT k) (c.wordD k) := by
  have h := word_eq (spell k) 0 c (spell_nz k) ⟨rfl, rfl, h0, rfl⟩ hk.1
  unfold Cu.wordT Cu.wordD
  by_cases z : wordE c (spell k) 0 = 0
  · obtain ⟨h1, h2⟩ := h.1 z
    rw [if_pos h1, if_neg (by omega)]
    have e : (c.word (spell k)).1 = { c with p := c.p + (spell k).length } := by
      generalize (c.word (spell k)).1 = d at *
      obtain ⟨ds, dp, de, dc⟩ := d
      obtain ⟨a1, a2, a3, a4⟩ := h2
      simp only [Nat.zero_add] at a1 a2 a3 a4
      rw [a1, a2, a3, a4, ← h0]
    rw [e]; exact .refl _
  · obtain ⟨h1, h2⟩ := h.2 z
    rw [if_neg (by rw [h1]; decide), if_pos z, fail_c0 _ h0]
    exact ⟨rfl, h2, fun q => absurd q z⟩
theorem held_same {x y : CO} {k : UInt8} (h1 : x.2 = y.2) (h2 : x.1.c = y.1.c) (h3 : y.1.c = 0 → x.1 = y.1) : SameT (held x k) (held y k) := by
  refine ⟨?_, h2, h3⟩
  show (if x.1.c = 0 then _ else _) = if y.1.c = 0 then _ else _
  rw [h1, h2]
theorem read_same {c : Cu} (hk : c.ok) : SameT (held c.read 115) (held c.readD 115) := by
  obtain ⟨h1, h2, h3⟩ := read_eq hk
  exact held_same h1 h2 h3
theorem tok_eq {d : Cu} (hk : d.ok) (h0 : d.c = 0) : SameT d.tokAt d.tokD := by
  unfold Cu.tokAt Cu.tokD
  by_cases q : d.p = d.e
  · rw [if_pos (fun h => by have := h.2; omega), if_pos q]; exact .refl _
  · have hp : d.p < d.e := by have := hk.1; omega
    have hh : d.has := ⟨h0, hp⟩
    have hv : d.byteV = d.get := by unfold Cu.byteV; rw [if_pos (show d.c = 0 ∧ d.p < d.e from hh)]
    rw [if_neg (fun h => h hh), if_neg q, hv, (byte_lt h0 hp).1]
    by_cases a : signB d.get = true
    · rw [if_pos a, if_pos a]; exact .refl _
    rw [if_neg a, if_neg a]
    by_cases b : d.get.toNat = 34
    · rw [if_pos b, if_pos b]; exact read_same hk
    rw [if_neg b, if_neg b]
    by_cases e : d.get.toNat = 45 ∨ digB d.get = true
    · rw [if_pos e, if_pos e]; exact num_eq hk
    rw [if_neg e, if_neg e]
    by_cases f : d.get.toNat = 116
    · rw [if_pos f, if_pos (.inl f), show d.get = 116 from UInt8.toNat_inj.1 f]; exact wordT_eq hk h0 116
    rw [if_neg f]
    by_cases g : d.get.toNat = 102
    · rw [if_pos g, if_pos (.inr g), show d.get = 102 from UInt8.toNat_inj.1 g]; exact wordT_eq hk h0 102
    rw [if_neg g, if_neg (show ¬ (d.get.toNat = 116 ∨ d.get.toNat = 102) by omega)]
    by_cases i : d.get.toNat = 110
    · rw [if_pos i, if_pos i]; exact wordT_eq hk h0 122
    rw [if_neg i, if_neg i]; exact .refl _
theorem blanks_ok {c : Cu} (hk : c.ok) : c.blanks.ok := by
  unfold Cu.blanks; split
  · have := runW_le blkB c.txt c.p
    have := txt_len hk
    have := hk.1
    exact ⟨by show runW blkB c.txt c.p ≤ c.e; omega, hk.2⟩
  · exact hk
theorem next_eq {c : Cu} (hk : c.ok) : SameT c.next c.nextD := by
  unfold Cu.next Cu.nextD
  have hb := blanks_ok hk
  by_cases h0 : c.c = 0
  · rw [if_neg (by omega)]
    have e : c.blanks = { c with p := runW blkB c.txt c.p } := by unfold Cu.blanks; rw [if_pos h0]
    rw [e] at hb ⊢
    exact tok_eq hb h0
  · rw [if_pos h0]
    have e : c.blanks = c := by unfold Cu.blanks; rw [if_neg h0]
    rw [e]
    unfold Cu.tokAt
    rw [if_pos (fun h => h0 h.1)]; exact .refl _
/-! a whole text -/
def allD : Nat → Cu → List Tk → List Tk × Int
  | 0, _, l => (l, 0)
  | n + 1, c, l => if c.nextD.1.c ≠ 0 then ([], c.nextD.1.c) else if c.nextD.2.k = 0 then (l, 0) else allD n c.nextD.1 (l ++ [c.nextD.2])
end Go.Proofs.Ytllncocibkgjkaa
