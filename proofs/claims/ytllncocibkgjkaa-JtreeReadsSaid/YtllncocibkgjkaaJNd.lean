/-
  A number of JSON: the document's and the program's reading, as functions; they are the same (plain law).
-/
import Derived.Test.YtllncocibkgjkaaJRe
set_option linter.unusedSimpArgs false
set_option linter.unusedVariables false
set_option maxHeartbeats 4000000
namespace Go.Proofs.Ytllncocibkgjkaa
open Go Go.VG
set_option maxRecDepth 100000
def anu (b : UInt8) : Bool := decide (48 ≤ b.toNat ∧ b.toNat ≤ 57)
def an4 (q : UInt8 → Bool) (t : List UInt8) (i : Nat) : Nat := i + ((t.drop i).takeWhile q).length
theorem aue {q : UInt8 → Bool} {t : List UInt8} {i : Nat} (hi : i < t.length) (h : q (t.getD i 0) = true) : an4 q t i = an4 q t (i + 1) := by
  unfold an4
  have e : t.drop i = t.getD i 0 :: t.drop (i + 1) := by
    rw [List.drop_eq_getElem_cons hi, List.getD_eq_getElem?_getD, List.getElem?_eq_getElem hi]; rfl
  rw [e, List.takeWhile_cons, if_pos h, List.length_cons]; omega
theorem alu {q : UInt8 → Bool} {t : List UInt8} {i : Nat} (h : t.length ≤ i ∨ q (t.getD i 0) = false) : an4 q t i = i := by
  unfold an4
  rcases Nat.lt_or_ge i t.length with hi | hi
  · have e : t.drop i = t.getD i 0 :: t.drop (i + 1) := by
      rw [List.drop_eq_getElem_cons hi, List.getD_eq_getElem?_getD, List.getElem?_eq_getElem hi]; rfl
    have h : q (t.getD i 0) = false := by rcases h with h | h; omega; exact h
    rw [e, List.takeWhile_cons, if_neg (by rw [h]; decide)]; rfl
  · rw [List.drop_eq_nil_of_le hi]; rfl
theorem azu (q : UInt8 → Bool) (t : List UInt8) (i : Nat) : i ≤ an4 q t i ∧ (an4 q t i ≤ t.length ∨ an4 q t i = i) := by
  unfold an4
  have h := (List.takeWhile_sublist (p := q) (l := t.drop i)).length_le
  rw [List.length_drop] at h
  omega
abbrev axy (t : List UInt8) (i : Nat) : Nat := an4 anu t i
theorem aud {t : List UInt8} {i : Nat} (hi : i < t.length) (h : anu (t.getD i 0) = true) : axy t i = axy t (i + 1) := aue hi h
theorem aj0 {t : List UInt8} {i : Nat} (h : t.length ≤ i ∨ anu (t.getD i 0) = false) : axy t i = i := alu h
theorem aq8 (t : List UInt8) (i : Nat) : i ≤ axy t i ∧ (axy t i ≤ t.length ∨ axy t i = i) := azu _ t i
def arh (t : List UInt8) (i : Nat) (a b : Nat) : Bool := decide (i < t.length) && decide ((t.getD i 0).toNat = a ∨ (t.getD i 0).toNat = b)
theorem ai8 {t : List UInt8} {i a b : Nat} : arh t i a b = true ↔ i < t.length ∧ ((t.getD i 0).toNat = a ∨ (t.getD i 0).toNat = b) := by simp [arh]
theorem a7x {t : List UInt8} {i a b : Nat} : arh t i a b = false ↔ ¬ (i < t.length ∧ ((t.getD i 0).toNat = a ∨ (t.getD i 0).toNat = b)) := by
  rw [← ai8, Bool.not_eq_true]
def agv (t : List UInt8) (i : Nat) : Nat × Int := if axy t i > i then (axy t i, 0) else if i = t.length then (i, 1) else (i, 3)
def axz (t : List UInt8) (i a b : Nat) : Nat := if arh t i a b = true then i + 1 else i
def abe (t : List UInt8) (i : Nat) : Nat × Int := if arh t (axz t i 45 45) 48 48 = true then (axz t i 45 45 + 1, 0) else agv t (axz t i 45 45)
def ac6 (t : List UInt8) (x : Nat × Int) : Nat × Int := if x.2 = 0 ∧ arh t x.1 46 46 = true then agv t (x.1 + 1) else x
def aq4 (t : List UInt8) (x : Nat × Int) : Nat × Int := if x.2 = 0 ∧ arh t x.1 101 69 = true then agv t (axz t (x.1 + 1) 43 45) else x
def sub (t : List UInt8) (i j : Nat) : List UInt8 := (t.take j).drop i
def aob (t : List UInt8) (i : Nat) : Nat × Int := aq4 t (ac6 t (abe t i))
def Cu.has (c : Cu) : Prop := c.c = 0 ∧ c.p < c.e
instance (c : Cu) : Decidable c.has := by unfold Cu.has; infer_instance
def Cu.as2 (c : Cu) (s : List UInt8) : Bool := decide (c.has ∧ c.aa2 ∈ s)
def Cu.a4x (c : Cu) (s : List UInt8) : Cu := if c.as2 s = true then c.byte else c
def Cu.a91 (c : Cu) (s : List UInt8) : List UInt8 := if c.as2 s = true then [c.aa2] else []
def acw : Nat → Cu → List UInt8 → Cu × List UInt8
  | 0, c, o => (c.byte, o ++ [c.aa2])
  | n + 1, c, o => if anu c.byte.aa2 = true then acw n c.byte (o ++ [c.aa2]) else (c.byte, o ++ [c.aa2])
termination_by n => n
def Cu.aie (c : Cu) : Cu × List UInt8 := if anu c.aa2 = true then acw (c.e - c.p) c [] else ((if c.left > 0 then c.fail 3 else c).byte, [])
abbrev CO := Cu × List UInt8
def CO.eat (x : CO) (s : List UInt8) : CO := (x.1.a4x s, x.2 ++ x.1.a91 s)
def CO.aie (x : CO) : CO := (x.1.aie.1, x.2 ++ x.1.aie.2)
def CO.whole (x : CO) : CO := if (x.eat [45]).1.as2 [48] = true then (x.eat [45]).eat [48] else ((x.eat [45]).eat [48]).aie
def CO.behind (x : CO) : CO := if x.1.as2 [46] = true then (x.eat [46]).aie else x.eat [46]
def CO.a83 (x : CO) : CO := if x.1.as2 [101, 69] = true then ((x.eat [101, 69]).eat [43, 45]).aie else x.eat [101, 69]
def Cu.a1g (c : Cu) : CO := CO.a83 (CO.behind (CO.whole (c, [])))
structure Nx (c : Cu) (x : CO) (r : Nat × Int) : Prop where
  ok : r.2 = 0 → x.1.s = c.s ∧ x.1.e = c.e ∧ x.1.c = 0 ∧ x.1.p = r.1 ∧ c.p ≤ r.1 ∧ r.1 ≤ c.e ∧ x.2 = sub c.txt c.p r.1
  bad : r.2 ≠ 0 → x.1.c = r.2
theorem sub_self (t : List UInt8) (i : Nat) : sub t i i = [] := by unfold sub; rw [List.drop_eq_nil_iff, List.length_take]; omega
theorem a1v {t : List UInt8} {i j : Nat} (h : i ≤ j) (hj : j < t.length) : sub t i (j + 1) = sub t i j ++ [t.getD j 0] := by
  unfold sub
  rw [am3 hj, List.drop_append_of_le_length (by rw [List.length_take]; omega)]
theorem axt {c d : Cu} (h1 : d.s = c.s) (h2 : d.e = c.e) : d.txt = c.txt := by unfold Cu.txt; rw [h1, h2]
theorem ah2 {d : Cu} (h : ¬ d.has) : d.aa2 = 0 := by unfold Cu.aa2; rw [if_neg (show ¬ (d.c = 0 ∧ d.p < d.e) from h)]
theorem aii {d : Cu} {s : List UInt8} : d.as2 s = true ↔ d.has ∧ d.aa2 ∈ s := by unfold Cu.as2; rw [decide_eq_true_eq]
theorem apa {x : CO} {s : List UInt8} (h : x.1.as2 s = false) : x.eat s = x := by
  unfold CO.eat Cu.a4x Cu.a91; rw [h]; simp
theorem aye {x : CO} {s : List UInt8} (h : x.1.c ≠ 0) : x.1.as2 s = false := by
  cases e : x.1.as2 s with
  | false => rfl
  | true => exact absurd (aii.1 e).1.1 h
theorem a5p {c : Cu} (hk : c.ok) {x : CO} {i : Nat} {s : List UInt8} (h : Nx c x (i, 0)) (he : x.1.as2 s = true) : i < c.txt.length ∧ c.txt.getD i 0 ∈ s ∧ Nx c (x.eat s) (i + 1, 0) := by
  obtain ⟨h1, h2, h3, h4, h5, h6, h7⟩ := h.ok rfl
  simp only at h4 h5 h6 h7
  obtain ⟨k1, k2⟩ := aii.1 he
  have hp : x.1.p < x.1.e := k1.2
  have hl := aci hk
  obtain ⟨b1, b2⟩ := ace h3 hp
  rw [axt h1 h2, h4] at b2
  refine ⟨by omega, by rw [← b2]; exact k2, ⟨fun _ => ?_, fun k => absurd rfl k⟩⟩
  unfold CO.eat Cu.a4x Cu.a91
  rw [if_pos he, if_pos he, b1]
  refine ⟨h1, h2, h3, by show x.1.p + 1 = i + 1; omega, by show c.p ≤ i + 1; omega, by show i + 1 ≤ c.e; omega, ?_⟩
  show x.2 ++ [x.1.aa2] = sub c.txt c.p (i + 1)
  rw [a1v h5 (by omega), h7, b2]
theorem atd {c : Cu} (hk : c.ok) {x : CO} {i : Nat} {a b : UInt8} {s : List UInt8} (hs : ∀ y, y ∈ s ↔ y = a ∨ y = b) (h : Nx c x (i, 0)) : x.1.as2 s = arh c.txt i a.toNat b.toNat := by
  obtain ⟨h1, h2, h3, h4, h5, h6, h7⟩ := h.ok rfl
  simp only at h4 h5 h6
  have hl := aci hk
  cases e : x.1.as2 s with
  | true =>
    obtain ⟨q1, q2, _⟩ := a5p hk h e
    exact (ai8.2 ⟨q1, ((hs _).1 q2).imp (fun e => by rw [e]) (fun e => by rw [e])⟩).symm
  | false =>
    refine (a7x.2 fun ⟨q1, q2⟩ => ?_).symm
    have hp : x.1.p < x.1.e := by omega
    obtain ⟨_, b2⟩ := ace h3 hp
    rw [axt h1 h2, h4] at b2
    have : x.1.as2 s = true := aii.2 ⟨⟨h3, hp⟩, (hs _).2 (by rw [b2]; exact q2.imp (fun e => UInt8.toNat_inj.1 e) (fun e => UInt8.toNat_inj.1 e))⟩
    rw [this] at e; cases e
theorem ap8 {c : Cu} (hk : c.ok) : ∀ (n : Nat) (x : CO) (i : Nat), Nx c x (i, 0) → i < c.e → anu (c.txt.getD i 0) = true → c.e - i ≤ n + 1 → Nx c (acw n x.1 x.2) (axy c.txt i, 0)
  | n, x, i, h, hi, hd, hn => by
    obtain ⟨h1, h2, h3, h4, h5, h6, h7⟩ := h.ok rfl
    simp only at h4 h5 h6 h7
    have hl := aci hk
    obtain ⟨b1, b2⟩ := ace h3 (by omega)
    rw [axt h1 h2, h4] at b2
    have hx : Nx c (x.1.byte, x.2 ++ [x.1.aa2]) (i + 1, 0) := ⟨fun _ => by
      rw [b1]
      refine ⟨h1, h2, h3, by show x.1.p + 1 = i + 1; omega, by show c.p ≤ i + 1; omega, by show i + 1 ≤ c.e; omega, ?_⟩
      show x.2 ++ [x.1.aa2] = sub c.txt c.p (i + 1)
      rw [a1v h5 (by omega), h7, b2], fun k => absurd rfl k⟩
    rw [aud (by omega) hd]
    have hb : x.1.byte.aa2 = if i + 1 < c.e then c.txt.getD (i + 1) 0 else 0 := by
      rw [b1]
      split
      · rename_i q
        have := (ace (c := { x.1 with p := x.1.p + 1 }) h3 (by show x.1.p + 1 < x.1.e; omega)).2
        rw [this]
        show (Cu.txt { x.1 with p := x.1.p + 1 }).getD (x.1.p + 1) 0 = _
        rw [h4]
        exact congrArg (fun l : List UInt8 => l.getD (i + 1) 0) (axt (d := { x.1 with p := i + 1 }) h1 h2)
      · exact ah2 fun q => by have : x.1.p + 1 < x.1.e := q.2; omega
    have stop : (c.e ≤ i + 1 ∨ anu (c.txt.getD (i + 1) 0) = false) → Nx c (x.1.byte, x.2 ++ [x.1.aa2]) (axy c.txt (i + 1), 0) := fun q => by
      rw [aj0 (by rcases q with q | q; exact .inl (by omega); exact .inr q)]; exact hx
    match n with
    | 0 => rw [acw]; exact stop (.inl (by omega))
    | n + 1 =>
      rw [acw]
      by_cases q : i + 1 < c.e
      · rw [if_pos q] at hb
        rw [hb]
        by_cases r : anu (c.txt.getD (i + 1) 0) = true
        · rw [if_pos r]; exact ap8 hk n _ (i + 1) hx q r (by omega)
        · rw [if_neg r]; exact stop (.inr (by simpa using r))
      · rw [if_neg q] at hb
        rw [hb, if_neg (by decide)]; exact stop (.inl (by omega))
theorem aya {c : Cu} (hk : c.ok) {x : CO} {i : Nat} (h : Nx c x (i, 0)) : Nx c x.aie (agv c.txt i) := by
  obtain ⟨h1, h2, h3, h4, h5, h6, h7⟩ := h.ok rfl
  simp only at h4 h5 h6 h7
  have hl := aci hk
  have hp := aq8 c.txt i
  unfold CO.aie Cu.aie agv
  by_cases q : i < c.e
  · obtain ⟨b1, b2⟩ := ace h3 (by omega)
    rw [axt h1 h2, h4] at b2
    rw [b2]
    by_cases r : anu (c.txt.getD i 0) = true
    · have e := aud (by omega) r
      have := (aq8 c.txt (i + 1)).1
      rw [if_pos r, if_pos (by omega)]
      have g := ap8 hk (x.1.e - x.1.p) (x.1, []) i
      have g2 := ap8 hk (x.1.e - x.1.p) x i h q r (by omega)
      have ap : ∀ (n : Nat) (d : Cu) (o o' : List UInt8), (acw n d (o ++ o')).1 = (acw n d o').1 ∧ (acw n d (o ++ o')).2 = o ++ (acw n d o').2 := by
        intro n
        induction n with
        | zero => intro d o o'; rw [acw, acw]; simp
        | succ n ih =>
          intro d o o'
          rw [acw, acw]
          split
          · rw [List.append_assoc]; exact ih _ _ _
          · simp
      obtain ⟨a1, a2⟩ := ap (x.1.e - x.1.p) x.1 x.2 []
      rw [List.append_nil] at a1 a2
      have e3 : (acw (x.1.e - x.1.p) x.1 x.2) = ((acw (x.1.e - x.1.p) x.1 []).1, x.2 ++ (acw (x.1.e - x.1.p) x.1 []).2) := Prod.ext a1 a2
      rw [e3] at g2
      exact g2
    · have e := aj0 (t := c.txt) (i := i) (.inr (by simpa using r))
      have hleft : x.1.left > 0 := by show (x.1.e : Int) - x.1.p > 0; omega
      rw [if_neg r, if_pos hleft, if_neg (show ¬ axy c.txt i > i by omega), if_neg (show ¬ i = c.txt.length by omega)]
      refine ⟨fun k => absurd (show (3 : Int) = 0 from k) (by decide), fun _ => ?_⟩
      have hf : (x.1.fail 3).c = 3 := by rw [ads _ h3]
      show (x.1.fail 3).byte.c = 3
      rw [(aje (by omega)).1]; exact hf
  · have e := aj0 (t := c.txt) (i := i) (.inl (by omega))
    have hb : x.1.aa2 = 0 := ah2 fun k => by have := k.2; omega
    have hleft : ¬ x.1.left > 0 := by show ¬ (x.1.e : Int) - x.1.p > 0; omega
    rw [hb, if_neg (show ¬ anu 0 = true by decide), if_neg hleft, if_neg (show ¬ axy c.txt i > i by omega), if_pos (show i = c.txt.length by omega)]
    refine ⟨fun k => absurd (show (1 : Int) = 0 from k) (by decide), fun _ => ?_⟩
    show x.1.byte.c = 1
    rw [(ahr h3 (by omega)).1]
theorem bad_c {c : Cu} {x : CO} {r : Nat × Int} (h : Nx c x r) (k : r.2 ≠ 0) : x.1.c ≠ 0 := by rw [h.bad k]; exact k
theorem avu {c : Cu} (hk : c.ok) {x : CO} {i : Nat} {a b : UInt8} {s : List UInt8} (hs : ∀ y, y ∈ s ↔ y = a ∨ y = b) (h : Nx c x (i, 0)) : Nx c (x.eat s) (axz c.txt i a.toNat b.toNat, 0) := by
  have e := atd hk hs h
  unfold axz
  rw [← e]
  split
  · rename_i q; exact (a5p hk h q).2.2
  · rename_i q; rw [apa (by simpa using q)]; exact h
theorem mem1 (a y : UInt8) : y ∈ [a] ↔ y = a ∨ y = a := by simp
theorem mem2 (a b y : UInt8) : y ∈ [a, b] ↔ y = a ∨ y = b := by simp
theorem bed {c : Cu} (hk : c.ok) (h0 : c.c = 0) : Nx c c.a1g (aob c.txt c.p) := by
  have hl := aci hk
  have s0 : Nx c (c, []) (c.p, 0) := ⟨fun _ => ⟨rfl, rfl, h0, rfl, Nat.le_refl _, hk.1, (sub_self _ _).symm⟩, fun k => absurd rfl k⟩
  have s1 := avu hk (mem1 45) s0
  have w : Nx c (CO.whole (c, [])) (abe c.txt c.p) := by
    unfold CO.whole abe
    have e := atd hk (mem1 48) s1
    have s2 := avu hk (mem1 48) s1
    unfold axz at s2
    rw [e]
    by_cases q : arh c.txt (axz c.txt c.p 45 45) 48 48 = true
    · rw [if_pos (by exact q), if_pos q]
      rw [if_pos (by exact q)] at s2; exact s2
    · rw [if_neg (by exact q), if_neg q]
      rw [if_neg (by exact q)] at s2; exact aya hk s2
  have b : Nx c (CO.behind (CO.whole (c, []))) (ac6 c.txt (abe c.txt c.p)) := by
    generalize CO.whole (c, []) = x at *
    generalize abe c.txt c.p = r at *
    obtain ⟨i, k⟩ := r
    unfold CO.behind ac6
    by_cases z : k = 0
    · subst z
      have e := atd hk (mem1 46) w
      have s2 := avu hk (mem1 46) w
      unfold axz at s2
      rw [e]
      by_cases q : arh c.txt i 46 46 = true
      · rw [if_pos (by exact q), if_pos ⟨rfl, q⟩]
        rw [if_pos (by exact q)] at s2; exact aya hk s2
      · rw [if_neg (by exact q), if_neg (fun t => q t.2)]
        rw [if_neg (by exact q)] at s2; exact s2
    · have e := aye (s := [46]) (bad_c w z)
      rw [e, if_neg (by decide), if_neg (fun t => z t.1), apa e]; exact w
  unfold Cu.a1g aob
  generalize CO.behind (CO.whole (c, [])) = x at *
  generalize ac6 c.txt (abe c.txt c.p) = r at *
  obtain ⟨i, k⟩ := r
  unfold CO.a83 aq4
  by_cases z : k = 0
  · subst z
    have e := atd hk (mem2 101 69) b
    have s2 := avu hk (mem2 101 69) b
    rw [e]
    by_cases q : arh c.txt i 101 69 = true
    · rw [if_pos (by exact q), if_pos ⟨rfl, q⟩]
      unfold axz at s2
      rw [if_pos (by exact q)] at s2
      exact aya hk (avu hk (mem2 43 45) s2)
    · rw [if_neg (by exact q), if_neg (fun t => q t.2)]
      unfold axz at s2
      rw [if_neg (by exact q)] at s2; exact s2
  · have e := aye (s := [101, 69]) (bad_c b z)
    rw [e, if_neg (by decide), if_neg (fun t => z t.1), apa e]; exact b
def anr (b : UInt8) : Bool := decide (b.toNat = 32 ∨ b.toNat = 9 ∨ b.toNat = 10 ∨ b.toNat = 13)
def ach (b : UInt8) : Bool := decide (b.toNat = 123 ∨ b.toNat = 125 ∨ b.toNat = 91 ∨ b.toNat = 93 ∨ b.toNat = 58 ∨ b.toNat = 44)
structure Tk where
  k : UInt8
  t : List UInt8
instance : Inhabited Tk := ⟨⟨0, []⟩⟩
abbrev Tk.no : Tk := ⟨0, []⟩
def spell (k : UInt8) : List UInt8 := if k.toNat = 116 then [116, 114, 117, 101] else if k.toNat = 102 then [102, 97, 108, 115, 101] else if k.toNat = 122 then [110, 117, 108, 108] else []
def Cu.aba (c : Cu) : Cu := if c.c = 0 then { c with p := an4 anr c.txt c.p } else c
def Cu.word : List UInt8 → Cu → Cu × Bool
  | [], c => (c, true)
  | b :: s, c => if c.aa2 ≠ b then (c.byte.fail 3, false) else Cu.word s c.byte
def Cu.num (c : Cu) : CO := (c.a1g.1, if c.a1g.1.c = 0 then c.a1g.2 else [])
def held (x : CO) (k : UInt8) : Cu × Tk := (x.1, if x.1.c = 0 then ⟨k, x.2⟩ else .no)
def Cu.a4w (c : Cu) (k : UInt8) : Cu × Tk := ((c.word (spell k)).1, if (c.word (spell k)).2 = true then ⟨k, []⟩ else .no)
def Cu.a8v (d : Cu) : Cu × Tk :=
  if ¬ d.has then (d, .no)
  else if ach d.aa2 = true then (d.byte, ⟨d.aa2, []⟩)
  else if d.aa2.toNat = 34 then held d.read 115
  else if d.aa2.toNat = 45 ∨ anu d.aa2 = true then held d.num 110
  else if d.aa2.toNat = 116 then d.a4w 116
  else if d.aa2.toNat = 102 then d.a4w 102
  else if d.aa2.toNat = 110 then d.a4w 122
  else (d.fail 3, .no)
def Cu.next (c : Cu) : Cu × Tk := c.aba.a8v
def Cu.a44 (c : Cu) : CO :=
  if c.c ≠ 0 then (c, []) else if (aob c.txt c.p).2 ≠ 0 then (c.fail (aob c.txt c.p).2, []) else ({ c with p := (aob c.txt c.p).1 }, sub c.s c.p (aob c.txt c.p).1)
def af4 (c : Cu) : List UInt8 → Nat → Int
  | [], _ => 0
  | b :: s, i => if c.p + i ≥ c.e then 1 else if c.s.getD (c.p + i) 0 ≠ b then 3 else af4 c s (i + 1)
def Cu.afk (c : Cu) (k : UInt8) : Cu × Tk := if af4 c (spell k) 0 ≠ 0 then (c.fail (af4 c (spell k) 0), .no) else ({ c with p := c.p + (spell k).length }, ⟨k, []⟩)
def Cu.a1z (d : Cu) : Cu × Tk :=
  if d.p = d.e then (d, .no)
  else if ach d.get = true then ({ d with p := d.p + 1 }, ⟨d.get, []⟩)
  else if d.get.toNat = 34 then held d.aiy 115
  else if d.get.toNat = 45 ∨ anu d.get = true then held d.a44 110
  else if d.get.toNat = 116 ∨ d.get.toNat = 102 then d.afk d.get
  else if d.get.toNat = 110 then d.afk 122
  else (d.fail 3, .no)
def Cu.aan (c : Cu) : Cu × Tk := if c.c ≠ 0 then (c, .no) else ({ c with p := an4 anr c.txt c.p } : Cu).a1z
def avb (x y : Cu × Tk) : Prop := x.2 = y.2 ∧ x.1.c = y.1.c ∧ (y.1.c = 0 → x.1 = y.1)
theorem avb.refl (x : Cu × Tk) : avb x x := ⟨rfl, rfl, fun _ => rfl⟩
theorem bf0 {c : Cu} {i j : Nat} (h : j ≤ c.e) : sub c.txt i j = sub c.s i j := by unfold sub Cu.txt; rw [List.take_take, Nat.min_eq_left h]
theorem ajk (t : List UInt8) (i : Nat) (h : i ≤ t.length) : i ≤ (agv t i).1 ∧ (agv t i).1 ≤ t.length := by
  have := aq8 t i
  unfold agv; repeat' split
  all_goals (constructor <;> (try dsimp only) <;> omega)
theorem auk (t : List UInt8) (i a b : Nat) (h : i ≤ t.length) : i ≤ axz t i a b ∧ axz t i a b ≤ t.length := by
  unfold axz; split
  · rename_i q; have := (ai8.1 q).1; omega
  · omega
theorem a7u (t : List UInt8) (i : Nat) (h : i ≤ t.length) : i ≤ (aob t i).1 ∧ (aob t i).1 ≤ t.length := by
  have h1 := auk t i 45 45 h
  have w : i ≤ (abe t i).1 ∧ (abe t i).1 ≤ t.length := by
    unfold abe; split
    · rename_i q; have := (ai8.1 q).1; dsimp only; omega
    · have := ajk t _ h1.2; omega
  have b : i ≤ (ac6 t (abe t i)).1 ∧ (ac6 t (abe t i)).1 ≤ t.length := by
    generalize abe t i = x at *
    unfold ac6; split
    · rename_i q; have := (ai8.1 q.2).1; have := ajk t (x.1 + 1) (by omega); omega
    · exact w
  unfold aob
  generalize ac6 t (abe t i) = x at *
  unfold aq4; split
  · rename_i q; have := (ai8.1 q.2).1; have := auk t (x.1 + 1) 43 45 (by omega); have := ajk t _ this.2; omega
  · exact b
theorem num_eq {c : Cu} (hk : c.ok) : avb (held c.num 110) (held c.a44 110) := by
  unfold Cu.a44
  by_cases h0 : c.c = 0
  · have h := bed hk h0
    rw [if_neg (by omega)]
    by_cases z : (aob c.txt c.p).2 = 0
    · obtain ⟨h1, h2, h3, h4, h5, h6, h7⟩ := h.ok z
      rw [if_neg (by omega)]
      have e1 : c.a1g.1 = { c with p := (aob c.txt c.p).1 } := by
        generalize c.a1g.1 = d at *
        obtain ⟨ds, dp, de, dc⟩ := d
        simp only at h1 h2 h3 h4
        rw [h1, h2, h3, h4, ← h0]
      have e2 : c.num = ({ c with p := (aob c.txt c.p).1 }, sub c.s c.p (aob c.txt c.p).1) := by
        unfold Cu.num; rw [if_pos h3, h7, bf0 h6, e1]
      rw [e2]; exact .refl _
    · have hb := h.bad z
      rw [if_pos z, ads _ h0]
      unfold held Cu.num
      rw [hb]
      simp only
      rw [if_neg z, if_neg z]
      exact ⟨rfl, hb, fun k => absurd k z⟩
  · rw [if_pos h0]
    have hp : c.a1g = (c, []) := by
      have e : ∀ s, (c, ([] : List UInt8)).1.as2 s = false := fun s => aye h0
      unfold Cu.a1g
      have w : CO.whole (c, []) = (c, []) := by
        unfold CO.whole
        rw [apa (e _), e, if_neg (by decide), apa (e _)]
        unfold CO.aie Cu.aie
        have hb : c.aa2 = 0 := ah2 fun k => h0 k.1
        have hf : (if c.left > 0 then c.fail 3 else c) = c := by split; exact ahv 3 h0; rfl
        show ((if anu c.aa2 = true then _ else _ : CO).1, [] ++ (if anu c.aa2 = true then _ else _ : CO).2) = _
        rw [hb, if_neg (by decide), hf, (aje h0).1]; rfl
      have b : CO.behind (c, []) = (c, []) := by
        unfold CO.behind; rw [e, if_neg (by decide), apa (e _)]
      have p : CO.a83 (c, []) = (c, []) := by
        unfold CO.a83; rw [e, if_neg (by decide), apa (e _)]
      rw [w, b, p]
    unfold held Cu.num
    rw [hp]
    simp only
    rw [if_neg h0, if_neg h0]
    exact ⟨rfl, rfl, fun _ => rfl⟩
theorem a90 {c : Cu} : ∀ (s : List UInt8) (i : Nat) (d : Cu), (∀ x ∈ s, x ≠ 0) → On c d i → d.p ≤ d.e →
    (af4 c s i = 0 → (d.word s).2 = true ∧ On c (d.word s).1 (i + s.length)) ∧ (af4 c s i ≠ 0 → (d.word s).2 = false ∧ (d.word s).1.c = af4 c s i)
  | [], i, d, _, h, _ => by
    unfold af4 Cu.word
    exact ⟨fun _ => ⟨rfl, h⟩, fun k => absurd rfl k⟩
  | b :: s, i, d, hz, h, hd => by
    unfold af4 Cu.word
    have hp := h.p
    have he := h.e
    by_cases q : c.p + i ≥ c.e
    · obtain ⟨b1, b2⟩ := ahr h.c0 (by omega)
      rw [if_pos q]
      refine ⟨fun k => absurd k (by decide), fun _ => ?_⟩
      by_cases hb : d.aa2 ≠ b
      · rw [if_pos hb, b1]
        refine ⟨rfl, ?_⟩
        rw [ahv _ (by show (1 : Int) ≠ 0; decide)]
      · rw [if_neg hb]
        have bb : b = 0 := by rw [b2] at hb; exact (Decidable.not_not.1 hb).symm
        exact absurd bb (hz b (by simp))
    · obtain ⟨b1, b2⟩ := ace h.c0 (by omega)
      rw [h.txt, hp] at b2
      have hg : c.txt.getD (c.p + i) 0 = c.s.getD (c.p + i) 0 := by unfold Cu.txt; exact aeu (by omega)
      rw [if_neg q, b2, hg]
      by_cases hb : c.s.getD (c.p + i) 0 ≠ b
      · rw [if_pos hb, if_pos hb]
        refine ⟨fun k => absurd k (by decide), fun _ => ⟨rfl, ?_⟩⟩
        rw [b1]
        show (Cu.fail { d with p := d.p + 1 } 3).c = 3
        rw [ads 3 (show ({ d with p := d.p + 1 } : Cu).c = 0 from h.c0)]
      · rw [if_neg hb, if_neg hb]
        have := a90 s (i + 1) d.byte (fun x hx => hz x (List.mem_cons_of_mem _ hx)) (by have := h.trans (On.byte h.c0 (by omega)); exact this) (by rw [b1]; show d.p + 1 ≤ d.e; omega)
        rw [show i + (b :: s).length = i + 1 + s.length by simp; omega]
        exact this
theorem bbp (k : UInt8) : ∀ x ∈ spell k, x ≠ 0 := by
  unfold spell; repeat' split
  all_goals decide
theorem av4 {c : Cu} (hk : c.ok) (h0 : c.c = 0) (k : UInt8) : avb (c.a4w k) (c.afk k) := by
  have h := a90 (spell k) 0 c (bbp k) ⟨rfl, rfl, h0, rfl⟩ hk.1
  unfold Cu.a4w Cu.afk
  by_cases z : af4 c (spell k) 0 = 0
  · obtain ⟨h1, h2⟩ := h.1 z
    rw [if_pos h1, if_neg (by omega)]
    have e : (c.word (spell k)).1 = { c with p := c.p + (spell k).length } := by
      generalize (c.word (spell k)).1 = d at *
      obtain ⟨ds, dp, de, dc⟩ := d
      obtain ⟨a1, a2, a3, a4⟩ := h2
      simp only [Nat.zero_add] at a1 a2 a3 a4
      rw [a1, a2, a3, a4, ← h0]
    rw [e]; exact .refl _
  · obtain ⟨h1, h2⟩ := h.2 z
    rw [if_neg (by rw [h1]; decide), if_pos z, ads _ h0]
    exact ⟨rfl, h2, fun q => absurd q z⟩
theorem a6p {x y : CO} {k : UInt8} (h1 : x.2 = y.2) (h2 : x.1.c = y.1.c) (h3 : y.1.c = 0 → x.1 = y.1) : avb (held x k) (held y k) := by
  refine ⟨?_, h2, h3⟩
  show (if x.1.c = 0 then _ else _) = if y.1.c = 0 then _ else _
  rw [h1, h2]
theorem a89 {c : Cu} (hk : c.ok) : avb (held c.read 115) (held c.aiy 115) := by
  obtain ⟨h1, h2, h3⟩ := bei hk
  exact a6p h1 h2 h3
theorem tok_eq {d : Cu} (hk : d.ok) (h0 : d.c = 0) : avb d.a8v d.a1z := by
  unfold Cu.a8v Cu.a1z
  by_cases q : d.p = d.e
  · rw [if_pos (fun h => by have := h.2; omega), if_pos q]; exact .refl _
  · have hp : d.p < d.e := by have := hk.1; omega
    have hh : d.has := ⟨h0, hp⟩
    have hv : d.aa2 = d.get := by unfold Cu.aa2; rw [if_pos (show d.c = 0 ∧ d.p < d.e from hh)]
    rw [if_neg (fun h => h hh), if_neg q, hv, (ace h0 hp).1]
    by_cases a : ach d.get = true
    · rw [if_pos a, if_pos a]; exact .refl _
    rw [if_neg a, if_neg a]
    by_cases b : d.get.toNat = 34
    · rw [if_pos b, if_pos b]; exact a89 hk
    rw [if_neg b, if_neg b]
    by_cases e : d.get.toNat = 45 ∨ anu d.get = true
    · rw [if_pos e, if_pos e]; exact num_eq hk
    rw [if_neg e, if_neg e]
    by_cases f : d.get.toNat = 116
    · rw [if_pos f, if_pos (.inl f), show d.get = 116 from UInt8.toNat_inj.1 f]; exact av4 hk h0 116
    rw [if_neg f]
    by_cases g : d.get.toNat = 102
    · rw [if_pos g, if_pos (.inr g), show d.get = 102 from UInt8.toNat_inj.1 g]; exact av4 hk h0 102
    rw [if_neg g, if_neg (show ¬ (d.get.toNat = 116 ∨ d.get.toNat = 102) by omega)]
    by_cases i : d.get.toNat = 110
    · rw [if_pos i, if_pos i]; exact av4 hk h0 122
    rw [if_neg i, if_neg i]; exact .refl _
theorem avf {c : Cu} (hk : c.ok) : c.aba.ok := by
  unfold Cu.aba; split
  · have := azu anr c.txt c.p
    have := aci hk
    have := hk.1
    exact ⟨by show an4 anr c.txt c.p ≤ c.e; omega, hk.2⟩
  · exact hk
theorem apy {c : Cu} (hk : c.ok) : avb c.next c.aan := by
  unfold Cu.next Cu.aan
  have hb := avf hk
  by_cases h0 : c.c = 0
  · rw [if_neg (by omega)]
    have e : c.aba = { c with p := an4 anr c.txt c.p } := by unfold Cu.aba; rw [if_pos h0]
    rw [e] at hb ⊢
    exact tok_eq hb h0
  · rw [if_pos h0]
    have e : c.aba = c := by unfold Cu.aba; rw [if_neg h0]
    rw [e]
    unfold Cu.a8v
    rw [if_pos (fun h => h0 h.1)]; exact .refl _
def allD : Nat → Cu → List Tk → List Tk × Int
  | 0, _, l => (l, 0)
  | n + 1, c, l => if c.aan.1.c ≠ 0 then ([], c.aan.1.c) else if c.aan.2.k = 0 then (l, 0) else allD n c.aan.1 (l ++ [c.aan.2])
end Go.Proofs.Ytllncocibkgjkaa
