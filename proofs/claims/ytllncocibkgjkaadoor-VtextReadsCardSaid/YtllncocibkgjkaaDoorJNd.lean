/-
  A part of the proof.
-/
import Derived.Test.YtllncocibkgjkaaDoorJRe
set_option linter.unusedSimpArgs false
set_option linter.unusedVariables false
set_option maxHeartbeats 4000000
namespace Go.Proofs.YtllncocibkgjkaaDoor
open Go Go.VG
set_option maxRecDepth 100000
def cG (b : UInt8) : Bool := decide (48 ≤ b.toNat ∧ b.toNat ≤ 57)
def eE (q : UInt8 → Bool) (t : List UInt8) (i : Nat) : Nat := i + ((t.drop i).takeWhile q).length
theorem Bt {q : UInt8 → Bool} {t : List UInt8} {i : Nat} (hi : i < t.length) (h : q (t.getD i 0) = true) : eE q t i = eE q t (i + 1) := by
 unfold eE
 have e : t.drop i = t.getD i 0 :: t.drop (i + 1) := by
  rw [List.drop_eq_getElem_cons hi, List.getD_eq_getElem?_getD, List.getElem?_eq_getElem hi]; rfl
 rw [e, List.takeWhile_cons, if_pos h, List.length_cons]; omega
theorem qy {q : UInt8 → Bool} {t : List UInt8} {i : Nat} (h : t.length ≤ i ∨ q (t.getD i 0) = false) : eE q t i = i := by
 unfold eE
 rcases Nat.lt_or_ge i t.length with hi | hi
 . have e : t.drop i = t.getD i 0 :: t.drop (i + 1) := by
     rw [List.drop_eq_getElem_cons hi, List.getD_eq_getElem?_getD, List.getElem?_eq_getElem hi]; rfl
   have h : q (t.getD i 0) = false := by rcases h with h | h; omega; exact h
   rw [e, List.takeWhile_cons, if_neg (by rw [h]; decide)]; rfl
 . rw [List.drop_eq_nil_of_le hi]; rfl
theorem vI (q : UInt8 → Bool) (t : List UInt8) (i : Nat) : i ≤ eE q t i ∧ (eE q t i ≤ t.length ∨ eE q t i = i) := by
 unfold eE
 have h := (List.takeWhile_sublist (p := q) (l := t.drop i)).length_le
 rw [List.length_drop] at h
 omega
abbrev fG (t : List UInt8) (i : Nat) : Nat := eE cG t i
theorem oM {t : List UInt8} {i : Nat} (hi : i < t.length) (h : cG (t.getD i 0) = true) : fG t i = fG t (i + 1) := Bt hi h
theorem ni {t : List UInt8} {i : Nat} (h : t.length ≤ i ∨ cG (t.getD i 0) = false) : fG t i = i := qy h
theorem m8 (t : List UInt8) (i : Nat) : i ≤ fG t i ∧ (fG t i ≤ t.length ∨ fG t i = i) := vI _ t i
def fO (t : List UInt8) (i : Nat) (a b : Nat) : Bool := decide (i < t.length) && decide ((t.getD i 0).toNat = a ∨ (t.getD i 0).toNat = b)
theorem iZ {t : List UInt8} {i a b : Nat} : fO t i a b = true ↔ i < t.length ∧ ((t.getD i 0).toNat = a ∨ (t.getD i 0).toNat = b) := by simp [fO]
theorem vn {t : List UInt8} {i a b : Nat} : fO t i a b = false ↔ ¬ (i < t.length ∧ ((t.getD i 0).toNat = a ∨ (t.getD i 0).toNat = b)) := by
 rw [← iZ, Bool.not_eq_true]
def dz (t : List UInt8) (i : Nat) : Nat × Int := if fG t i > i then (fG t i, 0) else if i = t.length then (i, 1) else (i, 3)
def cD (t : List UInt8) (i a b : Nat) : Nat := if fO t i a b = true then i + 1 else i
def cj (t : List UInt8) (i : Nat) : Nat × Int := if fO t (cD t i 45 45) 48 48 = true then (cD t i 45 45 + 1, 0) else dz t (cD t i 45 45)
def cT (t : List UInt8) (x : Nat × Int) : Nat × Int := if x.2 = 0 ∧ fO t x.1 46 46 = true then dz t (x.1 + 1) else x
def iK (t : List UInt8) (x : Nat × Int) : Nat × Int := if x.2 = 0 ∧ fO t x.1 101 69 = true then dz t (cD t (x.1 + 1) 43 45) else x
def sub (t : List UInt8) (i j : Nat) : List UInt8 := (t.take j).drop i
def dI (t : List UInt8) (i : Nat) : Nat × Int := iK t (cT t (cj t i))
def Cu.has (c : Cu) : Prop := c.c = 0 ∧ c.p < c.e
instance (c : Cu) : Decidable c.has := by unfold Cu.has; infer_instance
def Cu.fy (c : Cu) (s : List UInt8) : Bool := decide (c.has ∧ c.af ∈ s)
def Cu.j9 (c : Cu) (s : List UInt8) : Cu := if c.fy s = true then c.byte else c
def Cu.jP (c : Cu) (s : List UInt8) : List UInt8 := if c.fy s = true then [c.af] else []
def dU : Nat → Cu → List UInt8 → Cu × List UInt8
 | 0, c, o => (c.byte, o ++ [c.af])
 | n + 1, c, o => if cG c.byte.af = true then dU n c.byte (o ++ [c.af]) else (c.byte, o ++ [c.af])
termination_by n => n
def Cu.cH (c : Cu) : Cu × List UInt8 := if cG c.af = true then dU (c.e - c.p) c [] else ((if c.left > 0 then c.fail 3 else c).byte, [])
abbrev CO := Cu × List UInt8
def CO.dE (x : CO) (s : List UInt8) : CO := (x.1.j9 s, x.2 ++ x.1.jP s)
def CO.cH (x : CO) : CO := (x.1.cH.1, x.2 ++ x.1.cH.2)
def CO.whole (x : CO) : CO := if (x.dE [45]).1.fy [48] = true then (x.dE [45]).dE [48] else ((x.dE [45]).dE [48]).cH
def CO.behind (x : CO) : CO := if x.1.fy [46] = true then (x.dE [46]).cH else x.dE [46]
def CO.n9 (x : CO) : CO := if x.1.fy [101, 69] = true then ((x.dE [101, 69]).dE [43, 45]).cH else x.dE [101, 69]
def Cu.iI (c : Cu) : CO := CO.n9 (CO.behind (CO.whole (c, [])))
structure Nx (c : Cu) (x : CO) (r : Nat × Int) : Prop where
 ok : r.2 = 0 → x.1.s = c.s ∧ x.1.e = c.e ∧ x.1.c = 0 ∧ x.1.p = r.1 ∧ c.p ≤ r.1 ∧ r.1 ≤ c.e ∧ x.2 = sub c.a9 c.p r.1
 bad : r.2 ≠ 0 → x.1.c = r.2
theorem sub_self (t : List UInt8) (i : Nat) : sub t i i = [] := by unfold sub; rw [List.drop_eq_nil_iff, List.length_take]; omega
theorem C2 {t : List UInt8} {i j : Nat} (h : i ≤ j) (hj : j < t.length) : sub t i (j + 1) = sub t i j ++ [t.getD j 0] := by
 unfold sub
 rw [xe hj, List.drop_append_of_le_length (by rw [List.length_take]; omega)]
theorem qR {c d : Cu} (h1 : d.s = c.s) (h2 : d.e = c.e) : d.a9 = c.a9 := by unfold Cu.a9; rw [h1, h2]
theorem nD {d : Cu} (h : ¬ d.has) : d.af = 0 := by unfold Cu.af; rw [if_neg (show ¬ (d.c = 0 ∧ d.p < d.e) from h)]
theorem jC {d : Cu} {s : List UInt8} : d.fy s = true ↔ d.has ∧ d.af ∈ s := by unfold Cu.fy; rw [decide_eq_true_eq]
theorem mB {x : CO} {s : List UInt8} (h : x.1.fy s = false) : x.dE s = x := by
 unfold CO.dE Cu.j9 Cu.jP; rw [h]; simp
theorem ue {x : CO} {s : List UInt8} (h : x.1.c ≠ 0) : x.1.fy s = false := by
 cases e : x.1.fy s with
 | false => rfl
 | true => exact absurd (jC.1 e).1.1 h
theorem yC {c : Cu} (hk : c.ok) {x : CO} {i : Nat} {s : List UInt8} (h : Nx c x (i, 0)) (he : x.1.fy s = true) : i < c.a9.length ∧ c.a9.getD i 0 ∈ s ∧ Nx c (x.dE s) (i + 1, 0) := by
 obtain ⟨h1, h2, h3, h4, h5, h6, h7⟩ := h.ok rfl
 simp only at h4 h5 h6 h7
 obtain ⟨k1, k2⟩ := jC.1 he
 have hp : x.1.p < x.1.e := k1.2
 have hl := gj hk
 obtain ⟨b1, b2⟩ := fJ h3 hp
 rw [qR h1 h2, h4] at b2
 refine ⟨by omega, by rw [← b2]; exact k2, ⟨fun _ => ?_, fun k => absurd rfl k⟩⟩
 unfold CO.dE Cu.j9 Cu.jP
 rw [if_pos he, if_pos he, b1]
 refine ⟨h1, h2, h3, by show x.1.p + 1 = i + 1; omega, by show c.p ≤ i + 1; omega, by show i + 1 ≤ c.e; omega, ?_⟩
 show x.2 ++ [x.1.af] = sub c.a9 c.p (i + 1)
 rw [C2 h5 (by omega), h7, b2]
theorem rE {c : Cu} (hk : c.ok) {x : CO} {i : Nat} {a b : UInt8} {s : List UInt8} (hs : ∀ y, y ∈ s ↔ y = a ∨ y = b) (h : Nx c x (i, 0)) : x.1.fy s = fO c.a9 i a.toNat b.toNat := by
 obtain ⟨h1, h2, h3, h4, h5, h6, h7⟩ := h.ok rfl
 simp only at h4 h5 h6
 have hl := gj hk
 cases e : x.1.fy s with
 | true =>
   obtain ⟨q1, q2, _⟩ := yC hk h e
   exact (iZ.2 ⟨q1, ((hs _).1 q2).imp (fun e => by rw [e]) (fun e => by rw [e])⟩).symm
 | false =>
   refine (vn.2 fun ⟨q1, q2⟩ => ?_).symm
   have hp : x.1.p < x.1.e := by omega
   obtain ⟨_, b2⟩ := fJ h3 hp
   rw [qR h1 h2, h4] at b2
   have : x.1.fy s = true := jC.2 ⟨⟨h3, hp⟩, (hs _).2 (by rw [b2]; exact q2.imp (fun e => UInt8.toNat_inj.1 e) (fun e => UInt8.toNat_inj.1 e))⟩
   rw [this] at e; cases e
theorem u9 {c : Cu} (hk : c.ok) : ∀ (n : Nat) (x : CO) (i : Nat), Nx c x (i, 0) → i < c.e → cG (c.a9.getD i 0) = true → c.e - i ≤ n + 1 → Nx c (dU n x.1 x.2) (fG c.a9 i, 0)
 | n, x, i, h, hi, hd, hn => by
   obtain ⟨h1, h2, h3, h4, h5, h6, h7⟩ := h.ok rfl
   simp only at h4 h5 h6 h7
   have hl := gj hk
   obtain ⟨b1, b2⟩ := fJ h3 (by omega)
   rw [qR h1 h2, h4] at b2
   have hx : Nx c (x.1.byte, x.2 ++ [x.1.af]) (i + 1, 0) := ⟨fun _ => by
    rw [b1]
    refine ⟨h1, h2, h3, by show x.1.p + 1 = i + 1; omega, by show c.p ≤ i + 1; omega, by show i + 1 ≤ c.e; omega, ?_⟩
    show x.2 ++ [x.1.af] = sub c.a9 c.p (i + 1)
    rw [C2 h5 (by omega), h7, b2], fun k => absurd rfl k⟩
   rw [oM (by omega) hd]
   have hb : x.1.byte.af = if i + 1 < c.e then c.a9.getD (i + 1) 0 else 0 := by
    rw [b1]
    split
    . rename_i q
      have := (fJ (c := { x.1 with p := x.1.p + 1 }) h3 (by show x.1.p + 1 < x.1.e; omega)).2
      rw [this]
      show (Cu.a9 { x.1 with p := x.1.p + 1 }).getD (x.1.p + 1) 0 = _
      rw [h4]
      exact congrArg (fun l : List UInt8 => l.getD (i + 1) 0) (qR (d := { x.1 with p := i + 1 }) h1 h2)
    . exact nD fun q => by have : x.1.p + 1 < x.1.e := q.2; omega
   have stop : (c.e ≤ i + 1 ∨ cG (c.a9.getD (i + 1) 0) = false) → Nx c (x.1.byte, x.2 ++ [x.1.af]) (fG c.a9 (i + 1), 0) := fun q => by
    rw [ni (by rcases q with q | q; exact .inl (by omega); exact .inr q)]; exact hx
   match n with
   | 0 => rw [dU]; exact stop (.inl (by omega))
   | n + 1 =>
     rw [dU]
     by_cases q : i + 1 < c.e
     . rw [if_pos q] at hb
       rw [hb]
       by_cases r : cG (c.a9.getD (i + 1) 0) = true
       . rw [if_pos r]; exact u9 hk n _ (i + 1) hx q r (by omega)
       . rw [if_neg r]; exact stop (.inr (by simpa using r))
     . rw [if_neg q] at hb
       rw [hb, if_neg (by decide)]; exact stop (.inl (by omega))
theorem ua {c : Cu} (hk : c.ok) {x : CO} {i : Nat} (h : Nx c x (i, 0)) : Nx c x.cH (dz c.a9 i) := by
 obtain ⟨h1, h2, h3, h4, h5, h6, h7⟩ := h.ok rfl
 simp only at h4 h5 h6 h7
 have hl := gj hk
 have hp := m8 c.a9 i
 unfold CO.cH Cu.cH dz
 by_cases q : i < c.e
 . obtain ⟨b1, b2⟩ := fJ h3 (by omega)
   rw [qR h1 h2, h4] at b2
   rw [b2]
   by_cases r : cG (c.a9.getD i 0) = true
   . have e := oM (by omega) r
     have := (m8 c.a9 (i + 1)).1
     rw [if_pos r, if_pos (by omega)]
     have g := u9 hk (x.1.e - x.1.p) (x.1, []) i
     have g2 := u9 hk (x.1.e - x.1.p) x i h q r (by omega)
     have ap : ∀ (n : Nat) (d : Cu) (o o' : List UInt8), (dU n d (o ++ o')).1 = (dU n d o').1 ∧ (dU n d (o ++ o')).2 = o ++ (dU n d o').2 := by
      intro n
      induction n with
      | zero => intro d o o'; rw [dU, dU]; simp
      | succ n ih =>
        intro d o o'
        rw [dU, dU]
        split
        . rw [List.append_assoc]; exact ih _ _ _
        . simp
     obtain ⟨a1, a2⟩ := ap (x.1.e - x.1.p) x.1 x.2 []
     rw [List.append_nil] at a1 a2
     have e3 : (dU (x.1.e - x.1.p) x.1 x.2) = ((dU (x.1.e - x.1.p) x.1 []).1, x.2 ++ (dU (x.1.e - x.1.p) x.1 []).2) := Prod.ext a1 a2
     rw [e3] at g2
     exact g2
   . have e := ni (t := c.a9) (i := i) (.inr (by simpa using r))
     have hleft : x.1.left > 0 := by show (x.1.e : Int) - x.1.p > 0; omega
     rw [if_neg r, if_pos hleft, if_neg (show ¬ fG c.a9 i > i by omega), if_neg (show ¬ i = c.a9.length by omega)]
     refine ⟨fun k => absurd (show (3 : Int) = 0 from k) (by decide), fun _ => ?_⟩
     have hf : (x.1.fail 3).c = 3 := by rw [gT _ h3]
     show (x.1.fail 3).byte.c = 3
     rw [(nE (by omega)).1]; exact hf
 . have e := ni (t := c.a9) (i := i) (.inl (by omega))
   have hb : x.1.af = 0 := nD fun k => by have := k.2; omega
   have hleft : ¬ x.1.left > 0 := by show ¬ (x.1.e : Int) - x.1.p > 0; omega
   rw [hb, if_neg (show ¬ cG 0 = true by decide), if_neg hleft, if_neg (show ¬ fG c.a9 i > i by omega), if_pos (show i = c.a9.length by omega)]
   refine ⟨fun k => absurd (show (1 : Int) = 0 from k) (by decide), fun _ => ?_⟩
   show x.1.byte.c = 1
   rw [(my h3 (by omega)).1]
theorem xM {c : Cu} {x : CO} {r : Nat × Int} (h : Nx c x r) (k : r.2 ≠ 0) : x.1.c ≠ 0 := by rw [h.bad k]; exact k
theorem pG {c : Cu} (hk : c.ok) {x : CO} {i : Nat} {a b : UInt8} {s : List UInt8} (hs : ∀ y, y ∈ s ↔ y = a ∨ y = b) (h : Nx c x (i, 0)) : Nx c (x.dE s) (cD c.a9 i a.toNat b.toNat, 0) := by
 have e := rE hk hs h
 unfold cD
 rw [← e]
 split
 . rename_i q; exact (yC hk h q).2.2
 . rename_i q; rw [mB (by simpa using q)]; exact h
theorem qi (a y : UInt8) : y ∈ [a] ↔ y = a ∨ y = a := by simp
theorem uX (a b y : UInt8) : y ∈ [a, b] ↔ y = a ∨ y = b := by simp
theorem IE {c : Cu} (hk : c.ok) (h0 : c.c = 0) : Nx c c.iI (dI c.a9 c.p) := by
 have hl := gj hk
 have s0 : Nx c (c, []) (c.p, 0) := ⟨fun _ => ⟨rfl, rfl, h0, rfl, Nat.le_refl _, hk.1, (sub_self _ _).symm⟩, fun k => absurd rfl k⟩
 have s1 := pG hk (qi 45) s0
 have w : Nx c (CO.whole (c, [])) (cj c.a9 c.p) := by
  unfold CO.whole cj
  have e := rE hk (qi 48) s1
  have s2 := pG hk (qi 48) s1
  unfold cD at s2
  rw [e]
  by_cases q : fO c.a9 (cD c.a9 c.p 45 45) 48 48 = true
  . rw [if_pos (by exact q), if_pos q]
    rw [if_pos (by exact q)] at s2; exact s2
  . rw [if_neg (by exact q), if_neg q]
    rw [if_neg (by exact q)] at s2; exact ua hk s2
 have b : Nx c (CO.behind (CO.whole (c, []))) (cT c.a9 (cj c.a9 c.p)) := by
  generalize CO.whole (c, []) = x at *
  generalize cj c.a9 c.p = r at *
  obtain ⟨i, k⟩ := r
  unfold CO.behind cT
  by_cases z : k = 0
  . subst z
    have e := rE hk (qi 46) w
    have s2 := pG hk (qi 46) w
    unfold cD at s2
    rw [e]
    by_cases q : fO c.a9 i 46 46 = true
    . rw [if_pos (by exact q), if_pos ⟨rfl, q⟩]
      rw [if_pos (by exact q)] at s2; exact ua hk s2
    . rw [if_neg (by exact q), if_neg (fun t => q t.2)]
      rw [if_neg (by exact q)] at s2; exact s2
  . have e := ue (s := [46]) (xM w z)
    rw [e, if_neg (by decide), if_neg (fun t => z t.1), mB e]; exact w
 unfold Cu.iI dI
 generalize CO.behind (CO.whole (c, [])) = x at *
 generalize cT c.a9 (cj c.a9 c.p) = r at *
 obtain ⟨i, k⟩ := r
 unfold CO.n9 iK
 by_cases z : k = 0
 . subst z
   have e := rE hk (uX 101 69) b
   have s2 := pG hk (uX 101 69) b
   rw [e]
   by_cases q : fO c.a9 i 101 69 = true
   . rw [if_pos (by exact q), if_pos ⟨rfl, q⟩]
     unfold cD at s2
     rw [if_pos (by exact q)] at s2
     exact ua hk (pG hk (uX 43 45) s2)
   . rw [if_neg (by exact q), if_neg (fun t => q t.2)]
     unfold cD at s2
     rw [if_neg (by exact q)] at s2; exact s2
 . have e := ue (s := [101, 69]) (xM b z)
   rw [e, if_neg (by decide), if_neg (fun t => z t.1), mB e]; exact b
def dS (b : UInt8) : Bool := decide (b.toNat = 32 ∨ b.toNat = 9 ∨ b.toNat = 10 ∨ b.toNat = 13)
def fh (b : UInt8) : Bool := decide (b.toNat = 123 ∨ b.toNat = 125 ∨ b.toNat = 91 ∨ b.toNat = 93 ∨ b.toNat = 58 ∨ b.toNat = 44)
structure Tk where
 k : UInt8
 t : List UInt8
instance : Inhabited Tk := ⟨⟨0, []⟩⟩
abbrev Tk.no : Tk := ⟨0, []⟩
def spell (k : UInt8) : List UInt8 := if k.toNat = 116 then [116, 114, 117, 101] else if k.toNat = 102 then [102, 97, 108, 115, 101] else if k.toNat = 122 then [110, 117, 108, 108] else []
def Cu.cK (c : Cu) : Cu := if c.c = 0 then { c with p := eE dS c.a9 c.p } else c
def Cu.word : List UInt8 → Cu → Cu × Bool
 | [], c => (c, true)
 | b :: s, c => if c.af ≠ b then (c.byte.fail 3, false) else Cu.word s c.byte
def Cu.num (c : Cu) : CO := (c.iI.1, if c.iI.1.c = 0 then c.iI.2 else [])
def held (x : CO) (k : UInt8) : Cu × Tk := (x.1, if x.1.c = 0 then ⟨k, x.2⟩ else .no)
def Cu.oX (c : Cu) (k : UInt8) : Cu × Tk := ((c.word (spell k)).1, if (c.word (spell k)).2 = true then ⟨k, []⟩ else .no)
def Cu.qP (d : Cu) : Cu × Tk :=
 if ¬ d.has then (d, .no)
 else if fh d.af = true then (d.byte, ⟨d.af, []⟩)
 else if d.af.toNat = 34 then held d.read 115
 else if d.af.toNat = 45 ∨ cG d.af = true then held d.num 110
 else if d.af.toNat = 116 then d.oX 116
 else if d.af.toNat = 102 then d.oX 102
 else if d.af.toNat = 110 then d.oX 122
 else (d.fail 3, .no)
def Cu.next (c : Cu) : Cu × Tk := c.cK.qP
def Cu.lY (c : Cu) : CO :=
 if c.c ≠ 0 then (c, []) else if (dI c.a9 c.p).2 ≠ 0 then (c.fail (dI c.a9 c.p).2, []) else ({ c with p := (dI c.a9 c.p).1 }, sub c.s c.p (dI c.a9 c.p).1)
def gK (c : Cu) : List UInt8 → Nat → Int
 | [], _ => 0
 | b :: s, i => if c.p + i ≥ c.e then 1 else if c.s.getD (c.p + i) 0 ≠ b then 3 else gK c s (i + 1)
def Cu.gJ (c : Cu) (k : UInt8) : Cu × Tk := if gK c (spell k) 0 ≠ 0 then (c.fail (gK c (spell k) 0), .no) else ({ c with p := c.p + (spell k).length }, ⟨k, []⟩)
def Cu.kh (d : Cu) : Cu × Tk :=
 if d.p = d.e then (d, .no)
 else if fh d.get = true then ({ d with p := d.p + 1 }, ⟨d.get, []⟩)
 else if d.get.toNat = 34 then held d.jo 115
 else if d.get.toNat = 45 ∨ cG d.get = true then held d.lY 110
 else if d.get.toNat = 116 ∨ d.get.toNat = 102 then d.gJ d.get
 else if d.get.toNat = 110 then d.gJ 122
 else (d.fail 3, .no)
def Cu.eZ (c : Cu) : Cu × Tk := if c.c ≠ 0 then (c, .no) else ({ c with p := eE dS c.a9 c.p } : Cu).kh
def l9 (x y : Cu × Tk) : Prop := x.2 = y.2 ∧ x.1.c = y.1.c ∧ (y.1.c = 0 → x.1 = y.1)
theorem l9.refl (x : Cu × Tk) : l9 x x := ⟨rfl, rfl, fun _ => rfl⟩
theorem Ke {c : Cu} {i j : Nat} (h : j ≤ c.e) : sub c.a9 i j = sub c.s i j := by unfold sub Cu.a9; rw [List.take_take, Nat.min_eq_left h]
theorem oE (t : List UInt8) (i : Nat) (h : i ≤ t.length) : i ≤ (dz t i).1 ∧ (dz t i).1 ≤ t.length := by
 have := m8 t i
 unfold dz; repeat' split
 all_goals (constructor <;> (try dsimp only) <;> omega)
theorem qC (t : List UInt8) (i a b : Nat) (h : i ≤ t.length) : i ≤ cD t i a b ∧ cD t i a b ≤ t.length := by
 unfold cD; split
 . rename_i q; have := (iZ.1 q).1; omega
 . omega
theorem I0 (t : List UInt8) (i : Nat) (h : i ≤ t.length) : i ≤ (dI t i).1 ∧ (dI t i).1 ≤ t.length := by
 have h1 := qC t i 45 45 h
 have w : i ≤ (cj t i).1 ∧ (cj t i).1 ≤ t.length := by
  unfold cj; split
  . rename_i q; have := (iZ.1 q).1; dsimp only; omega
  . have := oE t _ h1.2; omega
 have b : i ≤ (cT t (cj t i)).1 ∧ (cT t (cj t i)).1 ≤ t.length := by
  generalize cj t i = x at *
  unfold cT; split
  . rename_i q; have := (iZ.1 q.2).1; have := oE t (x.1 + 1) (by omega); omega
  . exact w
 unfold dI
 generalize cT t (cj t i) = x at *
 unfold iK; split
 . rename_i q; have := (iZ.1 q.2).1; have := qC t (x.1 + 1) 43 45 (by omega); have := oE t _ this.2; omega
 . exact b
theorem I3 {c : Cu} (hk : c.ok) : l9 (held c.num 110) (held c.lY 110) := by
 unfold Cu.lY
 by_cases h0 : c.c = 0
 . have h := IE hk h0
   rw [if_neg (by omega)]
   by_cases z : (dI c.a9 c.p).2 = 0
   . obtain ⟨h1, h2, h3, h4, h5, h6, h7⟩ := h.ok z
     rw [if_neg (by omega)]
     have e1 : c.iI.1 = { c with p := (dI c.a9 c.p).1 } := by
      generalize c.iI.1 = d at *
      obtain ⟨ds, dp, de, dc⟩ := d
      simp only at h1 h2 h3 h4
      rw [h1, h2, h3, h4, ← h0]
     have e2 : c.num = ({ c with p := (dI c.a9 c.p).1 }, sub c.s c.p (dI c.a9 c.p).1) := by
      unfold Cu.num; rw [if_pos h3, h7, Ke h6, e1]
     rw [e2]; exact .refl _
   . have hb := h.bad z
     rw [if_pos z, gT _ h0]
     unfold held Cu.num
     rw [hb]
     simp only
     rw [if_neg z, if_neg z]
     exact ⟨rfl, hb, fun k => absurd k z⟩
 . rw [if_pos h0]
   have hp : c.iI = (c, []) := by
    have e : ∀ s, (c, ([] : List UInt8)).1.fy s = false := fun s => ue h0
    unfold Cu.iI
    have w : CO.whole (c, []) = (c, []) := by
     unfold CO.whole
     rw [mB (e _), e, if_neg (by decide), mB (e _)]
     unfold CO.cH Cu.cH
     have hb : c.af = 0 := nD fun k => h0 k.1
     have hf : (if c.left > 0 then c.fail 3 else c) = c := by split; exact kD 3 h0; rfl
     show ((if cG c.af = true then _ else _ : CO).1, [] ++ (if cG c.af = true then _ else _ : CO).2) = _
     rw [hb, if_neg (by decide), hf, (nE h0).1]; rfl
    have b : CO.behind (c, []) = (c, []) := by
     unfold CO.behind; rw [e, if_neg (by decide), mB (e _)]
    have p : CO.n9 (c, []) = (c, []) := by
     unfold CO.n9; rw [e, if_neg (by decide), mB (e _)]
    rw [w, b, p]
   unfold held Cu.num
   rw [hp]
   simp only
   rw [if_neg h0, if_neg h0]
   exact ⟨rfl, rfl, fun _ => rfl⟩
theorem CC {c : Cu} : ∀ (s : List UInt8) (i : Nat) (d : Cu), (∀ x ∈ s, x ≠ 0) → On c d i → d.p ≤ d.e →
   (gK c s i = 0 → (d.word s).2 = true ∧ On c (d.word s).1 (i + s.length)) ∧ (gK c s i ≠ 0 → (d.word s).2 = false ∧ (d.word s).1.c = gK c s i)
 | [], i, d, _, h, _ => by
   unfold gK Cu.word
   exact ⟨fun _ => ⟨rfl, h⟩, fun k => absurd rfl k⟩
 | b :: s, i, d, hz, h, hd => by
   unfold gK Cu.word
   have hp := h.p
   have he := h.e
   by_cases q : c.p + i ≥ c.e
   . obtain ⟨b1, b2⟩ := my h.c0 (by omega)
     rw [if_pos q]
     refine ⟨fun k => absurd k (by decide), fun _ => ?_⟩
     by_cases hb : d.af ≠ b
     . rw [if_pos hb, b1]
       refine ⟨rfl, ?_⟩
       rw [kD _ (by show (1 : Int) ≠ 0; decide)]
     . rw [if_neg hb]
       have bb : b = 0 := by rw [b2] at hb; exact (Decidable.not_not.1 hb).symm
       exact absurd bb (hz b (by simp))
   . obtain ⟨b1, b2⟩ := fJ h.c0 (by omega)
     rw [h.a9, hp] at b2
     have hg : c.a9.getD (c.p + i) 0 = c.s.getD (c.p + i) 0 := by unfold Cu.a9; exact oe (by omega)
     rw [if_neg q, b2, hg]
     by_cases hb : c.s.getD (c.p + i) 0 ≠ b
     . rw [if_pos hb, if_pos hb]
       refine ⟨fun k => absurd k (by decide), fun _ => ⟨rfl, ?_⟩⟩
       rw [b1]
       show (Cu.fail { d with p := d.p + 1 } 3).c = 3
       rw [gT 3 (show ({ d with p := d.p + 1 } : Cu).c = 0 from h.c0)]
     . rw [if_neg hb, if_neg hb]
       have := CC s (i + 1) d.byte (fun x hx => hz x (List.mem_cons_of_mem _ hx)) (by have := h.trans (On.byte h.c0 (by omega)); exact this) (by rw [b1]; show d.p + 1 ≤ d.e; omega)
       rw [show i + (b :: s).length = i + 1 + s.length by simp; omega]
       exact this
theorem K8 (k : UInt8) : ∀ x ∈ spell k, x ≠ 0 := by
 unfold spell; repeat' split
 all_goals decide
theorem xl {c : Cu} (hk : c.ok) (h0 : c.c = 0) (k : UInt8) : l9 (c.oX k) (c.gJ k) := by
 have h := CC (spell k) 0 c (K8 k) ⟨rfl, rfl, h0, rfl⟩ hk.1
 unfold Cu.oX Cu.gJ
 by_cases z : gK c (spell k) 0 = 0
 . obtain ⟨h1, h2⟩ := h.1 z
   rw [if_pos h1, if_neg (by omega)]
   have e : (c.word (spell k)).1 = { c with p := c.p + (spell k).length } := by
    generalize (c.word (spell k)).1 = d at *
    obtain ⟨ds, dp, de, dc⟩ := d
    obtain ⟨a1, a2, a3, a4⟩ := h2
    simp only [Nat.zero_add] at a1 a2 a3 a4
    rw [a1, a2, a3, a4, ← h0]
   rw [e]; exact .refl _
 . obtain ⟨h1, h2⟩ := h.2 z
   rw [if_neg (by rw [h1]; decide), if_pos z, gT _ h0]
   exact ⟨rfl, h2, fun q => absurd q z⟩
theorem G3 {x y : CO} {k : UInt8} (h1 : x.2 = y.2) (h2 : x.1.c = y.1.c) (h3 : y.1.c = 0 → x.1 = y.1) : l9 (held x k) (held y k) := by
 refine ⟨?_, h2, h3⟩
 show (if x.1.c = 0 then _ else _) = if y.1.c = 0 then _ else _
 rw [h1, h2]
theorem J5 {c : Cu} (hk : c.ok) : l9 (held c.read 115) (held c.jo 115) := by
 obtain ⟨h1, h2, h3⟩ := J4 hk
 exact G3 h1 h2 h3
theorem Kn {d : Cu} (hk : d.ok) (h0 : d.c = 0) : l9 d.qP d.kh := by
 unfold Cu.qP Cu.kh
 by_cases q : d.p = d.e
 . rw [if_pos (fun h => by have := h.2; omega), if_pos q]; exact .refl _
 . have hp : d.p < d.e := by have := hk.1; omega
   have hh : d.has := ⟨h0, hp⟩
   have hv : d.af = d.get := by unfold Cu.af; rw [if_pos (show d.c = 0 ∧ d.p < d.e from hh)]
   rw [if_neg (fun h => h hh), if_neg q, hv, (fJ h0 hp).1]
   by_cases a : fh d.get = true
   . rw [if_pos a, if_pos a]; exact .refl _
   rw [if_neg a, if_neg a]
   by_cases b : d.get.toNat = 34
   . rw [if_pos b, if_pos b]; exact J5 hk
   rw [if_neg b, if_neg b]
   by_cases e : d.get.toNat = 45 ∨ cG d.get = true
   . rw [if_pos e, if_pos e]; exact I3 hk
   rw [if_neg e, if_neg e]
   by_cases f : d.get.toNat = 116
   . rw [if_pos f, if_pos (.inl f), show d.get = 116 from UInt8.toNat_inj.1 f]; exact xl hk h0 116
   rw [if_neg f]
   by_cases g : d.get.toNat = 102
   . rw [if_pos g, if_pos (.inr g), show d.get = 102 from UInt8.toNat_inj.1 g]; exact xl hk h0 102
   rw [if_neg g, if_neg (show ¬ (d.get.toNat = 116 ∨ d.get.toNat = 102) by omega)]
   by_cases i : d.get.toNat = 110
   . rw [if_pos i, if_pos i]; exact xl hk h0 122
   rw [if_neg i, if_neg i]; exact .refl _
theorem xR {c : Cu} (hk : c.ok) : c.cK.ok := by
 unfold Cu.cK; split
 . have := vI dS c.a9 c.p
   have := gj hk
   have := hk.1
   exact ⟨by show eE dS c.a9 c.p ≤ c.e; omega, hk.2⟩
 . exact hk
theorem sv {c : Cu} (hk : c.ok) : l9 c.next c.eZ := by
 unfold Cu.next Cu.eZ
 have hb := xR hk
 by_cases h0 : c.c = 0
 . rw [if_neg (by omega)]
   have e : c.cK = { c with p := eE dS c.a9 c.p } := by unfold Cu.cK; rw [if_pos h0]
   rw [e] at hb ⊢
   exact Kn hb h0
 . rw [if_pos h0]
   have e : c.cK = c := by unfold Cu.cK; rw [if_neg h0]
   rw [e]
   unfold Cu.qP
   rw [if_pos (fun h => h0 h.1)]; exact .refl _
end Go.Proofs.YtllncocibkgjkaaDoor
