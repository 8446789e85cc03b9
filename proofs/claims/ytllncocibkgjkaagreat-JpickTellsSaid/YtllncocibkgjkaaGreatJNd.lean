/-
  A part of the proof.
-/
import Derived.Test.YtllncocibkgjkaaGreatJRe
set_option linter.unusedSimpArgs false
set_option linter.unusedVariables false
set_option maxHeartbeats 4000000
namespace Go.Proofs.YtllncocibkgjkaaGreat
open Go Go.VG
set_option maxRecDepth 100000
def aN (b : UInt8) : Bool := decide (48 ≤ b.toNat ∧ b.toNat ≤ 57)
def cu (q : UInt8 → Bool) (t : List UInt8) (i : Nat) : Nat := i + ((t.drop i).takeWhile q).length
theorem w9 {q : UInt8 → Bool} {t : List UInt8} {i : Nat} (hi : i < t.length) (h : q (t.getD i 0) = true) : cu q t i = cu q t (i + 1) := by
 unfold cu
 have e : t.drop i = t.getD i 0 :: t.drop (i + 1) := by
  rw [List.drop_eq_getElem_cons hi, List.getD_eq_getElem?_getD, List.getElem?_eq_getElem hi]; rfl
 rw [e, List.takeWhile_cons, if_pos h, List.length_cons]; omega
theorem sM {q : UInt8 → Bool} {t : List UInt8} {i : Nat} (h : t.length ≤ i ∨ q (t.getD i 0) = false) : cu q t i = i := by
 unfold cu
 rcases Nat.lt_or_ge i t.length with hi | hi
 . have e : t.drop i = t.getD i 0 :: t.drop (i + 1) := by
     rw [List.drop_eq_getElem_cons hi, List.getD_eq_getElem?_getD, List.getElem?_eq_getElem hi]; rfl
   have h : q (t.getD i 0) = false := by rcases h with h | h; omega; exact h
   rw [e, List.takeWhile_cons, if_neg (by rw [h]; decide)]; rfl
 . rw [List.drop_eq_nil_of_le hi]; rfl
theorem qK (q : UInt8 → Bool) (t : List UInt8) (i : Nat) : i ≤ cu q t i ∧ (cu q t i ≤ t.length ∨ cu q t i = i) := by
 unfold cu
 have h := (List.takeWhile_sublist (p := q) (l := t.drop i)).length_le
 rw [List.length_drop] at h
 omega
abbrev dx (t : List UInt8) (i : Nat) : Nat := cu aN t i
theorem oU {t : List UInt8} {i : Nat} (hi : i < t.length) (h : aN (t.getD i 0) = true) : dx t i = dx t (i + 1) := w9 hi h
theorem mb {t : List UInt8} {i : Nat} (h : t.length ≤ i ∨ aN (t.getD i 0) = false) : dx t i = i := sM h
theorem k9 (t : List UInt8) (i : Nat) : i ≤ dx t i ∧ (dx t i ≤ t.length ∨ dx t i = i) := qK _ t i
def bI (t : List UInt8) (i : Nat) (a b : Nat) : Bool := decide (i < t.length) && decide ((t.getD i 0).toNat = a ∨ (t.getD i 0).toNat = b)
theorem eM {t : List UInt8} {i a b : Nat} : bI t i a b = true ↔ i < t.length ∧ ((t.getD i 0).toNat = a ∨ (t.getD i 0).toNat = b) := by simp [bI]
theorem oN {t : List UInt8} {i a b : Nat} : bI t i a b = false ↔ ¬ (i < t.length ∧ ((t.getD i 0).toNat = a ∨ (t.getD i 0).toNat = b)) := by
 rw [← eM, Bool.not_eq_true]
def bW (t : List UInt8) (i : Nat) : Nat × Int := if dx t i > i then (dx t i, 0) else if i = t.length then (i, 1) else (i, 3)
def bo (t : List UInt8) (i a b : Nat) : Nat := if bI t i a b = true then i + 1 else i
def aM (t : List UInt8) (i : Nat) : Nat × Int := if bI t (bo t i 45 45) 48 48 = true then (bo t i 45 45 + 1, 0) else bW t (bo t i 45 45)
def bz (t : List UInt8) (x : Nat × Int) : Nat × Int := if x.2 = 0 ∧ bI t x.1 46 46 = true then bW t (x.1 + 1) else x
def gj (t : List UInt8) (x : Nat × Int) : Nat × Int := if x.2 = 0 ∧ bI t x.1 101 69 = true then bW t (bo t (x.1 + 1) 43 45) else x
def sub (t : List UInt8) (i j : Nat) : List UInt8 := (t.take j).drop i
def bR (t : List UInt8) (i : Nat) : Nat × Int := gj t (bz t (aM t i))
def Cu.has (c : Cu) : Prop := c.c = 0 ∧ c.p < c.e
instance (c : Cu) : Decidable c.has := by unfold Cu.has; infer_instance
def Cu.ff (c : Cu) (s : List UInt8) : Bool := decide (c.has ∧ c.ai ∈ s)
def Cu.iP (c : Cu) (s : List UInt8) : Cu := if c.ff s = true then c.byte else c
def Cu.jE (c : Cu) (s : List UInt8) : List UInt8 := if c.ff s = true then [c.ai] else []
def dC : Nat → Cu → List UInt8 → Cu × List UInt8
 | 0, c, o => (c.byte, o ++ [c.ai])
 | n + 1, c, o => if aN c.byte.ai = true then dC n c.byte (o ++ [c.ai]) else (c.byte, o ++ [c.ai])
termination_by n => n
def Cu.aL (c : Cu) : Cu × List UInt8 := if aN c.ai = true then dC (c.e - c.p) c [] else ((if c.left > 0 then c.fail 3 else c).byte, [])
abbrev CO := Cu × List UInt8
def CO.dn (x : CO) (s : List UInt8) : CO := (x.1.iP s, x.2 ++ x.1.jE s)
def CO.aL (x : CO) : CO := (x.1.aL.1, x.2 ++ x.1.aL.2)
def CO.whole (x : CO) : CO := if (x.dn [45]).1.ff [48] = true then (x.dn [45]).dn [48] else ((x.dn [45]).dn [48]).aL
def CO.behind (x : CO) : CO := if x.1.ff [46] = true then (x.dn [46]).aL else x.dn [46]
def CO.m6 (x : CO) : CO := if x.1.ff [101, 69] = true then ((x.dn [101, 69]).dn [43, 45]).aL else x.dn [101, 69]
def Cu.fD (c : Cu) : CO := CO.m6 (CO.behind (CO.whole (c, [])))
structure Nx (c : Cu) (x : CO) (r : Nat × Int) : Prop where
 ok : r.2 = 0 → x.1.s = c.s ∧ x.1.e = c.e ∧ x.1.c = 0 ∧ x.1.p = r.1 ∧ c.p ≤ r.1 ∧ r.1 ≤ c.e ∧ x.2 = sub c.aa c.p r.1
 bad : r.2 ≠ 0 → x.1.c = r.2
theorem sub_self (t : List UInt8) (i : Nat) : sub t i i = [] := by unfold sub; rw [List.drop_eq_nil_iff, List.length_take]; omega
theorem CL {t : List UInt8} {i j : Nat} (h : i ≤ j) (hj : j < t.length) : sub t i (j + 1) = sub t i j ++ [t.getD j 0] := by
 unfold sub
 rw [p9 hj, List.drop_append_of_le_length (by rw [List.length_take]; omega)]
theorem qX {c d : Cu} (h1 : d.s = c.s) (h2 : d.e = c.e) : d.aa = c.aa := by unfold Cu.aa; rw [h1, h2]
theorem nz {d : Cu} (h : ¬ d.has) : d.ai = 0 := by unfold Cu.ai; rw [if_neg (show ¬ (d.c = 0 ∧ d.p < d.e) from h)]
theorem jh {d : Cu} {s : List UInt8} : d.ff s = true ↔ d.has ∧ d.ai ∈ s := by unfold Cu.ff; rw [decide_eq_true_eq]
theorem mF {x : CO} {s : List UInt8} (h : x.1.ff s = false) : x.dn s = x := by
 unfold CO.dn Cu.iP Cu.jE; rw [h]; simp
theorem uz {x : CO} {s : List UInt8} (h : x.1.c ≠ 0) : x.1.ff s = false := by
 cases e : x.1.ff s with
 | false => rfl
 | true => exact absurd (jh.1 e).1.1 h
theorem zr {c : Cu} (hk : c.ok) {x : CO} {i : Nat} {s : List UInt8} (h : Nx c x (i, 0)) (he : x.1.ff s = true) : i < c.aa.length ∧ c.aa.getD i 0 ∈ s ∧ Nx c (x.dn s) (i + 1, 0) := by
 obtain ⟨h1, h2, h3, h4, h5, h6, h7⟩ := h.ok rfl
 simp only at h4 h5 h6 h7
 obtain ⟨k1, k2⟩ := jh.1 he
 have hp : x.1.p < x.1.e := k1.2
 have hl := eB hk
 obtain ⟨b1, b2⟩ := fz h3 hp
 rw [qX h1 h2, h4] at b2
 refine ⟨by omega, by rw [← b2]; exact k2, ⟨fun _ => ?_, fun k => absurd rfl k⟩⟩
 unfold CO.dn Cu.iP Cu.jE
 rw [if_pos he, if_pos he, b1]
 refine ⟨h1, h2, h3, by show x.1.p + 1 = i + 1; omega, by show c.p ≤ i + 1; omega, by show i + 1 ≤ c.e; omega, ?_⟩
 show x.2 ++ [x.1.ai] = sub c.aa c.p (i + 1)
 rw [CL h5 (by omega), h7, b2]
theorem rK {c : Cu} (hk : c.ok) {x : CO} {i : Nat} {a b : UInt8} {s : List UInt8} (hs : ∀ y, y ∈ s ↔ y = a ∨ y = b) (h : Nx c x (i, 0)) : x.1.ff s = bI c.aa i a.toNat b.toNat := by
 obtain ⟨h1, h2, h3, h4, h5, h6, h7⟩ := h.ok rfl
 simp only at h4 h5 h6
 have hl := eB hk
 cases e : x.1.ff s with
 | true =>
   obtain ⟨q1, q2, _⟩ := zr hk h e
   exact (eM.2 ⟨q1, ((hs _).1 q2).imp (fun e => by rw [e]) (fun e => by rw [e])⟩).symm
 | false =>
   refine (oN.2 fun ⟨q1, q2⟩ => ?_).symm
   have hp : x.1.p < x.1.e := by omega
   obtain ⟨_, b2⟩ := fz h3 hp
   rw [qX h1 h2, h4] at b2
   have : x.1.ff s = true := jh.2 ⟨⟨h3, hp⟩, (hs _).2 (by rw [b2]; exact q2.imp (fun e => UInt8.toNat_inj.1 e) (fun e => UInt8.toNat_inj.1 e))⟩
   rw [this] at e; cases e
theorem uo {c : Cu} (hk : c.ok) : ∀ (n : Nat) (x : CO) (i : Nat), Nx c x (i, 0) → i < c.e → aN (c.aa.getD i 0) = true → c.e - i ≤ n + 1 → Nx c (dC n x.1 x.2) (dx c.aa i, 0)
 | n, x, i, h, hi, hd, hn => by
   obtain ⟨h1, h2, h3, h4, h5, h6, h7⟩ := h.ok rfl
   simp only at h4 h5 h6 h7
   have hl := eB hk
   obtain ⟨b1, b2⟩ := fz h3 (by omega)
   rw [qX h1 h2, h4] at b2
   have hx : Nx c (x.1.byte, x.2 ++ [x.1.ai]) (i + 1, 0) := ⟨fun _ => by
    rw [b1]
    refine ⟨h1, h2, h3, by show x.1.p + 1 = i + 1; omega, by show c.p ≤ i + 1; omega, by show i + 1 ≤ c.e; omega, ?_⟩
    show x.2 ++ [x.1.ai] = sub c.aa c.p (i + 1)
    rw [CL h5 (by omega), h7, b2], fun k => absurd rfl k⟩
   rw [oU (by omega) hd]
   have hb : x.1.byte.ai = if i + 1 < c.e then c.aa.getD (i + 1) 0 else 0 := by
    rw [b1]
    split
    . rename_i q
      have := (fz (c := { x.1 with p := x.1.p + 1 }) h3 (by show x.1.p + 1 < x.1.e; omega)).2
      rw [this]
      show (Cu.aa { x.1 with p := x.1.p + 1 }).getD (x.1.p + 1) 0 = _
      rw [h4]
      exact congrArg (fun l : List UInt8 => l.getD (i + 1) 0) (qX (d := { x.1 with p := i + 1 }) h1 h2)
    . exact nz fun q => by have : x.1.p + 1 < x.1.e := q.2; omega
   have stop : (c.e ≤ i + 1 ∨ aN (c.aa.getD (i + 1) 0) = false) → Nx c (x.1.byte, x.2 ++ [x.1.ai]) (dx c.aa (i + 1), 0) := fun q => by
    rw [mb (by rcases q with q | q; exact .inl (by omega); exact .inr q)]; exact hx
   match n with
   | 0 => rw [dC]; exact stop (.inl (by omega))
   | n + 1 =>
     rw [dC]
     by_cases q : i + 1 < c.e
     . rw [if_pos q] at hb
       rw [hb]
       by_cases r : aN (c.aa.getD (i + 1) 0) = true
       . rw [if_pos r]; exact uo hk n _ (i + 1) hx q r (by omega)
       . rw [if_neg r]; exact stop (.inr (by simpa using r))
     . rw [if_neg q] at hb
       rw [hb, if_neg (by decide)]; exact stop (.inl (by omega))
theorem uq {c : Cu} (hk : c.ok) {x : CO} {i : Nat} (h : Nx c x (i, 0)) : Nx c x.aL (bW c.aa i) := by
 obtain ⟨h1, h2, h3, h4, h5, h6, h7⟩ := h.ok rfl
 simp only at h4 h5 h6 h7
 have hl := eB hk
 have hp := k9 c.aa i
 unfold CO.aL Cu.aL bW
 by_cases q : i < c.e
 . obtain ⟨b1, b2⟩ := fz h3 (by omega)
   rw [qX h1 h2, h4] at b2
   rw [b2]
   by_cases r : aN (c.aa.getD i 0) = true
   . have e := oU (by omega) r
     have := (k9 c.aa (i + 1)).1
     rw [if_pos r, if_pos (by omega)]
     have g := uo hk (x.1.e - x.1.p) (x.1, []) i
     have g2 := uo hk (x.1.e - x.1.p) x i h q r (by omega)
     have ap : ∀ (n : Nat) (d : Cu) (o o' : List UInt8), (dC n d (o ++ o')).1 = (dC n d o').1 ∧ (dC n d (o ++ o')).2 = o ++ (dC n d o').2 := by
      intro n
      induction n with
      | zero => intro d o o'; rw [dC, dC]; simp
      | succ n ih =>
        intro d o o'
        rw [dC, dC]
        split
        . rw [List.append_assoc]; exact ih _ _ _
        . simp
     obtain ⟨a1, a2⟩ := ap (x.1.e - x.1.p) x.1 x.2 []
     rw [List.append_nil] at a1 a2
     have e3 : (dC (x.1.e - x.1.p) x.1 x.2) = ((dC (x.1.e - x.1.p) x.1 []).1, x.2 ++ (dC (x.1.e - x.1.p) x.1 []).2) := Prod.ext a1 a2
     rw [e3] at g2
     exact g2
   . have e := mb (t := c.aa) (i := i) (.inr (by simpa using r))
     have hleft : x.1.left > 0 := by show (x.1.e : Int) - x.1.p > 0; omega
     rw [if_neg r, if_pos hleft, if_neg (show ¬ dx c.aa i > i by omega), if_neg (show ¬ i = c.aa.length by omega)]
     refine ⟨fun k => absurd (show (3 : Int) = 0 from k) (by decide), fun _ => ?_⟩
     have hf : (x.1.fail 3).c = 3 := by rw [fO _ h3]
     show (x.1.fail 3).byte.c = 3
     rw [(nA (by omega)).1]; exact hf
 . have e := mb (t := c.aa) (i := i) (.inl (by omega))
   have hb : x.1.ai = 0 := nz fun k => by have := k.2; omega
   have hleft : ¬ x.1.left > 0 := by show ¬ (x.1.e : Int) - x.1.p > 0; omega
   rw [hb, if_neg (show ¬ aN 0 = true by decide), if_neg hleft, if_neg (show ¬ dx c.aa i > i by omega), if_pos (show i = c.aa.length by omega)]
   refine ⟨fun k => absurd (show (1 : Int) = 0 from k) (by decide), fun _ => ?_⟩
   show x.1.byte.c = 1
   rw [(mA h3 (by omega)).1]
theorem yL {c : Cu} {x : CO} {r : Nat × Int} (h : Nx c x r) (k : r.2 ≠ 0) : x.1.c ≠ 0 := by rw [h.bad k]; exact k
theorem pN {c : Cu} (hk : c.ok) {x : CO} {i : Nat} {a b : UInt8} {s : List UInt8} (hs : ∀ y, y ∈ s ↔ y = a ∨ y = b) (h : Nx c x (i, 0)) : Nx c (x.dn s) (bo c.aa i a.toNat b.toNat, 0) := by
 have e := rK hk hs h
 unfold bo
 rw [← e]
 split
 . rename_i q; exact (zr hk h q).2.2
 . rename_i q; rw [mF (by simpa using q)]; exact h
theorem qu (a y : UInt8) : y ∈ [a] ↔ y = a ∨ y = a := by simp
theorem vA (a b y : UInt8) : y ∈ [a, b] ↔ y = a ∨ y = b := by simp
theorem BV {c : Cu} (hk : c.ok) (h0 : c.c = 0) : Nx c c.fD (bR c.aa c.p) := by
 have hl := eB hk
 have s0 : Nx c (c, []) (c.p, 0) := ⟨fun _ => ⟨rfl, rfl, h0, rfl, Nat.le_refl _, hk.1, (sub_self _ _).symm⟩, fun k => absurd rfl k⟩
 have s1 := pN hk (qu 45) s0
 have w : Nx c (CO.whole (c, [])) (aM c.aa c.p) := by
  unfold CO.whole aM
  have e := rK hk (qu 48) s1
  have s2 := pN hk (qu 48) s1
  unfold bo at s2
  rw [e]
  by_cases q : bI c.aa (bo c.aa c.p 45 45) 48 48 = true
  . rw [if_pos (by exact q), if_pos q]
    rw [if_pos (by exact q)] at s2; exact s2
  . rw [if_neg (by exact q), if_neg q]
    rw [if_neg (by exact q)] at s2; exact uq hk s2
 have b : Nx c (CO.behind (CO.whole (c, []))) (bz c.aa (aM c.aa c.p)) := by
  generalize CO.whole (c, []) = x at *
  generalize aM c.aa c.p = r at *
  obtain ⟨i, k⟩ := r
  unfold CO.behind bz
  by_cases z : k = 0
  . subst z
    have e := rK hk (qu 46) w
    have s2 := pN hk (qu 46) w
    unfold bo at s2
    rw [e]
    by_cases q : bI c.aa i 46 46 = true
    . rw [if_pos (by exact q), if_pos ⟨rfl, q⟩]
      rw [if_pos (by exact q)] at s2; exact uq hk s2
    . rw [if_neg (by exact q), if_neg (fun t => q t.2)]
      rw [if_neg (by exact q)] at s2; exact s2
  . have e := uz (s := [46]) (yL w z)
    rw [e, if_neg (by decide), if_neg (fun t => z t.1), mF e]; exact w
 unfold Cu.fD bR
 generalize CO.behind (CO.whole (c, [])) = x at *
 generalize bz c.aa (aM c.aa c.p) = r at *
 obtain ⟨i, k⟩ := r
 unfold CO.m6 gj
 by_cases z : k = 0
 . subst z
   have e := rK hk (vA 101 69) b
   have s2 := pN hk (vA 101 69) b
   rw [e]
   by_cases q : bI c.aa i 101 69 = true
   . rw [if_pos (by exact q), if_pos ⟨rfl, q⟩]
     unfold bo at s2
     rw [if_pos (by exact q)] at s2
     exact uq hk (pN hk (vA 43 45) s2)
   . rw [if_neg (by exact q), if_neg (fun t => q t.2)]
     unfold bo at s2
     rw [if_neg (by exact q)] at s2; exact s2
 . have e := uz (s := [101, 69]) (yL b z)
   rw [e, if_neg (by decide), if_neg (fun t => z t.1), mF e]; exact b
def cm (b : UInt8) : Bool := decide (b.toNat = 32 ∨ b.toNat = 9 ∨ b.toNat = 10 ∨ b.toNat = 13)
def cj (b : UInt8) : Bool := decide (b.toNat = 123 ∨ b.toNat = 125 ∨ b.toNat = 91 ∨ b.toNat = 93 ∨ b.toNat = 58 ∨ b.toNat = 44)
structure Tk where
 k : UInt8
 t : List UInt8
instance : Inhabited Tk := ⟨⟨0, []⟩⟩
abbrev Tk.no : Tk := ⟨0, []⟩
def spell (k : UInt8) : List UInt8 := if k.toNat = 116 then [116, 114, 117, 101] else if k.toNat = 102 then [102, 97, 108, 115, 101] else if k.toNat = 122 then [110, 117, 108, 108] else []
def Cu.cy (c : Cu) : Cu := if c.c = 0 then { c with p := cu cm c.aa c.p } else c
def Cu.word : List UInt8 → Cu → Cu × Bool
 | [], c => (c, true)
 | b :: s, c => if c.ai ≠ b then (c.byte.fail 3, false) else Cu.word s c.byte
def Cu.num (c : Cu) : CO := (c.fD.1, if c.fD.1.c = 0 then c.fD.2 else [])
def held (x : CO) (k : UInt8) : Cu × Tk := (x.1, if x.1.c = 0 then ⟨k, x.2⟩ else .no)
def Cu.pk (c : Cu) (k : UInt8) : Cu × Tk := ((c.word (spell k)).1, if (c.word (spell k)).2 = true then ⟨k, []⟩ else .no)
def Cu.qW (d : Cu) : Cu × Tk :=
 if ¬ d.has then (d, .no)
 else if cj d.ai = true then (d.byte, ⟨d.ai, []⟩)
 else if d.ai.toNat = 34 then held d.read 115
 else if d.ai.toNat = 45 ∨ aN d.ai = true then held d.num 110
 else if d.ai.toNat = 116 then d.pk 116
 else if d.ai.toNat = 102 then d.pk 102
 else if d.ai.toNat = 110 then d.pk 122
 else (d.fail 3, .no)
def Cu.next (c : Cu) : Cu × Tk := c.cy.qW
def Cu.fP (c : Cu) : CO :=
 if c.c ≠ 0 then (c, []) else if (bR c.aa c.p).2 ≠ 0 then (c.fail (bR c.aa c.p).2, []) else ({ c with p := (bR c.aa c.p).1 }, sub c.s c.p (bR c.aa c.p).1)
def dj (c : Cu) : List UInt8 → Nat → Int
 | [], _ => 0
 | b :: s, i => if c.p + i ≥ c.e then 1 else if c.s.getD (c.p + i) 0 ≠ b then 3 else dj c s (i + 1)
def Cu.cF (c : Cu) (k : UInt8) : Cu × Tk := if dj c (spell k) 0 ≠ 0 then (c.fail (dj c (spell k) 0), .no) else ({ c with p := c.p + (spell k).length }, ⟨k, []⟩)
def Cu.fK (d : Cu) : Cu × Tk :=
 if d.p = d.e then (d, .no)
 else if cj d.get = true then ({ d with p := d.p + 1 }, ⟨d.get, []⟩)
 else if d.get.toNat = 34 then held d.ea 115
 else if d.get.toNat = 45 ∨ aN d.get = true then held d.fP 110
 else if d.get.toNat = 116 ∨ d.get.toNat = 102 then d.cF d.get
 else if d.get.toNat = 110 then d.cF 122
 else (d.fail 3, .no)
def Cu.aX (c : Cu) : Cu × Tk := if c.c ≠ 0 then (c, .no) else ({ c with p := cu cm c.aa c.p } : Cu).fK
def kZ (x y : Cu × Tk) : Prop := x.2 = y.2 ∧ x.1.c = y.1.c ∧ (y.1.c = 0 → x.1 = y.1)
theorem kZ.refl (x : Cu × Tk) : kZ x x := ⟨rfl, rfl, fun _ => rfl⟩
theorem CM {c : Cu} {i j : Nat} (h : j ≤ c.e) : sub c.aa i j = sub c.s i j := by unfold sub Cu.aa; rw [List.take_take, Nat.min_eq_left h]
theorem kH (t : List UInt8) (i : Nat) (h : i ≤ t.length) : i ≤ (bW t i).1 ∧ (bW t i).1 ≤ t.length := by
 have := k9 t i
 unfold bW; repeat' split
 all_goals (constructor <;> (try dsimp only) <;> omega)
theorem nh (t : List UInt8) (i a b : Nat) (h : i ≤ t.length) : i ≤ bo t i a b ∧ bo t i a b ≤ t.length := by
 unfold bo; split
 . rename_i q; have := (eM.1 q).1; omega
 . omega
theorem qx (t : List UInt8) (i : Nat) (h : i ≤ t.length) : i ≤ (bR t i).1 ∧ (bR t i).1 ≤ t.length := by
 have h1 := nh t i 45 45 h
 have w : i ≤ (aM t i).1 ∧ (aM t i).1 ≤ t.length := by
  unfold aM; split
  . rename_i q; have := (eM.1 q).1; dsimp only; omega
  . have := kH t _ h1.2; omega
 have b : i ≤ (bz t (aM t i)).1 ∧ (bz t (aM t i)).1 ≤ t.length := by
  generalize aM t i = x at *
  unfold bz; split
  . rename_i q; have := (eM.1 q.2).1; have := kH t (x.1 + 1) (by omega); omega
  . exact w
 unfold bR
 generalize bz t (aM t i) = x at *
 unfold gj; split
 . rename_i q; have := (eM.1 q.2).1; have := nh t (x.1 + 1) 43 45 (by omega); have := kH t _ this.2; omega
 . exact b
theorem JO {c : Cu} (hk : c.ok) : kZ (held c.num 110) (held c.fP 110) := by
 unfold Cu.fP
 by_cases h0 : c.c = 0
 . have h := BV hk h0
   rw [if_neg (by omega)]
   by_cases z : (bR c.aa c.p).2 = 0
   . obtain ⟨h1, h2, h3, h4, h5, h6, h7⟩ := h.ok z
     rw [if_neg (by omega)]
     have e1 : c.fD.1 = { c with p := (bR c.aa c.p).1 } := by
      generalize c.fD.1 = d at *
      obtain ⟨ds, dp, de, dc⟩ := d
      simp only at h1 h2 h3 h4
      rw [h1, h2, h3, h4, ← h0]
     have e2 : c.num = ({ c with p := (bR c.aa c.p).1 }, sub c.s c.p (bR c.aa c.p).1) := by
      unfold Cu.num; rw [if_pos h3, h7, CM h6, e1]
     rw [e2]; exact .refl _
   . have hb := h.bad z
     rw [if_pos z, fO _ h0]
     unfold held Cu.num
     rw [hb]
     simp only
     rw [if_neg z, if_neg z]
     exact ⟨rfl, hb, fun k => absurd k z⟩
 . rw [if_pos h0]
   have hp : c.fD = (c, []) := by
    have e : ∀ s, (c, ([] : List UInt8)).1.ff s = false := fun s => uz h0
    unfold Cu.fD
    have w : CO.whole (c, []) = (c, []) := by
     unfold CO.whole
     rw [mF (e _), e, if_neg (by decide), mF (e _)]
     unfold CO.aL Cu.aL
     have hb : c.ai = 0 := nz fun k => h0 k.1
     have hf : (if c.left > 0 then c.fail 3 else c) = c := by split; exact kt 3 h0; rfl
     show ((if aN c.ai = true then _ else _ : CO).1, [] ++ (if aN c.ai = true then _ else _ : CO).2) = _
     rw [hb, if_neg (by decide), hf, (nA h0).1]; rfl
    have b : CO.behind (c, []) = (c, []) := by
     unfold CO.behind; rw [e, if_neg (by decide), mF (e _)]
    have p : CO.m6 (c, []) = (c, []) := by
     unfold CO.m6; rw [e, if_neg (by decide), mF (e _)]
    rw [w, b, p]
   unfold held Cu.num
   rw [hp]
   simp only
   rw [if_neg h0, if_neg h0]
   exact ⟨rfl, rfl, fun _ => rfl⟩
theorem Dq {c : Cu} : ∀ (s : List UInt8) (i : Nat) (d : Cu), (∀ x ∈ s, x ≠ 0) → On c d i → d.p ≤ d.e →
   (dj c s i = 0 → (d.word s).2 = true ∧ On c (d.word s).1 (i + s.length)) ∧ (dj c s i ≠ 0 → (d.word s).2 = false ∧ (d.word s).1.c = dj c s i)
 | [], i, d, _, h, _ => by
   unfold dj Cu.word
   exact ⟨fun _ => ⟨rfl, h⟩, fun k => absurd rfl k⟩
 | b :: s, i, d, hz, h, hd => by
   unfold dj Cu.word
   have hp := h.p
   have he := h.e
   by_cases q : c.p + i ≥ c.e
   . obtain ⟨b1, b2⟩ := mA h.c0 (by omega)
     rw [if_pos q]
     refine ⟨fun k => absurd k (by decide), fun _ => ?_⟩
     by_cases hb : d.ai ≠ b
     . rw [if_pos hb, b1]
       refine ⟨rfl, ?_⟩
       rw [kt _ (by show (1 : Int) ≠ 0; decide)]
     . rw [if_neg hb]
       have bb : b = 0 := by rw [b2] at hb; exact (Decidable.not_not.1 hb).symm
       exact absurd bb (hz b (by simp))
   . obtain ⟨b1, b2⟩ := fz h.c0 (by omega)
     rw [h.aa, hp] at b2
     have hg : c.aa.getD (c.p + i) 0 = c.s.getD (c.p + i) 0 := by unfold Cu.aa; exact jL (by omega)
     rw [if_neg q, b2, hg]
     by_cases hb : c.s.getD (c.p + i) 0 ≠ b
     . rw [if_pos hb, if_pos hb]
       refine ⟨fun k => absurd k (by decide), fun _ => ⟨rfl, ?_⟩⟩
       rw [b1]
       show (Cu.fail { d with p := d.p + 1 } 3).c = 3
       rw [fO 3 (show ({ d with p := d.p + 1 } : Cu).c = 0 from h.c0)]
     . rw [if_neg hb, if_neg hb]
       have := Dq s (i + 1) d.byte (fun x hx => hz x (List.mem_cons_of_mem _ hx)) (by have := h.trans (On.byte h.c0 (by omega)); exact this) (by rw [b1]; show d.p + 1 ≤ d.e; omega)
       rw [show i + (b :: s).length = i + 1 + s.length by simp; omega]
       exact this
theorem LN (k : UInt8) : ∀ x ∈ spell k, x ≠ 0 := by
 unfold spell; repeat' split
 all_goals decide
theorem yi {c : Cu} (hk : c.ok) (h0 : c.c = 0) (k : UInt8) : kZ (c.pk k) (c.cF k) := by
 have h := Dq (spell k) 0 c (LN k) ⟨rfl, rfl, h0, rfl⟩ hk.1
 unfold Cu.pk Cu.cF
 by_cases z : dj c (spell k) 0 = 0
 . obtain ⟨h1, h2⟩ := h.1 z
   rw [if_pos h1, if_neg (by omega)]
   have e : (c.word (spell k)).1 = { c with p := c.p + (spell k).length } := by
    generalize (c.word (spell k)).1 = d at *
    obtain ⟨ds, dp, de, dc⟩ := d
    obtain ⟨a1, a2, a3, a4⟩ := h2
    simp only [Nat.zero_add] at a1 a2 a3 a4
    rw [a1, a2, a3, a4, ← h0]
   rw [e]; exact .refl _
 . obtain ⟨h1, h2⟩ := h.2 z
   rw [if_neg (by rw [h1]; decide), if_pos z, fO _ h0]
   exact ⟨rfl, h2, fun q => absurd q z⟩
theorem HE {x y : CO} {k : UInt8} (h1 : x.2 = y.2) (h2 : x.1.c = y.1.c) (h3 : y.1.c = 0 → x.1 = y.1) : kZ (held x k) (held y k) := by
 refine ⟨?_, h2, h3⟩
 show (if x.1.c = 0 then _ else _) = if y.1.c = 0 then _ else _
 rw [h1, h2]
theorem KF {c : Cu} (hk : c.ok) : kZ (held c.read 115) (held c.ea 115) := by
 obtain ⟨h1, h2, h3⟩ := KE hk
 exact HE h1 h2 h3
theorem M4 {d : Cu} (hk : d.ok) (h0 : d.c = 0) : kZ d.qW d.fK := by
 unfold Cu.qW Cu.fK
 by_cases q : d.p = d.e
 . rw [if_pos (fun h => by have := h.2; omega), if_pos q]; exact .refl _
 . have hp : d.p < d.e := by have := hk.1; omega
   have hh : d.has := ⟨h0, hp⟩
   have hv : d.ai = d.get := by unfold Cu.ai; rw [if_pos (show d.c = 0 ∧ d.p < d.e from hh)]
   rw [if_neg (fun h => h hh), if_neg q, hv, (fz h0 hp).1]
   by_cases a : cj d.get = true
   . rw [if_pos a, if_pos a]; exact .refl _
   rw [if_neg a, if_neg a]
   by_cases b : d.get.toNat = 34
   . rw [if_pos b, if_pos b]; exact KF hk
   rw [if_neg b, if_neg b]
   by_cases e : d.get.toNat = 45 ∨ aN d.get = true
   . rw [if_pos e, if_pos e]; exact JO hk
   rw [if_neg e, if_neg e]
   by_cases f : d.get.toNat = 116
   . rw [if_pos f, if_pos (.inl f), show d.get = 116 from UInt8.toNat_inj.1 f]; exact yi hk h0 116
   rw [if_neg f]
   by_cases g : d.get.toNat = 102
   . rw [if_pos g, if_pos (.inr g), show d.get = 102 from UInt8.toNat_inj.1 g]; exact yi hk h0 102
   rw [if_neg g, if_neg (show ¬ (d.get.toNat = 116 ∨ d.get.toNat = 102) by omega)]
   by_cases i : d.get.toNat = 110
   . rw [if_pos i, if_pos i]; exact yi hk h0 122
   rw [if_neg i, if_neg i]; exact .refl _
theorem yO {c : Cu} (hk : c.ok) : c.cy.ok := by
 unfold Cu.cy; split
 . have := qK cm c.aa c.p
   have := eB hk
   have := hk.1
   exact ⟨by show cu cm c.aa c.p ≤ c.e; omega, hk.2⟩
 . exact hk
theorem sD {c : Cu} (hk : c.ok) : kZ c.next c.aX := by
 unfold Cu.next Cu.aX
 have hb := yO hk
 by_cases h0 : c.c = 0
 . rw [if_neg (by omega)]
   have e : c.cy = { c with p := cu cm c.aa c.p } := by unfold Cu.cy; rw [if_pos h0]
   rw [e] at hb ⊢
   exact M4 hb h0
 . rw [if_pos h0]
   have e : c.cy = c := by unfold Cu.cy; rw [if_neg h0]
   rw [e]
   unfold Cu.qW
   rw [if_pos (fun h => h0 h.1)]; exact .refl _
end Go.Proofs.YtllncocibkgjkaaGreat
