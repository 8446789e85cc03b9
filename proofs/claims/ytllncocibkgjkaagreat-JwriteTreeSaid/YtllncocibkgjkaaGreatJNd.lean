/-
  A part of the proof.
-/
import Derived.Test.YtllncocibkgjkaaGreatJRe
set_option linter.unusedSimpArgs false
set_option linter.unusedVariables false
set_option maxHeartbeats 4000000
namespace Go.Proofs.YtllncocibkgjkaaGreat
open Go Go.VG
set_option maxRecDepth 100000
def c8 (b : UInt8) : Bool := decide (48 ≤ b.toNat ∧ b.toNat ≤ 57)
def cg (q : UInt8 → Bool) (t : List UInt8) (i : Nat) : Nat := i + ((t.drop i).takeWhile q).length
theorem vL {q : UInt8 → Bool} {t : List UInt8} {i : Nat} (hi : i < t.length) (h : q (t.getD i 0) = true) : cg q t i = cg q t (i + 1) := by
 unfold cg
 have e : t.drop i = t.getD i 0 :: t.drop (i + 1) := by
  rw [List.drop_eq_getElem_cons hi, List.getD_eq_getElem?_getD, List.getElem?_eq_getElem hi]; rfl
 rw [e, List.takeWhile_cons, if_pos h, List.length_cons]; omega
theorem oH {q : UInt8 → Bool} {t : List UInt8} {i : Nat} (h : t.length ≤ i ∨ q (t.getD i 0) = false) : cg q t i = i := by
 unfold cg
 rcases Nat.lt_or_ge i t.length with hi | hi
 . have e : t.drop i = t.getD i 0 :: t.drop (i + 1) := by
     rw [List.drop_eq_getElem_cons hi, List.getD_eq_getElem?_getD, List.getElem?_eq_getElem hi]; rfl
   have h : q (t.getD i 0) = false := by rcases h with h | h; omega; exact h
   rw [e, List.takeWhile_cons, if_neg (by rw [h]; decide)]; rfl
 . rw [List.drop_eq_nil_of_le hi]; rfl
theorem qp (q : UInt8 → Bool) (t : List UInt8) (i : Nat) : i ≤ cg q t i ∧ (cg q t i ≤ t.length ∨ cg q t i = i) := by
 unfold cg
 have h := (List.takeWhile_sublist (p := q) (l := t.drop i)).length_le
 rw [List.length_drop] at h
 omega
abbrev dX (t : List UInt8) (i : Nat) : Nat := cg c8 t i
theorem oG {t : List UInt8} {i : Nat} (hi : i < t.length) (h : c8 (t.getD i 0) = true) : dX t i = dX t (i + 1) := vL hi h
theorem lW {t : List UInt8} {i : Nat} (h : t.length ≤ i ∨ c8 (t.getD i 0) = false) : dX t i = i := oH h
theorem kc (t : List UInt8) (i : Nat) : i ≤ dX t i ∧ (dX t i ≤ t.length ∨ dX t i = i) := qp _ t i
def cY (t : List UInt8) (i : Nat) (a b : Nat) : Bool := decide (i < t.length) && decide ((t.getD i 0).toNat = a ∨ (t.getD i 0).toNat = b)
theorem j9 {t : List UInt8} {i a b : Nat} : cY t i a b = true ↔ i < t.length ∧ ((t.getD i 0).toNat = a ∨ (t.getD i 0).toNat = b) := by simp [cY]
theorem sd {t : List UInt8} {i a b : Nat} : cY t i a b = false ↔ ¬ (i < t.length ∧ ((t.getD i 0).toNat = a ∨ (t.getD i 0).toNat = b)) := by
 rw [← j9, Bool.not_eq_true]
def cw (t : List UInt8) (i : Nat) : Nat × Int := if dX t i > i then (dX t i, 0) else if i = t.length then (i, 1) else (i, 3)
def bX (t : List UInt8) (i a b : Nat) : Nat := if cY t i a b = true then i + 1 else i
def bm (t : List UInt8) (i : Nat) : Nat × Int := if cY t (bX t i 45 45) 48 48 = true then (bX t i 45 45 + 1, 0) else cw t (bX t i 45 45)
def cj (t : List UInt8) (x : Nat × Int) : Nat × Int := if x.2 = 0 ∧ cY t x.1 46 46 = true then cw t (x.1 + 1) else x
def ik (t : List UInt8) (x : Nat × Int) : Nat × Int := if x.2 = 0 ∧ cY t x.1 101 69 = true then cw t (bX t (x.1 + 1) 43 45) else x
def sub (t : List UInt8) (i j : Nat) : List UInt8 := (t.take j).drop i
def cy (t : List UInt8) (i : Nat) : Nat × Int := ik t (cj t (bm t i))
def Cu.has (c : Cu) : Prop := c.c = 0 ∧ c.p < c.e
instance (c : Cu) : Decidable c.has := by unfold Cu.has; infer_instance
def Cu.eS (c : Cu) (s : List UInt8) : Bool := decide (c.has ∧ c.ah ∈ s)
def Cu.iT (c : Cu) (s : List UInt8) : Cu := if c.eS s = true then c.byte else c
def Cu.jL (c : Cu) (s : List UInt8) : List UInt8 := if c.eS s = true then [c.ah] else []
def dC : Nat → Cu → List UInt8 → Cu × List UInt8
 | 0, c, o => (c.byte, o ++ [c.ah])
 | n + 1, c, o => if c8 c.byte.ah = true then dC n c.byte (o ++ [c.ah]) else (c.byte, o ++ [c.ah])
termination_by n => n
def Cu.c6 (c : Cu) : Cu × List UInt8 := if c8 c.ah = true then dC (c.e - c.p) c [] else ((if c.left > 0 then c.fail 3 else c).byte, [])
abbrev CO := Cu × List UInt8
def CO.dk (x : CO) (s : List UInt8) : CO := (x.1.iT s, x.2 ++ x.1.jL s)
def CO.c6 (x : CO) : CO := (x.1.c6.1, x.2 ++ x.1.c6.2)
def CO.whole (x : CO) : CO := if (x.dk [45]).1.eS [48] = true then (x.dk [45]).dk [48] else ((x.dk [45]).dk [48]).c6
def CO.behind (x : CO) : CO := if x.1.eS [46] = true then (x.dk [46]).c6 else x.dk [46]
def CO.mW (x : CO) : CO := if x.1.eS [101, 69] = true then ((x.dk [101, 69]).dk [43, 45]).c6 else x.dk [101, 69]
def Cu.ij (c : Cu) : CO := CO.mW (CO.behind (CO.whole (c, [])))
structure Nx (c : Cu) (x : CO) (r : Nat × Int) : Prop where
 ok : r.2 = 0 → x.1.s = c.s ∧ x.1.e = c.e ∧ x.1.c = 0 ∧ x.1.p = r.1 ∧ c.p ≤ r.1 ∧ r.1 ≤ c.e ∧ x.2 = sub c.a9 c.p r.1
 bad : r.2 ≠ 0 → x.1.c = r.2
theorem sub_self (t : List UInt8) (i : Nat) : sub t i i = [] := by unfold sub; rw [List.drop_eq_nil_iff, List.length_take]; omega
theorem Cq {t : List UInt8} {i j : Nat} (h : i ≤ j) (hj : j < t.length) : sub t i (j + 1) = sub t i j ++ [t.getD j 0] := by
 unfold sub
 rw [tv hj, List.drop_append_of_le_length (by rw [List.length_take]; omega)]
theorem qD {c d : Cu} (h1 : d.s = c.s) (h2 : d.e = c.e) : d.a9 = c.a9 := by unfold Cu.a9; rw [h1, h2]
theorem nn {d : Cu} (h : ¬ d.has) : d.ah = 0 := by unfold Cu.ah; rw [if_neg (show ¬ (d.c = 0 ∧ d.p < d.e) from h)]
theorem jq {d : Cu} {s : List UInt8} : d.eS s = true ↔ d.has ∧ d.ah ∈ s := by unfold Cu.eS; rw [decide_eq_true_eq]
theorem mr {x : CO} {s : List UInt8} (h : x.1.eS s = false) : x.dk s = x := by
 unfold CO.dk Cu.iT Cu.jL; rw [h]; simp
theorem um {x : CO} {s : List UInt8} (h : x.1.c ≠ 0) : x.1.eS s = false := by
 cases e : x.1.eS s with
 | false => rfl
 | true => exact absurd (jq.1 e).1.1 h
theorem yP {c : Cu} (hk : c.ok) {x : CO} {i : Nat} {s : List UInt8} (h : Nx c x (i, 0)) (he : x.1.eS s = true) : i < c.a9.length ∧ c.a9.getD i 0 ∈ s ∧ Nx c (x.dk s) (i + 1, 0) := by
 obtain ⟨h1, h2, h3, h4, h5, h6, h7⟩ := h.ok rfl
 simp only at h4 h5 h6 h7
 obtain ⟨k1, k2⟩ := jq.1 he
 have hp : x.1.p < x.1.e := k1.2
 have hl := eA hk
 obtain ⟨b1, b2⟩ := fi h3 hp
 rw [qD h1 h2, h4] at b2
 refine ⟨by omega, by rw [← b2]; exact k2, ⟨fun _ => ?_, fun k => absurd rfl k⟩⟩
 unfold CO.dk Cu.iT Cu.jL
 rw [if_pos he, if_pos he, b1]
 refine ⟨h1, h2, h3, by show x.1.p + 1 = i + 1; omega, by show c.p ≤ i + 1; omega, by show i + 1 ≤ c.e; omega, ?_⟩
 show x.2 ++ [x.1.ah] = sub c.a9 c.p (i + 1)
 rw [Cq h5 (by omega), h7, b2]
theorem rk {c : Cu} (hk : c.ok) {x : CO} {i : Nat} {a b : UInt8} {s : List UInt8} (hs : ∀ y, y ∈ s ↔ y = a ∨ y = b) (h : Nx c x (i, 0)) : x.1.eS s = cY c.a9 i a.toNat b.toNat := by
 obtain ⟨h1, h2, h3, h4, h5, h6, h7⟩ := h.ok rfl
 simp only at h4 h5 h6
 have hl := eA hk
 cases e : x.1.eS s with
 | true =>
   obtain ⟨q1, q2, _⟩ := yP hk h e
   exact (j9.2 ⟨q1, ((hs _).1 q2).imp (fun e => by rw [e]) (fun e => by rw [e])⟩).symm
 | false =>
   refine (sd.2 fun ⟨q1, q2⟩ => ?_).symm
   have hp : x.1.p < x.1.e := by omega
   obtain ⟨_, b2⟩ := fi h3 hp
   rw [qD h1 h2, h4] at b2
   have : x.1.eS s = true := jq.2 ⟨⟨h3, hp⟩, (hs _).2 (by rw [b2]; exact q2.imp (fun e => UInt8.toNat_inj.1 e) (fun e => UInt8.toNat_inj.1 e))⟩
   rw [this] at e; cases e
theorem ue {c : Cu} (hk : c.ok) : ∀ (n : Nat) (x : CO) (i : Nat), Nx c x (i, 0) → i < c.e → c8 (c.a9.getD i 0) = true → c.e - i ≤ n + 1 → Nx c (dC n x.1 x.2) (dX c.a9 i, 0)
 | n, x, i, h, hi, hd, hn => by
   obtain ⟨h1, h2, h3, h4, h5, h6, h7⟩ := h.ok rfl
   simp only at h4 h5 h6 h7
   have hl := eA hk
   obtain ⟨b1, b2⟩ := fi h3 (by omega)
   rw [qD h1 h2, h4] at b2
   have hx : Nx c (x.1.byte, x.2 ++ [x.1.ah]) (i + 1, 0) := ⟨fun _ => by
    rw [b1]
    refine ⟨h1, h2, h3, by show x.1.p + 1 = i + 1; omega, by show c.p ≤ i + 1; omega, by show i + 1 ≤ c.e; omega, ?_⟩
    show x.2 ++ [x.1.ah] = sub c.a9 c.p (i + 1)
    rw [Cq h5 (by omega), h7, b2], fun k => absurd rfl k⟩
   rw [oG (by omega) hd]
   have hb : x.1.byte.ah = if i + 1 < c.e then c.a9.getD (i + 1) 0 else 0 := by
    rw [b1]
    split
    . rename_i q
      have := (fi (c := { x.1 with p := x.1.p + 1 }) h3 (by show x.1.p + 1 < x.1.e; omega)).2
      rw [this]
      show (Cu.a9 { x.1 with p := x.1.p + 1 }).getD (x.1.p + 1) 0 = _
      rw [h4]
      exact congrArg (fun l : List UInt8 => l.getD (i + 1) 0) (qD (d := { x.1 with p := i + 1 }) h1 h2)
    . exact nn fun q => by have : x.1.p + 1 < x.1.e := q.2; omega
   have stop : (c.e ≤ i + 1 ∨ c8 (c.a9.getD (i + 1) 0) = false) → Nx c (x.1.byte, x.2 ++ [x.1.ah]) (dX c.a9 (i + 1), 0) := fun q => by
    rw [lW (by rcases q with q | q; exact .inl (by omega); exact .inr q)]; exact hx
   match n with
   | 0 => rw [dC]; exact stop (.inl (by omega))
   | n + 1 =>
     rw [dC]
     by_cases q : i + 1 < c.e
     . rw [if_pos q] at hb
       rw [hb]
       by_cases r : c8 (c.a9.getD (i + 1) 0) = true
       . rw [if_pos r]; exact ue hk n _ (i + 1) hx q r (by omega)
       . rw [if_neg r]; exact stop (.inr (by simpa using r))
     . rw [if_neg q] at hb
       rw [hb, if_neg (by decide)]; exact stop (.inl (by omega))
theorem uf {c : Cu} (hk : c.ok) {x : CO} {i : Nat} (h : Nx c x (i, 0)) : Nx c x.c6 (cw c.a9 i) := by
 obtain ⟨h1, h2, h3, h4, h5, h6, h7⟩ := h.ok rfl
 simp only at h4 h5 h6 h7
 have hl := eA hk
 have hp := kc c.a9 i
 unfold CO.c6 Cu.c6 cw
 by_cases q : i < c.e
 . obtain ⟨b1, b2⟩ := fi h3 (by omega)
   rw [qD h1 h2, h4] at b2
   rw [b2]
   by_cases r : c8 (c.a9.getD i 0) = true
   . have e := oG (by omega) r
     have := (kc c.a9 (i + 1)).1
     rw [if_pos r, if_pos (by omega)]
     have g := ue hk (x.1.e - x.1.p) (x.1, []) i
     have g2 := ue hk (x.1.e - x.1.p) x i h q r (by omega)
     have ap : ∀ (n : Nat) (d : Cu) (o o' : List UInt8), (dC n d (o ++ o')).1 = (dC n d o').1 ∧ (dC n d (o ++ o')).2 = o ++ (dC n d o').2 := by
      intro n
      induction n with
      | zero => intro d o o'; rw [dC, dC]; simp
      | succ n ih =>
        intro d o o'
        rw [dC, dC]
        split
        . rw [List.append_assoc]; exact ih _ _ _
        . simp
     obtain ⟨a1, a2⟩ := ap (x.1.e - x.1.p) x.1 x.2 []
     rw [List.append_nil] at a1 a2
     have e3 : (dC (x.1.e - x.1.p) x.1 x.2) = ((dC (x.1.e - x.1.p) x.1 []).1, x.2 ++ (dC (x.1.e - x.1.p) x.1 []).2) := Prod.ext a1 a2
     rw [e3] at g2
     exact g2
   . have e := lW (t := c.a9) (i := i) (.inr (by simpa using r))
     have hleft : x.1.left > 0 := by show (x.1.e : Int) - x.1.p > 0; omega
     rw [if_neg r, if_pos hleft, if_neg (show ¬ dX c.a9 i > i by omega), if_neg (show ¬ i = c.a9.length by omega)]
     refine ⟨fun k => absurd (show (3 : Int) = 0 from k) (by decide), fun _ => ?_⟩
     have hf : (x.1.fail 3).c = 3 := by rw [fK _ h3]
     show (x.1.fail 3).byte.c = 3
     rw [(np (by omega)).1]; exact hf
 . have e := lW (t := c.a9) (i := i) (.inl (by omega))
   have hb : x.1.ah = 0 := nn fun k => by have := k.2; omega
   have hleft : ¬ x.1.left > 0 := by show ¬ (x.1.e : Int) - x.1.p > 0; omega
   rw [hb, if_neg (show ¬ c8 0 = true by decide), if_neg hleft, if_neg (show ¬ dX c.a9 i > i by omega), if_pos (show i = c.a9.length by omega)]
   refine ⟨fun k => absurd (show (1 : Int) = 0 from k) (by decide), fun _ => ?_⟩
   show x.1.byte.c = 1
   rw [(ml h3 (by omega)).1]
theorem yc {c : Cu} {x : CO} {r : Nat × Int} (h : Nx c x r) (k : r.2 ≠ 0) : x.1.c ≠ 0 := by rw [h.bad k]; exact k
theorem pw {c : Cu} (hk : c.ok) {x : CO} {i : Nat} {a b : UInt8} {s : List UInt8} (hs : ∀ y, y ∈ s ↔ y = a ∨ y = b) (h : Nx c x (i, 0)) : Nx c (x.dk s) (bX c.a9 i a.toNat b.toNat, 0) := by
 have e := rk hk hs h
 unfold bX
 rw [← e]
 split
 . rename_i q; exact (yP hk h q).2.2
 . rename_i q; rw [mr (by simpa using q)]; exact h
theorem qb (a y : UInt8) : y ∈ [a] ↔ y = a ∨ y = a := by simp
theorem vb (a b y : UInt8) : y ∈ [a, b] ↔ y = a ∨ y = b := by simp
theorem JJ {c : Cu} (hk : c.ok) (h0 : c.c = 0) : Nx c c.ij (cy c.a9 c.p) := by
 have hl := eA hk
 have s0 : Nx c (c, []) (c.p, 0) := ⟨fun _ => ⟨rfl, rfl, h0, rfl, Nat.le_refl _, hk.1, (sub_self _ _).symm⟩, fun k => absurd rfl k⟩
 have s1 := pw hk (qb 45) s0
 have w : Nx c (CO.whole (c, [])) (bm c.a9 c.p) := by
  unfold CO.whole bm
  have e := rk hk (qb 48) s1
  have s2 := pw hk (qb 48) s1
  unfold bX at s2
  rw [e]
  by_cases q : cY c.a9 (bX c.a9 c.p 45 45) 48 48 = true
  . rw [if_pos (by exact q), if_pos q]
    rw [if_pos (by exact q)] at s2; exact s2
  . rw [if_neg (by exact q), if_neg q]
    rw [if_neg (by exact q)] at s2; exact uf hk s2
 have b : Nx c (CO.behind (CO.whole (c, []))) (cj c.a9 (bm c.a9 c.p)) := by
  generalize CO.whole (c, []) = x at *
  generalize bm c.a9 c.p = r at *
  obtain ⟨i, k⟩ := r
  unfold CO.behind cj
  by_cases z : k = 0
  . subst z
    have e := rk hk (qb 46) w
    have s2 := pw hk (qb 46) w
    unfold bX at s2
    rw [e]
    by_cases q : cY c.a9 i 46 46 = true
    . rw [if_pos (by exact q), if_pos ⟨rfl, q⟩]
      rw [if_pos (by exact q)] at s2; exact uf hk s2
    . rw [if_neg (by exact q), if_neg (fun t => q t.2)]
      rw [if_neg (by exact q)] at s2; exact s2
  . have e := um (s := [46]) (yc w z)
    rw [e, if_neg (by decide), if_neg (fun t => z t.1), mr e]; exact w
 unfold Cu.ij cy
 generalize CO.behind (CO.whole (c, [])) = x at *
 generalize cj c.a9 (bm c.a9 c.p) = r at *
 obtain ⟨i, k⟩ := r
 unfold CO.mW ik
 by_cases z : k = 0
 . subst z
   have e := rk hk (vb 101 69) b
   have s2 := pw hk (vb 101 69) b
   rw [e]
   by_cases q : cY c.a9 i 101 69 = true
   . rw [if_pos (by exact q), if_pos ⟨rfl, q⟩]
     unfold bX at s2
     rw [if_pos (by exact q)] at s2
     exact uf hk (pw hk (vb 43 45) s2)
   . rw [if_neg (by exact q), if_neg (fun t => q t.2)]
     unfold bX at s2
     rw [if_neg (by exact q)] at s2; exact s2
 . have e := um (s := [101, 69]) (yc b z)
   rw [e, if_neg (by decide), if_neg (fun t => z t.1), mr e]; exact b
def bQ (b : UInt8) : Bool := decide (b.toNat = 32 ∨ b.toNat = 9 ∨ b.toNat = 10 ∨ b.toNat = 13)
def bJ (b : UInt8) : Bool := decide (b.toNat = 123 ∨ b.toNat = 125 ∨ b.toNat = 91 ∨ b.toNat = 93 ∨ b.toNat = 58 ∨ b.toNat = 44)
structure Tk where
 k : UInt8
 t : List UInt8
instance : Inhabited Tk := ⟨⟨0, []⟩⟩
abbrev Tk.no : Tk := ⟨0, []⟩
def spell (k : UInt8) : List UInt8 := if k.toNat = 116 then [116, 114, 117, 101] else if k.toNat = 102 then [102, 97, 108, 115, 101] else if k.toNat = 122 then [110, 117, 108, 108] else []
def Cu.cm (c : Cu) : Cu := if c.c = 0 then { c with p := cg bQ c.a9 c.p } else c
def Cu.word : List UInt8 → Cu → Cu × Bool
 | [], c => (c, true)
 | b :: s, c => if c.ah ≠ b then (c.byte.fail 3, false) else Cu.word s c.byte
def Cu.num (c : Cu) : CO := (c.ij.1, if c.ij.1.c = 0 then c.ij.2 else [])
def held (x : CO) (k : UInt8) : Cu × Tk := (x.1, if x.1.c = 0 then ⟨k, x.2⟩ else .no)
def Cu.oY (c : Cu) (k : UInt8) : Cu × Tk := ((c.word (spell k)).1, if (c.word (spell k)).2 = true then ⟨k, []⟩ else .no)
def Cu.qC (d : Cu) : Cu × Tk :=
 if ¬ d.has then (d, .no)
 else if bJ d.ah = true then (d.byte, ⟨d.ah, []⟩)
 else if d.ah.toNat = 34 then held d.read 115
 else if d.ah.toNat = 45 ∨ c8 d.ah = true then held d.num 110
 else if d.ah.toNat = 116 then d.oY 116
 else if d.ah.toNat = 102 then d.oY 102
 else if d.ah.toNat = 110 then d.oY 122
 else (d.fail 3, .no)
def Cu.next (c : Cu) : Cu × Tk := c.cm.qC
def Cu.fj (c : Cu) : CO :=
 if c.c ≠ 0 then (c, []) else if (cy c.a9 c.p).2 ≠ 0 then (c.fail (cy c.a9 c.p).2, []) else ({ c with p := (cy c.a9 c.p).1 }, sub c.s c.p (cy c.a9 c.p).1)
def cS (c : Cu) : List UInt8 → Nat → Int
 | [], _ => 0
 | b :: s, i => if c.p + i ≥ c.e then 1 else if c.s.getD (c.p + i) 0 ≠ b then 3 else cS c s (i + 1)
def Cu.cr (c : Cu) (k : UInt8) : Cu × Tk := if cS c (spell k) 0 ≠ 0 then (c.fail (cS c (spell k) 0), .no) else ({ c with p := c.p + (spell k).length }, ⟨k, []⟩)
def Cu.ez (d : Cu) : Cu × Tk :=
 if d.p = d.e then (d, .no)
 else if bJ d.get = true then ({ d with p := d.p + 1 }, ⟨d.get, []⟩)
 else if d.get.toNat = 34 then held d.dt 115
 else if d.get.toNat = 45 ∨ c8 d.get = true then held d.fj 110
 else if d.get.toNat = 116 ∨ d.get.toNat = 102 then d.cr d.get
 else if d.get.toNat = 110 then d.cr 122
 else (d.fail 3, .no)
def Cu.aN (c : Cu) : Cu × Tk := if c.c ≠ 0 then (c, .no) else ({ c with p := cg bQ c.a9 c.p } : Cu).ez
def l0 (x y : Cu × Tk) : Prop := x.2 = y.2 ∧ x.1.c = y.1.c ∧ (y.1.c = 0 → x.1 = y.1)
theorem l0.refl (x : Cu × Tk) : l0 x x := ⟨rfl, rfl, fun _ => rfl⟩
theorem Cr {c : Cu} {i j : Nat} (h : j ≤ c.e) : sub c.a9 i j = sub c.s i j := by unfold sub Cu.a9; rw [List.take_take, Nat.min_eq_left h]
theorem mT (t : List UInt8) (i : Nat) (h : i ≤ t.length) : i ≤ (cw t i).1 ∧ (cw t i).1 ≤ t.length := by
 have := kc t i
 unfold cw; repeat' split
 all_goals (constructor <;> (try dsimp only) <;> omega)
theorem qv (t : List UInt8) (i a b : Nat) (h : i ≤ t.length) : i ≤ bX t i a b ∧ bX t i a b ≤ t.length := by
 unfold bX; split
 . rename_i q; have := (j9.1 q).1; omega
 . omega
theorem sa (t : List UInt8) (i : Nat) (h : i ≤ t.length) : i ≤ (cy t i).1 ∧ (cy t i).1 ≤ t.length := by
 have h1 := qv t i 45 45 h
 have w : i ≤ (bm t i).1 ∧ (bm t i).1 ≤ t.length := by
  unfold bm; split
  . rename_i q; have := (j9.1 q).1; dsimp only; omega
  . have := mT t _ h1.2; omega
 have b : i ≤ (cj t (bm t i)).1 ∧ (cj t (bm t i)).1 ≤ t.length := by
  generalize bm t i = x at *
  unfold cj; split
  . rename_i q; have := (j9.1 q.2).1; have := mT t (x.1 + 1) (by omega); omega
  . exact w
 unfold cy
 generalize cj t (bm t i) = x at *
 unfold ik; split
 . rename_i q; have := (j9.1 q.2).1; have := qv t (x.1 + 1) 43 45 (by omega); have := mT t _ this.2; omega
 . exact b
theorem Jd {c : Cu} (hk : c.ok) : l0 (held c.num 110) (held c.fj 110) := by
 unfold Cu.fj
 by_cases h0 : c.c = 0
 . have h := JJ hk h0
   rw [if_neg (by omega)]
   by_cases z : (cy c.a9 c.p).2 = 0
   . obtain ⟨h1, h2, h3, h4, h5, h6, h7⟩ := h.ok z
     rw [if_neg (by omega)]
     have e1 : c.ij.1 = { c with p := (cy c.a9 c.p).1 } := by
      generalize c.ij.1 = d at *
      obtain ⟨ds, dp, de, dc⟩ := d
      simp only at h1 h2 h3 h4
      rw [h1, h2, h3, h4, ← h0]
     have e2 : c.num = ({ c with p := (cy c.a9 c.p).1 }, sub c.s c.p (cy c.a9 c.p).1) := by
      unfold Cu.num; rw [if_pos h3, h7, Cr h6, e1]
     rw [e2]; exact .refl _
   . have hb := h.bad z
     rw [if_pos z, fK _ h0]
     unfold held Cu.num
     rw [hb]
     simp only
     rw [if_neg z, if_neg z]
     exact ⟨rfl, hb, fun k => absurd k z⟩
 . rw [if_pos h0]
   have hp : c.ij = (c, []) := by
    have e : ∀ s, (c, ([] : List UInt8)).1.eS s = false := fun s => um h0
    unfold Cu.ij
    have w : CO.whole (c, []) = (c, []) := by
     unfold CO.whole
     rw [mr (e _), e, if_neg (by decide), mr (e _)]
     unfold CO.c6 Cu.c6
     have hb : c.ah = 0 := nn fun k => h0 k.1
     have hf : (if c.left > 0 then c.fail 3 else c) = c := by split; exact kC 3 h0; rfl
     show ((if c8 c.ah = true then _ else _ : CO).1, [] ++ (if c8 c.ah = true then _ else _ : CO).2) = _
     rw [hb, if_neg (by decide), hf, (np h0).1]; rfl
    have b : CO.behind (c, []) = (c, []) := by
     unfold CO.behind; rw [e, if_neg (by decide), mr (e _)]
    have p : CO.mW (c, []) = (c, []) := by
     unfold CO.mW; rw [e, if_neg (by decide), mr (e _)]
    rw [w, b, p]
   unfold held Cu.num
   rw [hp]
   simp only
   rw [if_neg h0, if_neg h0]
   exact ⟨rfl, rfl, fun _ => rfl⟩
theorem D3 {c : Cu} : ∀ (s : List UInt8) (i : Nat) (d : Cu), (∀ x ∈ s, x ≠ 0) → On c d i → d.p ≤ d.e →
   (cS c s i = 0 → (d.word s).2 = true ∧ On c (d.word s).1 (i + s.length)) ∧ (cS c s i ≠ 0 → (d.word s).2 = false ∧ (d.word s).1.c = cS c s i)
 | [], i, d, _, h, _ => by
   unfold cS Cu.word
   exact ⟨fun _ => ⟨rfl, h⟩, fun k => absurd rfl k⟩
 | b :: s, i, d, hz, h, hd => by
   unfold cS Cu.word
   have hp := h.p
   have he := h.e
   by_cases q : c.p + i ≥ c.e
   . obtain ⟨b1, b2⟩ := ml h.c0 (by omega)
     rw [if_pos q]
     refine ⟨fun k => absurd k (by decide), fun _ => ?_⟩
     by_cases hb : d.ah ≠ b
     . rw [if_pos hb, b1]
       refine ⟨rfl, ?_⟩
       rw [kC _ (by show (1 : Int) ≠ 0; decide)]
     . rw [if_neg hb]
       have bb : b = 0 := by rw [b2] at hb; exact (Decidable.not_not.1 hb).symm
       exact absurd bb (hz b (by simp))
   . obtain ⟨b1, b2⟩ := fi h.c0 (by omega)
     rw [h.a9, hp] at b2
     have hg : c.a9.getD (c.p + i) 0 = c.s.getD (c.p + i) 0 := by unfold Cu.a9; exact jS (by omega)
     rw [if_neg q, b2, hg]
     by_cases hb : c.s.getD (c.p + i) 0 ≠ b
     . rw [if_pos hb, if_pos hb]
       refine ⟨fun k => absurd k (by decide), fun _ => ⟨rfl, ?_⟩⟩
       rw [b1]
       show (Cu.fail { d with p := d.p + 1 } 3).c = 3
       rw [fK 3 (show ({ d with p := d.p + 1 } : Cu).c = 0 from h.c0)]
     . rw [if_neg hb, if_neg hb]
       have := D3 s (i + 1) d.byte (fun x hx => hz x (List.mem_cons_of_mem _ hx)) (by have := h.trans (On.byte h.c0 (by omega)); exact this) (by rw [b1]; show d.p + 1 ≤ d.e; omega)
       rw [show i + (b :: s).length = i + 1 + s.length by simp; omega]
       exact this
theorem Lg (k : UInt8) : ∀ x ∈ spell k, x ≠ 0 := by
 unfold spell; repeat' split
 all_goals decide
theorem xF {c : Cu} (hk : c.ok) (h0 : c.c = 0) (k : UInt8) : l0 (c.oY k) (c.cr k) := by
 have h := D3 (spell k) 0 c (Lg k) ⟨rfl, rfl, h0, rfl⟩ hk.1
 unfold Cu.oY Cu.cr
 by_cases z : cS c (spell k) 0 = 0
 . obtain ⟨h1, h2⟩ := h.1 z
   rw [if_pos h1, if_neg (by omega)]
   have e : (c.word (spell k)).1 = { c with p := c.p + (spell k).length } := by
    generalize (c.word (spell k)).1 = d at *
    obtain ⟨ds, dp, de, dc⟩ := d
    obtain ⟨a1, a2, a3, a4⟩ := h2
    simp only [Nat.zero_add] at a1 a2 a3 a4
    rw [a1, a2, a3, a4, ← h0]
   rw [e]; exact .refl _
 . obtain ⟨h1, h2⟩ := h.2 z
   rw [if_neg (by rw [h1]; decide), if_pos z, fK _ h0]
   exact ⟨rfl, h2, fun q => absurd q z⟩
theorem H9 {x y : CO} {k : UInt8} (h1 : x.2 = y.2) (h2 : x.1.c = y.1.c) (h3 : y.1.c = 0 → x.1 = y.1) : l0 (held x k) (held y k) := by
 refine ⟨?_, h2, h3⟩
 show (if x.1.c = 0 then _ else _) = if y.1.c = 0 then _ else _
 rw [h1, h2]
theorem Ka {c : Cu} (hk : c.ok) : l0 (held c.read 115) (held c.dt 115) := by
 obtain ⟨h1, h2, h3⟩ := K9 hk
 exact H9 h1 h2 h3
theorem Ly {d : Cu} (hk : d.ok) (h0 : d.c = 0) : l0 d.qC d.ez := by
 unfold Cu.qC Cu.ez
 by_cases q : d.p = d.e
 . rw [if_pos (fun h => by have := h.2; omega), if_pos q]; exact .refl _
 . have hp : d.p < d.e := by have := hk.1; omega
   have hh : d.has := ⟨h0, hp⟩
   have hv : d.ah = d.get := by unfold Cu.ah; rw [if_pos (show d.c = 0 ∧ d.p < d.e from hh)]
   rw [if_neg (fun h => h hh), if_neg q, hv, (fi h0 hp).1]
   by_cases a : bJ d.get = true
   . rw [if_pos a, if_pos a]; exact .refl _
   rw [if_neg a, if_neg a]
   by_cases b : d.get.toNat = 34
   . rw [if_pos b, if_pos b]; exact Ka hk
   rw [if_neg b, if_neg b]
   by_cases e : d.get.toNat = 45 ∨ c8 d.get = true
   . rw [if_pos e, if_pos e]; exact Jd hk
   rw [if_neg e, if_neg e]
   by_cases f : d.get.toNat = 116
   . rw [if_pos f, if_pos (.inl f), show d.get = 116 from UInt8.toNat_inj.1 f]; exact xF hk h0 116
   rw [if_neg f]
   by_cases g : d.get.toNat = 102
   . rw [if_pos g, if_pos (.inr g), show d.get = 102 from UInt8.toNat_inj.1 g]; exact xF hk h0 102
   rw [if_neg g, if_neg (show ¬ (d.get.toNat = 116 ∨ d.get.toNat = 102) by omega)]
   by_cases i : d.get.toNat = 110
   . rw [if_pos i, if_pos i]; exact xF hk h0 122
   rw [if_neg i, if_neg i]; exact .refl _
theorem yf {c : Cu} (hk : c.ok) : c.cm.ok := by
 unfold Cu.cm; split
 . have := qp bQ c.a9 c.p
   have := eA hk
   have := hk.1
   exact ⟨by show cg bQ c.a9 c.p ≤ c.e; omega, hk.2⟩
 . exact hk
theorem ou {c : Cu} (hk : c.ok) : l0 c.next c.aN := by
 unfold Cu.next Cu.aN
 have hb := yf hk
 by_cases h0 : c.c = 0
 . rw [if_neg (by omega)]
   have e : c.cm = { c with p := cg bQ c.a9 c.p } := by unfold Cu.cm; rw [if_pos h0]
   rw [e] at hb ⊢
   exact Ly hb h0
 . rw [if_pos h0]
   have e : c.cm = c := by unfold Cu.cm; rw [if_neg h0]
   rw [e]
   unfold Cu.qC
   rw [if_pos (fun h => h0 h.1)]; exact .refl _
end Go.Proofs.YtllncocibkgjkaaGreat
