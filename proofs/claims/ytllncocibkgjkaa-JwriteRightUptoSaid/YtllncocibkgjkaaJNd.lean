/-
  A part of the proof.
-/
import Derived.Test.YtllncocibkgjkaaJRe
set_option linter.unusedSimpArgs false
set_option linter.unusedVariables false
set_option maxHeartbeats 4000000
namespace Go.Proofs.Ytllncocibkgjkaa
open Go Go.VG
set_option maxRecDepth 100000
def bM (b : UInt8) : Bool := decide (48 ≤ b.toNat ∧ b.toNat ≤ 57)
def dr (q : UInt8 → Bool) (t : List UInt8) (i : Nat) : Nat := i + ((t.drop i).takeWhile q).length
theorem A4 {q : UInt8 → Bool} {t : List UInt8} {i : Nat} (hi : i < t.length) (h : q (t.getD i 0) = true) : dr q t i = dr q t (i + 1) := by
 unfold dr
 have e : t.drop i = t.getD i 0 :: t.drop (i + 1) := by
  rw [List.drop_eq_getElem_cons hi, List.getD_eq_getElem?_getD, List.getElem?_eq_getElem hi]; rfl
 rw [e, List.takeWhile_cons, if_pos h, List.length_cons]; omega
theorem nD {q : UInt8 → Bool} {t : List UInt8} {i : Nat} (h : t.length ≤ i ∨ q (t.getD i 0) = false) : dr q t i = i := by
 unfold dr
 rcases Nat.lt_or_ge i t.length with hi | hi
 . have e : t.drop i = t.getD i 0 :: t.drop (i + 1) := by
     rw [List.drop_eq_getElem_cons hi, List.getD_eq_getElem?_getD, List.getElem?_eq_getElem hi]; rfl
   have h : q (t.getD i 0) = false := by rcases h with h | h; omega; exact h
   rw [e, List.takeWhile_cons, if_neg (by rw [h]; decide)]; rfl
 . rw [List.drop_eq_nil_of_le hi]; rfl
theorem uo (q : UInt8 → Bool) (t : List UInt8) (i : Nat) : i ≤ dr q t i ∧ (dr q t i ≤ t.length ∨ dr q t i = i) := by
 unfold dr
 have h := (List.takeWhile_sublist (p := q) (l := t.drop i)).length_le
 rw [List.length_drop] at h
 omega
abbrev ea (t : List UInt8) (i : Nat) : Nat := dr bM t i
theorem nC {t : List UInt8} {i : Nat} (hi : i < t.length) (h : bM (t.getD i 0) = true) : ea t i = ea t (i + 1) := A4 hi h
theorem m8 {t : List UInt8} {i : Nat} (h : t.length ≤ i ∨ bM (t.getD i 0) = false) : ea t i = i := nD h
theorem kU (t : List UInt8) (i : Nat) : i ≤ ea t i ∧ (ea t i ≤ t.length ∨ ea t i = i) := uo _ t i
def eu (t : List UInt8) (i : Nat) (a b : Nat) : Bool := decide (i < t.length) && decide ((t.getD i 0).toNat = a ∨ (t.getD i 0).toNat = b)
theorem gW {t : List UInt8} {i a b : Nat} : eu t i a b = true ↔ i < t.length ∧ ((t.getD i 0).toNat = a ∨ (t.getD i 0).toNat = b) := by simp [eu]
theorem tY {t : List UInt8} {i a b : Nat} : eu t i a b = false ↔ ¬ (i < t.length ∧ ((t.getD i 0).toNat = a ∨ (t.getD i 0).toNat = b)) := by
 rw [← gW, Bool.not_eq_true]
def cH (t : List UInt8) (i : Nat) : Nat × Int := if ea t i > i then (ea t i, 0) else if i = t.length then (i, 1) else (i, 3)
def bJ (t : List UInt8) (i a b : Nat) : Nat := if eu t i a b = true then i + 1 else i
def bd (t : List UInt8) (i : Nat) : Nat × Int := if eu t (bJ t i 45 45) 48 48 = true then (bJ t i 45 45 + 1, 0) else cH t (bJ t i 45 45)
def bZ (t : List UInt8) (x : Nat × Int) : Nat × Int := if x.2 = 0 ∧ eu t x.1 46 46 = true then cH t (x.1 + 1) else x
def gG (t : List UInt8) (x : Nat × Int) : Nat × Int := if x.2 = 0 ∧ eu t x.1 101 69 = true then cH t (bJ t (x.1 + 1) 43 45) else x
def sub (t : List UInt8) (i j : Nat) : List UInt8 := (t.take j).drop i
def cR (t : List UInt8) (i : Nat) : Nat × Int := gG t (bZ t (bd t i))
def Cu.has (c : Cu) : Prop := c.c = 0 ∧ c.p < c.e
instance (c : Cu) : Decidable c.has := by unfold Cu.has; infer_instance
def Cu.dS (c : Cu) (s : List UInt8) : Bool := decide (c.has ∧ c.aa ∈ s)
def Cu.hZ (c : Cu) (s : List UInt8) : Cu := if c.dS s = true then c.byte else c
def Cu.iZ (c : Cu) (s : List UInt8) : List UInt8 := if c.dS s = true then [c.aa] else []
def d7 : Nat → Cu → List UInt8 → Cu × List UInt8
 | 0, c, o => (c.byte, o ++ [c.aa])
 | n + 1, c, o => if bM c.byte.aa = true then d7 n c.byte (o ++ [c.aa]) else (c.byte, o ++ [c.aa])
termination_by n => n
def Cu.bN (c : Cu) : Cu × List UInt8 := if bM c.aa = true then d7 (c.e - c.p) c [] else ((if c.left > 0 then c.fail 3 else c).byte, [])
abbrev CO := Cu × List UInt8
def CO.cO (x : CO) (s : List UInt8) : CO := (x.1.hZ s, x.2 ++ x.1.iZ s)
def CO.bN (x : CO) : CO := (x.1.bN.1, x.2 ++ x.1.bN.2)
def CO.whole (x : CO) : CO := if (x.cO [45]).1.dS [48] = true then (x.cO [45]).cO [48] else ((x.cO [45]).cO [48]).bN
def CO.behind (x : CO) : CO := if x.1.dS [46] = true then (x.cO [46]).bN else x.cO [46]
def CO.lW (x : CO) : CO := if x.1.dS [101, 69] = true then ((x.cO [101, 69]).cO [43, 45]).bN else x.cO [101, 69]
def Cu.gE (c : Cu) : CO := CO.lW (CO.behind (CO.whole (c, [])))
structure Nx (c : Cu) (x : CO) (r : Nat × Int) : Prop where
 ok : r.2 = 0 → x.1.s = c.s ∧ x.1.e = c.e ∧ x.1.c = 0 ∧ x.1.p = r.1 ∧ c.p ≤ r.1 ∧ r.1 ≤ c.e ∧ x.2 = sub c.a8 c.p r.1
 bad : r.2 ≠ 0 → x.1.c = r.2
theorem sub_self (t : List UInt8) (i : Nat) : sub t i i = [] := by unfold sub; rw [List.drop_eq_nil_iff, List.length_take]; omega
theorem Av {t : List UInt8} {i j : Nat} (h : i ≤ j) (hj : j < t.length) : sub t i (j + 1) = sub t i j ++ [t.getD j 0] := by
 unfold sub
 rw [rS hj, List.drop_append_of_le_length (by rw [List.length_take]; omega)]
theorem pH {c d : Cu} (h1 : d.s = c.s) (h2 : d.e = c.e) : d.a8 = c.a8 := by unfold Cu.a8; rw [h1, h2]
theorem mz {d : Cu} (h : ¬ d.has) : d.aa = 0 := by unfold Cu.aa; rw [if_neg (show ¬ (d.c = 0 ∧ d.p < d.e) from h)]
theorem iJ {d : Cu} {s : List UInt8} : d.dS s = true ↔ d.has ∧ d.aa ∈ s := by unfold Cu.dS; rw [decide_eq_true_eq]
theorem lv {x : CO} {s : List UInt8} (h : x.1.dS s = false) : x.cO s = x := by
 unfold CO.cO Cu.hZ Cu.iZ; rw [h]; simp
theorem sQ {x : CO} {s : List UInt8} (h : x.1.c ≠ 0) : x.1.dS s = false := by
 cases e : x.1.dS s with
 | false => rfl
 | true => exact absurd (iJ.1 e).1.1 h
theorem wX {c : Cu} (hk : c.ok) {x : CO} {i : Nat} {s : List UInt8} (h : Nx c x (i, 0)) (he : x.1.dS s = true) : i < c.a8.length ∧ c.a8.getD i 0 ∈ s ∧ Nx c (x.cO s) (i + 1, 0) := by
 obtain ⟨h1, h2, h3, h4, h5, h6, h7⟩ := h.ok rfl
 simp only at h4 h5 h6 h7
 obtain ⟨k1, k2⟩ := iJ.1 he
 have hp : x.1.p < x.1.e := k1.2
 have hl := eY hk
 obtain ⟨b1, b2⟩ := eh h3 hp
 rw [pH h1 h2, h4] at b2
 refine ⟨by omega, by rw [← b2]; exact k2, ⟨fun _ => ?_, fun k => absurd rfl k⟩⟩
 unfold CO.cO Cu.hZ Cu.iZ
 rw [if_pos he, if_pos he, b1]
 refine ⟨h1, h2, h3, by show x.1.p + 1 = i + 1; omega, by show c.p ≤ i + 1; omega, by show i + 1 ≤ c.e; omega, ?_⟩
 show x.2 ++ [x.1.aa] = sub c.a8 c.p (i + 1)
 rw [Av h5 (by omega), h7, b2]
theorem ql {c : Cu} (hk : c.ok) {x : CO} {i : Nat} {a b : UInt8} {s : List UInt8} (hs : ∀ y, y ∈ s ↔ y = a ∨ y = b) (h : Nx c x (i, 0)) : x.1.dS s = eu c.a8 i a.toNat b.toNat := by
 obtain ⟨h1, h2, h3, h4, h5, h6, h7⟩ := h.ok rfl
 simp only at h4 h5 h6
 have hl := eY hk
 cases e : x.1.dS s with
 | true =>
   obtain ⟨q1, q2, _⟩ := wX hk h e
   exact (gW.2 ⟨q1, ((hs _).1 q2).imp (fun e => by rw [e]) (fun e => by rw [e])⟩).symm
 | false =>
   refine (tY.2 fun ⟨q1, q2⟩ => ?_).symm
   have hp : x.1.p < x.1.e := by omega
   obtain ⟨_, b2⟩ := eh h3 hp
   rw [pH h1 h2, h4] at b2
   have : x.1.dS s = true := iJ.2 ⟨⟨h3, hp⟩, (hs _).2 (by rw [b2]; exact q2.imp (fun e => UInt8.toNat_inj.1 e) (fun e => UInt8.toNat_inj.1 e))⟩
   rw [this] at e; cases e
theorem sK {c : Cu} (hk : c.ok) : ∀ (n : Nat) (x : CO) (i : Nat), Nx c x (i, 0) → i < c.e → bM (c.a8.getD i 0) = true → c.e - i ≤ n + 1 → Nx c (d7 n x.1 x.2) (ea c.a8 i, 0)
 | n, x, i, h, hi, hd, hn => by
   obtain ⟨h1, h2, h3, h4, h5, h6, h7⟩ := h.ok rfl
   simp only at h4 h5 h6 h7
   have hl := eY hk
   obtain ⟨b1, b2⟩ := eh h3 (by omega)
   rw [pH h1 h2, h4] at b2
   have hx : Nx c (x.1.byte, x.2 ++ [x.1.aa]) (i + 1, 0) := ⟨fun _ => by
    rw [b1]
    refine ⟨h1, h2, h3, by show x.1.p + 1 = i + 1; omega, by show c.p ≤ i + 1; omega, by show i + 1 ≤ c.e; omega, ?_⟩
    show x.2 ++ [x.1.aa] = sub c.a8 c.p (i + 1)
    rw [Av h5 (by omega), h7, b2], fun k => absurd rfl k⟩
   rw [nC (by omega) hd]
   have hb : x.1.byte.aa = if i + 1 < c.e then c.a8.getD (i + 1) 0 else 0 := by
    rw [b1]
    split
    . rename_i q
      have := (eh (c := { x.1 with p := x.1.p + 1 }) h3 (by show x.1.p + 1 < x.1.e; omega)).2
      rw [this]
      show (Cu.a8 { x.1 with p := x.1.p + 1 }).getD (x.1.p + 1) 0 = _
      rw [h4]
      exact congrArg (fun l : List UInt8 => l.getD (i + 1) 0) (pH (d := { x.1 with p := i + 1 }) h1 h2)
    . exact mz fun q => by have : x.1.p + 1 < x.1.e := q.2; omega
   have stop : (c.e ≤ i + 1 ∨ bM (c.a8.getD (i + 1) 0) = false) → Nx c (x.1.byte, x.2 ++ [x.1.aa]) (ea c.a8 (i + 1), 0) := fun q => by
    rw [m8 (by rcases q with q | q; exact .inl (by omega); exact .inr q)]; exact hx
   match n with
   | 0 => rw [d7]; exact stop (.inl (by omega))
   | n + 1 =>
     rw [d7]
     by_cases q : i + 1 < c.e
     . rw [if_pos q] at hb
       rw [hb]
       by_cases r : bM (c.a8.getD (i + 1) 0) = true
       . rw [if_pos r]; exact sK hk n _ (i + 1) hx q r (by omega)
       . rw [if_neg r]; exact stop (.inr (by simpa using r))
     . rw [if_neg q] at hb
       rw [hb, if_neg (by decide)]; exact stop (.inl (by omega))
theorem sL {c : Cu} (hk : c.ok) {x : CO} {i : Nat} (h : Nx c x (i, 0)) : Nx c x.bN (cH c.a8 i) := by
 obtain ⟨h1, h2, h3, h4, h5, h6, h7⟩ := h.ok rfl
 simp only at h4 h5 h6 h7
 have hl := eY hk
 have hp := kU c.a8 i
 unfold CO.bN Cu.bN cH
 by_cases q : i < c.e
 . obtain ⟨b1, b2⟩ := eh h3 (by omega)
   rw [pH h1 h2, h4] at b2
   rw [b2]
   by_cases r : bM (c.a8.getD i 0) = true
   . have e := nC (by omega) r
     have := (kU c.a8 (i + 1)).1
     rw [if_pos r, if_pos (by omega)]
     have g := sK hk (x.1.e - x.1.p) (x.1, []) i
     have g2 := sK hk (x.1.e - x.1.p) x i h q r (by omega)
     have ap : ∀ (n : Nat) (d : Cu) (o o' : List UInt8), (d7 n d (o ++ o')).1 = (d7 n d o').1 ∧ (d7 n d (o ++ o')).2 = o ++ (d7 n d o').2 := by
      intro n
      induction n with
      | zero => intro d o o'; rw [d7, d7]; simp
      | succ n ih =>
        intro d o o'
        rw [d7, d7]
        split
        . rw [List.append_assoc]; exact ih _ _ _
        . simp
     obtain ⟨a1, a2⟩ := ap (x.1.e - x.1.p) x.1 x.2 []
     rw [List.append_nil] at a1 a2
     have e3 : (d7 (x.1.e - x.1.p) x.1 x.2) = ((d7 (x.1.e - x.1.p) x.1 []).1, x.2 ++ (d7 (x.1.e - x.1.p) x.1 []).2) := Prod.ext a1 a2
     rw [e3] at g2
     exact g2
   . have e := m8 (t := c.a8) (i := i) (.inr (by simpa using r))
     have hleft : x.1.left > 0 := by show (x.1.e : Int) - x.1.p > 0; omega
     rw [if_neg r, if_pos hleft, if_neg (show ¬ ea c.a8 i > i by omega), if_neg (show ¬ i = c.a8.length by omega)]
     refine ⟨fun k => absurd (show (3 : Int) = 0 from k) (by decide), fun _ => ?_⟩
     have hf : (x.1.fail 3).c = 3 := by rw [fk _ h3]
     show (x.1.fail 3).byte.c = 3
     rw [(mA (by omega)).1]; exact hf
 . have e := m8 (t := c.a8) (i := i) (.inl (by omega))
   have hb : x.1.aa = 0 := mz fun k => by have := k.2; omega
   have hleft : ¬ x.1.left > 0 := by show ¬ (x.1.e : Int) - x.1.p > 0; omega
   rw [hb, if_neg (show ¬ bM 0 = true by decide), if_neg hleft, if_neg (show ¬ ea c.a8 i > i by omega), if_pos (show i = c.a8.length by omega)]
   refine ⟨fun k => absurd (show (1 : Int) = 0 from k) (by decide), fun _ => ?_⟩
   show x.1.byte.c = 1
   rw [(ln h3 (by omega)).1]
theorem wa {c : Cu} {x : CO} {r : Nat × Int} (h : Nx c x r) (k : r.2 ≠ 0) : x.1.c ≠ 0 := by rw [h.bad k]; exact k
theorem oy {c : Cu} (hk : c.ok) {x : CO} {i : Nat} {a b : UInt8} {s : List UInt8} (hs : ∀ y, y ∈ s ↔ y = a ∨ y = b) (h : Nx c x (i, 0)) : Nx c (x.cO s) (bJ c.a8 i a.toNat b.toNat, 0) := by
 have e := ql hk hs h
 unfold bJ
 rw [← e]
 split
 . rename_i q; exact (wX hk h q).2.2
 . rename_i q; rw [lv (by simpa using q)]; exact h
theorem p6 (a y : UInt8) : y ∈ [a] ↔ y = a ∨ y = a := by simp
theorem tM (a b y : UInt8) : y ∈ [a, b] ↔ y = a ∨ y = b := by simp
theorem GG {c : Cu} (hk : c.ok) (h0 : c.c = 0) : Nx c c.gE (cR c.a8 c.p) := by
 have hl := eY hk
 have s0 : Nx c (c, []) (c.p, 0) := ⟨fun _ => ⟨rfl, rfl, h0, rfl, Nat.le_refl _, hk.1, (sub_self _ _).symm⟩, fun k => absurd rfl k⟩
 have s1 := oy hk (p6 45) s0
 have w : Nx c (CO.whole (c, [])) (bd c.a8 c.p) := by
  unfold CO.whole bd
  have e := ql hk (p6 48) s1
  have s2 := oy hk (p6 48) s1
  unfold bJ at s2
  rw [e]
  by_cases q : eu c.a8 (bJ c.a8 c.p 45 45) 48 48 = true
  . rw [if_pos (by exact q), if_pos q]
    rw [if_pos (by exact q)] at s2; exact s2
  . rw [if_neg (by exact q), if_neg q]
    rw [if_neg (by exact q)] at s2; exact sL hk s2
 have b : Nx c (CO.behind (CO.whole (c, []))) (bZ c.a8 (bd c.a8 c.p)) := by
  generalize CO.whole (c, []) = x at *
  generalize bd c.a8 c.p = r at *
  obtain ⟨i, k⟩ := r
  unfold CO.behind bZ
  by_cases z : k = 0
  . subst z
    have e := ql hk (p6 46) w
    have s2 := oy hk (p6 46) w
    unfold bJ at s2
    rw [e]
    by_cases q : eu c.a8 i 46 46 = true
    . rw [if_pos (by exact q), if_pos ⟨rfl, q⟩]
      rw [if_pos (by exact q)] at s2; exact sL hk s2
    . rw [if_neg (by exact q), if_neg (fun t => q t.2)]
      rw [if_neg (by exact q)] at s2; exact s2
  . have e := sQ (s := [46]) (wa w z)
    rw [e, if_neg (by decide), if_neg (fun t => z t.1), lv e]; exact w
 unfold Cu.gE cR
 generalize CO.behind (CO.whole (c, [])) = x at *
 generalize bZ c.a8 (bd c.a8 c.p) = r at *
 obtain ⟨i, k⟩ := r
 unfold CO.lW gG
 by_cases z : k = 0
 . subst z
   have e := ql hk (tM 101 69) b
   have s2 := oy hk (tM 101 69) b
   rw [e]
   by_cases q : eu c.a8 i 101 69 = true
   . rw [if_pos (by exact q), if_pos ⟨rfl, q⟩]
     unfold bJ at s2
     rw [if_pos (by exact q)] at s2
     exact sL hk (oy hk (tM 43 45) s2)
   . rw [if_neg (by exact q), if_neg (fun t => q t.2)]
     unfold bJ at s2
     rw [if_neg (by exact q)] at s2; exact s2
 . have e := sQ (s := [101, 69]) (wa b z)
   rw [e, if_neg (by decide), if_neg (fun t => z t.1), lv e]; exact b
def d6 (b : UInt8) : Bool := decide (b.toNat = 32 ∨ b.toNat = 9 ∨ b.toNat = 10 ∨ b.toNat = 13)
def dL (b : UInt8) : Bool := decide (b.toNat = 123 ∨ b.toNat = 125 ∨ b.toNat = 91 ∨ b.toNat = 93 ∨ b.toNat = 58 ∨ b.toNat = 44)
structure Tk where
 k : UInt8
 t : List UInt8
instance : Inhabited Tk := ⟨⟨0, []⟩⟩
abbrev Tk.no : Tk := ⟨0, []⟩
def spell (k : UInt8) : List UInt8 := if k.toNat = 116 then [116, 114, 117, 101] else if k.toNat = 102 then [102, 97, 108, 115, 101] else if k.toNat = 122 then [110, 117, 108, 108] else []
def Cu.bR (c : Cu) : Cu := if c.c = 0 then { c with p := dr d6 c.a8 c.p } else c
def Cu.word : List UInt8 → Cu → Cu × Bool
 | [], c => (c, true)
 | b :: s, c => if c.aa ≠ b then (c.byte.fail 3, false) else Cu.word s c.byte
def Cu.num (c : Cu) : CO := (c.gE.1, if c.gE.1.c = 0 then c.gE.2 else [])
def held (x : CO) (k : UInt8) : Cu × Tk := (x.1, if x.1.c = 0 then ⟨k, x.2⟩ else .no)
def Cu.nQ (c : Cu) (k : UInt8) : Cu × Tk := ((c.word (spell k)).1, if (c.word (spell k)).2 = true then ⟨k, []⟩ else .no)
def Cu.pF (d : Cu) : Cu × Tk :=
 if ¬ d.has then (d, .no)
 else if dL d.aa = true then (d.byte, ⟨d.aa, []⟩)
 else if d.aa.toNat = 34 then held d.read 115
 else if d.aa.toNat = 45 ∨ bM d.aa = true then held d.num 110
 else if d.aa.toNat = 116 then d.nQ 116
 else if d.aa.toNat = 102 then d.nQ 102
 else if d.aa.toNat = 110 then d.nQ 122
 else (d.fail 3, .no)
def Cu.next (c : Cu) : Cu × Tk := c.bR.pF
def Cu.kP (c : Cu) : CO :=
 if c.c ≠ 0 then (c, []) else if (cR c.a8 c.p).2 ≠ 0 then (c.fail (cR c.a8 c.p).2, []) else ({ c with p := (cR c.a8 c.p).1 }, sub c.s c.p (cR c.a8 c.p).1)
def fD (c : Cu) : List UInt8 → Nat → Int
 | [], _ => 0
 | b :: s, i => if c.p + i ≥ c.e then 1 else if c.s.getD (c.p + i) 0 ≠ b then 3 else fD c s (i + 1)
def Cu.fC (c : Cu) (k : UInt8) : Cu × Tk := if fD c (spell k) 0 ≠ 0 then (c.fail (fD c (spell k) 0), .no) else ({ c with p := c.p + (spell k).length }, ⟨k, []⟩)
def Cu.iA (d : Cu) : Cu × Tk :=
 if d.p = d.e then (d, .no)
 else if dL d.get = true then ({ d with p := d.p + 1 }, ⟨d.get, []⟩)
 else if d.get.toNat = 34 then held d.gJ 115
 else if d.get.toNat = 45 ∨ bM d.get = true then held d.kP 110
 else if d.get.toNat = 116 ∨ d.get.toNat = 102 then d.fC d.get
 else if d.get.toNat = 110 then d.fC 122
 else (d.fail 3, .no)
def Cu.bF (c : Cu) : Cu × Tk := if c.c ≠ 0 then (c, .no) else ({ c with p := dr d6 c.a8 c.p } : Cu).iA
def jX (x y : Cu × Tk) : Prop := x.2 = y.2 ∧ x.1.c = y.1.c ∧ (y.1.c = 0 → x.1 = y.1)
theorem jX.refl (x : Cu × Tk) : jX x x := ⟨rfl, rfl, fun _ => rfl⟩
theorem Ia {c : Cu} {i j : Nat} (h : j ≤ c.e) : sub c.a8 i j = sub c.s i j := by unfold sub Cu.a8; rw [List.take_take, Nat.min_eq_left h]
theorem nq (t : List UInt8) (i : Nat) (h : i ≤ t.length) : i ≤ (cH t i).1 ∧ (cH t i).1 ≤ t.length := by
 have := kU t i
 unfold cH; repeat' split
 all_goals (constructor <;> (try dsimp only) <;> omega)
theorem px (t : List UInt8) (i a b : Nat) (h : i ≤ t.length) : i ≤ bJ t i a b ∧ bJ t i a b ≤ t.length := by
 unfold bJ; split
 . rename_i q; have := (gW.1 q).1; omega
 . omega
theorem G6 (t : List UInt8) (i : Nat) (h : i ≤ t.length) : i ≤ (cR t i).1 ∧ (cR t i).1 ≤ t.length := by
 have h1 := px t i 45 45 h
 have w : i ≤ (bd t i).1 ∧ (bd t i).1 ≤ t.length := by
  unfold bd; split
  . rename_i q; have := (gW.1 q).1; dsimp only; omega
  . have := nq t _ h1.2; omega
 have b : i ≤ (bZ t (bd t i)).1 ∧ (bZ t (bd t i)).1 ≤ t.length := by
  generalize bd t i = x at *
  unfold bZ; split
  . rename_i q; have := (gW.1 q.2).1; have := nq t (x.1 + 1) (by omega); omega
  . exact w
 unfold cR
 generalize bZ t (bd t i) = x at *
 unfold gG; split
 . rename_i q; have := (gW.1 q.2).1; have := px t (x.1 + 1) 43 45 (by omega); have := nq t _ this.2; omega
 . exact b
theorem G9 {c : Cu} (hk : c.ok) : jX (held c.num 110) (held c.kP 110) := by
 unfold Cu.kP
 by_cases h0 : c.c = 0
 . have h := GG hk h0
   rw [if_neg (by omega)]
   by_cases z : (cR c.a8 c.p).2 = 0
   . obtain ⟨h1, h2, h3, h4, h5, h6, h7⟩ := h.ok z
     rw [if_neg (by omega)]
     have e1 : c.gE.1 = { c with p := (cR c.a8 c.p).1 } := by
      generalize c.gE.1 = d at *
      obtain ⟨ds, dp, de, dc⟩ := d
      simp only at h1 h2 h3 h4
      rw [h1, h2, h3, h4, ← h0]
     have e2 : c.num = ({ c with p := (cR c.a8 c.p).1 }, sub c.s c.p (cR c.a8 c.p).1) := by
      unfold Cu.num; rw [if_pos h3, h7, Ia h6, e1]
     rw [e2]; exact .refl _
   . have hb := h.bad z
     rw [if_pos z, fk _ h0]
     unfold held Cu.num
     rw [hb]
     simp only
     rw [if_neg z, if_neg z]
     exact ⟨rfl, hb, fun k => absurd k z⟩
 . rw [if_pos h0]
   have hp : c.gE = (c, []) := by
    have e : ∀ s, (c, ([] : List UInt8)).1.dS s = false := fun s => sQ h0
    unfold Cu.gE
    have w : CO.whole (c, []) = (c, []) := by
     unfold CO.whole
     rw [lv (e _), e, if_neg (by decide), lv (e _)]
     unfold CO.bN Cu.bN
     have hb : c.aa = 0 := mz fun k => h0 k.1
     have hf : (if c.left > 0 then c.fail 3 else c) = c := by split; exact jC 3 h0; rfl
     show ((if bM c.aa = true then _ else _ : CO).1, [] ++ (if bM c.aa = true then _ else _ : CO).2) = _
     rw [hb, if_neg (by decide), hf, (mA h0).1]; rfl
    have b : CO.behind (c, []) = (c, []) := by
     unfold CO.behind; rw [e, if_neg (by decide), lv (e _)]
    have p : CO.lW (c, []) = (c, []) := by
     unfold CO.lW; rw [e, if_neg (by decide), lv (e _)]
    rw [w, b, p]
   unfold held Cu.num
   rw [hp]
   simp only
   rw [if_neg h0, if_neg h0]
   exact ⟨rfl, rfl, fun _ => rfl⟩
theorem B4 {c : Cu} : ∀ (s : List UInt8) (i : Nat) (d : Cu), (∀ x ∈ s, x ≠ 0) → On c d i → d.p ≤ d.e →
   (fD c s i = 0 → (d.word s).2 = true ∧ On c (d.word s).1 (i + s.length)) ∧ (fD c s i ≠ 0 → (d.word s).2 = false ∧ (d.word s).1.c = fD c s i)
 | [], i, d, _, h, _ => by
   unfold fD Cu.word
   exact ⟨fun _ => ⟨rfl, h⟩, fun k => absurd rfl k⟩
 | b :: s, i, d, hz, h, hd => by
   unfold fD Cu.word
   have hp := h.p
   have he := h.e
   by_cases q : c.p + i ≥ c.e
   . obtain ⟨b1, b2⟩ := ln h.c0 (by omega)
     rw [if_pos q]
     refine ⟨fun k => absurd k (by decide), fun _ => ?_⟩
     by_cases hb : d.aa ≠ b
     . rw [if_pos hb, b1]
       refine ⟨rfl, ?_⟩
       rw [jC _ (by show (1 : Int) ≠ 0; decide)]
     . rw [if_neg hb]
       have bb : b = 0 := by rw [b2] at hb; exact (Decidable.not_not.1 hb).symm
       exact absurd bb (hz b (by simp))
   . obtain ⟨b1, b2⟩ := eh h.c0 (by omega)
     rw [h.a8, hp] at b2
     have hg : c.a8.getD (c.p + i) 0 = c.s.getD (c.p + i) 0 := by unfold Cu.a8; exact mZ (by omega)
     rw [if_neg q, b2, hg]
     by_cases hb : c.s.getD (c.p + i) 0 ≠ b
     . rw [if_pos hb, if_pos hb]
       refine ⟨fun k => absurd k (by decide), fun _ => ⟨rfl, ?_⟩⟩
       rw [b1]
       show (Cu.fail { d with p := d.p + 1 } 3).c = 3
       rw [fk 3 (show ({ d with p := d.p + 1 } : Cu).c = 0 from h.c0)]
     . rw [if_neg hb, if_neg hb]
       have := B4 s (i + 1) d.byte (fun x hx => hz x (List.mem_cons_of_mem _ hx)) (by have := h.trans (On.byte h.c0 (by omega)); exact this) (by rw [b1]; show d.p + 1 ≤ d.e; omega)
       rw [show i + (b :: s).length = i + 1 + s.length by simp; omega]
       exact this
theorem I4 (k : UInt8) : ∀ x ∈ spell k, x ≠ 0 := by
 unfold spell; repeat' split
 all_goals decide
theorem vC {c : Cu} (hk : c.ok) (h0 : c.c = 0) (k : UInt8) : jX (c.nQ k) (c.fC k) := by
 have h := B4 (spell k) 0 c (I4 k) ⟨rfl, rfl, h0, rfl⟩ hk.1
 unfold Cu.nQ Cu.fC
 by_cases z : fD c (spell k) 0 = 0
 . obtain ⟨h1, h2⟩ := h.1 z
   rw [if_pos h1, if_neg (by omega)]
   have e : (c.word (spell k)).1 = { c with p := c.p + (spell k).length } := by
    generalize (c.word (spell k)).1 = d at *
    obtain ⟨ds, dp, de, dc⟩ := d
    obtain ⟨a1, a2, a3, a4⟩ := h2
    simp only [Nat.zero_add] at a1 a2 a3 a4
    rw [a1, a2, a3, a4, ← h0]
   rw [e]; exact .refl _
 . obtain ⟨h1, h2⟩ := h.2 z
   rw [if_neg (by rw [h1]; decide), if_pos z, fk _ h0]
   exact ⟨rfl, h2, fun q => absurd q z⟩
theorem Ev {x y : CO} {k : UInt8} (h1 : x.2 = y.2) (h2 : x.1.c = y.1.c) (h3 : y.1.c = 0 → x.1 = y.1) : jX (held x k) (held y k) := by
 refine ⟨?_, h2, h3⟩
 show (if x.1.c = 0 then _ else _) = if y.1.c = 0 then _ else _
 rw [h1, h2]
theorem H5 {c : Cu} (hk : c.ok) : jX (held c.read 115) (held c.gJ 115) := by
 obtain ⟨h1, h2, h3⟩ := H4 hk
 exact Ev h1 h2 h3
theorem Il {d : Cu} (hk : d.ok) (h0 : d.c = 0) : jX d.pF d.iA := by
 unfold Cu.pF Cu.iA
 by_cases q : d.p = d.e
 . rw [if_pos (fun h => by have := h.2; omega), if_pos q]; exact .refl _
 . have hp : d.p < d.e := by have := hk.1; omega
   have hh : d.has := ⟨h0, hp⟩
   have hv : d.aa = d.get := by unfold Cu.aa; rw [if_pos (show d.c = 0 ∧ d.p < d.e from hh)]
   rw [if_neg (fun h => h hh), if_neg q, hv, (eh h0 hp).1]
   by_cases a : dL d.get = true
   . rw [if_pos a, if_pos a]; exact .refl _
   rw [if_neg a, if_neg a]
   by_cases b : d.get.toNat = 34
   . rw [if_pos b, if_pos b]; exact H5 hk
   rw [if_neg b, if_neg b]
   by_cases e : d.get.toNat = 45 ∨ bM d.get = true
   . rw [if_pos e, if_pos e]; exact G9 hk
   rw [if_neg e, if_neg e]
   by_cases f : d.get.toNat = 116
   . rw [if_pos f, if_pos (.inl f), show d.get = 116 from UInt8.toNat_inj.1 f]; exact vC hk h0 116
   rw [if_neg f]
   by_cases g : d.get.toNat = 102
   . rw [if_pos g, if_pos (.inr g), show d.get = 102 from UInt8.toNat_inj.1 g]; exact vC hk h0 102
   rw [if_neg g, if_neg (show ¬ (d.get.toNat = 116 ∨ d.get.toNat = 102) by omega)]
   by_cases i : d.get.toNat = 110
   . rw [if_pos i, if_pos i]; exact vC hk h0 122
   rw [if_neg i, if_neg i]; exact .refl _
theorem wc {c : Cu} (hk : c.ok) : c.bR.ok := by
 unfold Cu.bR; split
 . have := uo d6 c.a8 c.p
   have := eY hk
   have := hk.1
   exact ⟨by show dr d6 c.a8 c.p ≤ c.e; omega, hk.2⟩
 . exact hk
theorem nr {c : Cu} (hk : c.ok) : jX c.next c.bF := by
 unfold Cu.next Cu.bF
 have hb := wc hk
 by_cases h0 : c.c = 0
 . rw [if_neg (by omega)]
   have e : c.bR = { c with p := dr d6 c.a8 c.p } := by unfold Cu.bR; rw [if_pos h0]
   rw [e] at hb ⊢
   exact Il hb h0
 . rw [if_pos h0]
   have e : c.bR = c := by unfold Cu.bR; rw [if_neg h0]
   rw [e]
   unfold Cu.pF
   rw [if_pos (fun h => h0 h.1)]; exact .refl _
def pV : Nat → Cu → List Tk → List Tk × Int
 | 0, _, l => (l, 0)
 | n + 1, c, l => if c.bF.1.c ≠ 0 then ([], c.bF.1.c) else if c.bF.2.k = 0 then (l, 0) else pV n c.bF.1 (l ++ [c.bF.2])
end Go.Proofs.Ytllncocibkgjkaa
