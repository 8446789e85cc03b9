/-
  A part of the proof.
-/
import Derived.Test.YtllncocibkgjkaaGreatTRb
import Derived.Test.YtllncocibkgjkaaGreatJTb
set_option linter.unusedSimpArgs false
set_option linter.unusedVariables false
set_option maxHeartbeats 4000000
namespace Go.Proofs.YtllncocibkgjkaaGreat
open Go Go.VG
set_option maxRecDepth 100000
abbrev It : Type := List Nd × List UInt8
def j4 (L : List Nd) : Nd := L.getD 0 default
def aw : List It → List Nd
 | [] => []
 | x :: l => x.1 ++ aw l
def aU (g : It → List UInt8) : List It → Nat → List UInt8
 | [], _ => []
 | x :: l, i => (if i = 0 then [] else [44]) ++ (g x ++ aU g l (i + 1))
def cH (x : It) : List UInt8 := x.2
def bC (x : It) : List UInt8 := quote (j4 x.1).key ++ ([58] ++ x.2)
def bo (x : It) : List UInt8 := (j4 x.1).key
inductive TT : Nat → List Nd → List UInt8 → Prop
 | leaf (d : Nat) (k : UInt8) (key t : List UInt8) (h : jI ⟨k, t⟩) (hl : dd k = true) : TT d [⟨k, key, t, 1⟩] (cq ⟨k, t⟩)
 | lst (d : Nat) (key : List UInt8) (l : List It) (h : ∀ x ∈ l, TT d x.1 x.2) (hk : ∀ x ∈ l, bo x = []) : TT (d + 1) (⟨91, key, [], (aw l).length + 1⟩ :: aw l) (91 :: (aU cH l 0 ++ [93]))
 | obj (d : Nat) (key : List UInt8) (l : List It) (h : ∀ x ∈ l, TT d x.1 x.2) (hk : (l.map bo).Nodup) (ht : ∀ x ∈ l, cN (bo x)) : TT (d + 1) (⟨123, key, [], (aw l).length + 1⟩ :: aw l) (123 :: (aU bC l 0 ++ [125]))
theorem TT.pos {d : Nat} {L : List Nd} {x : List UInt8} (h : TT d L x) : 1 ≤ L.length ∧ (j4 L).sz = L.length := by
 cases h with
 | leaf => exact ⟨Nat.le_refl _, rfl⟩
 | lst => exact ⟨by rw [List.length_cons]; omega, by show ((aw _).length : Int) + 1 = ((aw _).length + 1 : Nat); omega⟩
 | obj => exact ⟨by rw [List.length_cons]; omega, by show ((aw _).length : Int) + 1 = ((aw _).length + 1 : Nat); omega⟩
theorem uy : ∀ (l m : List It), aw (l ++ m) = aw l ++ aw m
 | [], _ => rfl
 | x :: l, m => by show x.1 ++ aw (l ++ m) = (x.1 ++ aw l) ++ aw m; rw [uy l m, List.append_assoc]
theorem zk {l : List It} {x : It} (h : x ∈ l) : x.1.length ≤ (aw l).length := by
 induction l with
 | nil => cases h
 | cons y l ih =>
   show x.1.length ≤ (y.1 ++ aw l).length
   rw [List.length_append]
   rcases List.mem_cons.1 h with rfl | h
   . omega
   . have := ih h; omega
theorem uz {l : List It} {z : Nd} (h : z ∈ aw l) : ∃ x ∈ l, z ∈ x.1 := by
 induction l with
 | nil => cases h
 | cons y l ih =>
   rcases List.mem_append.1 h with h | h
   . exact ⟨y, List.mem_cons_self, h⟩
   . obtain ⟨x, h1, h2⟩ := ih h
     exact ⟨x, List.mem_cons_of_mem _ h1, h2⟩
theorem TT.sz {d : Nat} {L : List Nd} {x : List UInt8} (h : TT d L x) : ∀ z ∈ L, 1 ≤ z.sz ∧ z.sz ≤ L.length := by
 induction h with
 | leaf => intro z hz; rw [List.mem_singleton] at hz; subst hz; exact ⟨Int.le_refl 1, Int.le_refl 1⟩
 | lst d key l h hk ih =>
   intro z hz
   rw [List.length_cons]
   rcases List.mem_cons.1 hz with rfl | hz
   . exact ⟨by show 1 ≤ ((aw l).length : Int) + 1; omega, by show ((aw l).length : Int) + 1 ≤ _; omega⟩
   . obtain ⟨y, hy, hz⟩ := uz hz
     have := ih y hy z hz
     have := zk hy
     omega
 | obj d key l h hk ht ih =>
   intro z hz
   rw [List.length_cons]
   rcases List.mem_cons.1 hz with rfl | hz
   . exact ⟨by show 1 ≤ ((aw l).length : Int) + 1; omega, by show ((aw l).length : Int) + 1 ≤ _; omega⟩
   . obtain ⟨y, hy, hz⟩ := uz hz
     have := ih y hy z hz
     have := zk hy
     omega
def nc (m : Nat) (L : List Nd) : Prop := ∀ z ∈ L, z.key.length ≤ m ∧ z.t.length ≤ m
theorem ua {g : It → List UInt8} {M e : Nat} : ∀ (l : List It) (i : Nat), (∀ x ∈ l, (g x).length + e ≤ x.1.length * M) → 1 ≤ e → (aU g l i).length ≤ (aw l).length * M
 | [], _, _, _ => by show 0 ≤ _; omega
 | x :: l, i, h, he => by
   have h1 := h x List.mem_cons_self
   have h2 := ua l (i + 1) (fun y hy => h y (List.mem_cons_of_mem _ hy)) he
   show ((if i = 0 then ([] : List UInt8) else [44]) ++ (g x ++ aU g l (i + 1))).length ≤ (x.1 ++ aw l).length * M
   rw [List.length_append, List.length_append, List.length_append, Nat.add_mul]
   have : (if i = 0 then ([] : List UInt8) else [44]).length ≤ 1 := by split <;> simp
   omega
theorem H8 {L : List Nd} (h : 1 ≤ L.length) : j4 L ∈ L := by
 cases L with
 | nil => simp at h
 | cons x L => exact List.mem_cons_self
theorem TT.len {m d : Nat} {L : List Nd} {x : List UInt8} (h : TT d L x) : nc m L → x.length + (6 * m + 10) ≤ L.length * (12 * m + 30) := by
 induction h with
 | leaf d k key t h hl =>
   intro hb
   have h1 := Lt ⟨k, t⟩
   have h2 := (hb ⟨k, key, t, 1⟩ List.mem_cons_self).2
   have h2 : t.length ≤ m := h2
   have h1 : (cq ⟨k, t⟩).length ≤ 6 * t.length + 5 := h1
   rw [List.length_singleton]; omega
 | lst d key l h hk ih =>
   intro hb
   have hc := ua (g := cH) (M := 12 * m + 30) (e := 6 * m + 10) l 0 (fun y hy => ih y hy fun z hz => hb z (List.mem_cons_of_mem _ (by
    clear ih hk h hb
    induction l with
    | nil => cases hy
    | cons w l ih =>
      rcases List.mem_cons.1 hy with rfl | hy
      . exact List.mem_append.2 (.inl hz)
      . exact List.mem_append.2 (.inr (ih hy))))) (by omega)
   rw [List.length_cons, List.length_cons, List.length_append, List.length_singleton, Nat.add_mul]
   omega
 | obj d key l h hk ht ih =>
   intro hb
   have hin : ∀ y ∈ l, ∀ z ∈ y.1, z ∈ aw l := fun y hy z hz => by
    clear ih hk ht h hb
    induction l with
    | nil => cases hy
    | cons w l ih =>
      rcases List.mem_cons.1 hy with rfl | hy
      . exact List.mem_append.2 (.inl hz)
      . exact List.mem_append.2 (.inr (ih hy))
   have hc := ua (g := bC) (M := 12 * m + 30) (e := 1) l 0 (fun y hy => by
    have h1 := ih y hy fun z hz => hb z (List.mem_cons_of_mem _ (hin y hy z hz))
    have h2 := (hb (j4 y.1) (List.mem_cons_of_mem _ (hin y hy _ (H8 (h y hy).pos.1)))).1
    have h3 := sn (j4 y.1).key
    show (quote (j4 y.1).key ++ ([58] ++ y.2)).length + 1 ≤ _
    rw [List.length_append, List.length_append, List.length_singleton]
    omega) (by omega)
   rw [List.length_cons, List.length_cons, List.length_append, List.length_singleton, Nat.add_mul]
   omega
def iH (L : List Nd) (e : Nat) : Nat → Nat → List Nat
 | 0, _ => []
 | n + 1, k => if k < e then k :: iH L e n (k + (L.getD k default).sz.toNat) else []
def iG (L : List Nd) (a : Nat) : Nat := min L.length (a + (L.getD a default).sz.toNat)
def aJ (L : List Nd) (a : Nat) : List Nat := iH L (iG L a) L.length (a + 1)
def lO (L : List Nd) (a : Int) : List Nat := if 0 ≤ a ∧ a < L.length then aJ L a.toNat else []
def fZ (f : Nat → List UInt8) (L : List Nd) (k0 : UInt8) : List Nat → Nat → List UInt8
 | [], _ => []
 | k :: ks, i => (if i = 0 then [] else [44]) ++ ((if k0.toNat = 123 then quote (L.getD k default).key ++ [58] else []) ++ (f k ++ fZ f L k0 ks (i + 1)))
def cP (L : List Nd) : Nat → Nat → List UInt8
 | 0, _ => []
 | n + 1, a =>
   if (L.getD a default).k.toNat ≠ 123 ∧ (L.getD a default).k.toNat ≠ 91 then cq ⟨(L.getD a default).k, (L.getD a default).t⟩
   else (L.getD a default).k :: (fZ (cP L n) L (L.getD a default).k (aJ L a) 0 ++ [if (L.getD a default).k.toNat = 123 then 125 else 93])
def n9 : Nat → List It → List Nat
 | _, [] => []
 | p, x :: l => p :: n9 (p + x.1.length) l
theorem kE {P L B : List Nd} (h : 1 ≤ L.length) : (P ++ (L ++ B)).getD P.length default = j4 L := by
 rw [List.getD_eq_getElem?_getD, List.getElem?_append_right (Nat.le_refl _), Nat.sub_self, List.getElem?_append_left (by omega)]
 unfold j4
 rw [List.getD_eq_getElem?_getD]
theorem Ao {d : Nat} : ∀ (l : List It) (P B : List Nd) (n : Nat), (∀ x ∈ l, TT d x.1 x.2) → l.length ≤ n → iH (P ++ (aw l ++ B)) (P.length + (aw l).length) n P.length = n9 P.length l
 | [], P, B, n, _, _ => by
   cases n with
   | zero => rfl
   | succ n => rw [iH, if_neg (by show ¬ P.length < P.length + 0; omega)]; rfl
 | x :: l, P, B, 0, _, h => by simp at h
 | x :: l, P, B, n + 1, ht, h => by
   obtain ⟨h1, h2⟩ := (ht x List.mem_cons_self).pos
   have e : P ++ (aw (x :: l) ++ B) = P ++ (x.1 ++ (aw l ++ B)) := by show P ++ ((x.1 ++ aw l) ++ B) = _; rw [List.append_assoc]
   have e2 : P ++ (aw (x :: l) ++ B) = (P ++ x.1) ++ (aw l ++ B) := by rw [e, List.append_assoc]
   have hl : (aw (x :: l)).length = x.1.length + (aw l).length := by show (x.1 ++ aw l).length = _; rw [List.length_append]
   rw [iH, if_pos (by omega), e, kE h1, h2, ← e, Int.toNat_natCast, e2]
   have := Ao l (P ++ x.1) B n (fun y hy => ht y (List.mem_cons_of_mem _ hy)) (by simp at h; omega)
   rw [List.length_append] at this
   rw [show P.length + (aw (x :: l)).length = P.length + x.1.length + (aw l).length by omega, this]
   rfl
theorem zj {d : Nat} : ∀ (l : List It), (∀ x ∈ l, TT d x.1 x.2) → l.length ≤ (aw l).length
 | [], _ => Nat.le_refl _
 | x :: l, h => by
   have h1 := (h x List.mem_cons_self).pos.1
   have h2 := zj l fun y hy => h y (List.mem_cons_of_mem _ hy)
   show l.length + 1 ≤ (x.1 ++ aw l).length
   rw [List.length_append]; omega
theorem uV {d : Nat} {l : List It} {A B : List Nd} {N : Nd} (h : ∀ x ∈ l, TT d x.1 x.2) (hs : N.sz = (aw l).length + 1) : aJ (A ++ ((N :: aw l) ++ B)) A.length = n9 (A.length + 1) l := by
 have hf := zj l h
 have e : A ++ ((N :: aw l) ++ B) = (A ++ [N]) ++ (aw l ++ B) := by simp
 have hN : (A ++ ((N :: aw l) ++ B)).getD A.length default = N := kE (L := N :: aw l) (by simp)
 have hk := Ao l (A ++ [N]) B (A ++ ((N :: aw l) ++ B)).length h (by simp; omega)
 unfold aJ iG
 rw [hN, hs]
 rw [List.length_append, List.length_singleton, ← e] at hk
 rw [show min (A ++ ((N :: aw l) ++ B)).length (A.length + (((aw l).length : Int) + 1).toNat) = A.length + 1 + (aw l).length by
  simp only [List.length_append, List.length_cons]; omega]
 exact hk
theorem uW {d : Nat} {f : Nat → List UInt8} {k0 : UInt8} {B : List Nd} {g : It → List UInt8} (hg : ∀ x, g x = (if k0.toNat = 123 then quote (j4 x.1).key ++ [58] else []) ++ x.2) :
   ∀ (l : List It) (P : List Nd) (i : Nat), (∀ x ∈ l, TT d x.1 x.2) → (∀ x ∈ l, ∀ Q R, P ++ (aw l ++ B) = Q ++ (x.1 ++ R) → P.length ≤ Q.length → f Q.length = x.2) →
   fZ f (P ++ (aw l ++ B)) k0 (n9 P.length l) i = aU g l i
 | [], _, _, _, _ => rfl
 | x :: l, P, i, ht, hf => by
   have h1 := (ht x List.mem_cons_self).pos.1
   have e : P ++ (aw (x :: l) ++ B) = P ++ (x.1 ++ (aw l ++ B)) := by show P ++ ((x.1 ++ aw l) ++ B) = _; rw [List.append_assoc]
   have e2 : P ++ (aw (x :: l) ++ B) = (P ++ x.1) ++ (aw l ++ B) := by rw [e, List.append_assoc]
   have hx := hf x List.mem_cons_self P (aw l ++ B) e (Nat.le_refl _)
   have ih := uW (f := f) (B := B) hg l (P ++ x.1) (i + 1) (fun y hy => ht y (List.mem_cons_of_mem _ hy)) fun y hy Q R hq hl => hf y (List.mem_cons_of_mem _ hy) Q R (by rw [e2, hq]) (by rw [List.length_append] at hl; omega)
   rw [List.length_append, ← e2] at ih
   show (if i = 0 then ([] : List UInt8) else [44]) ++ ((if k0.toNat = 123 then quote ((P ++ (aw (x :: l) ++ B)).getD P.length default).key ++ [58] else []) ++ (f P.length ++ fZ f (P ++ (aw (x :: l) ++ B)) k0 (n9 (P.length + x.1.length) l) (i + 1))) = (if i = 0 then ([] : List UInt8) else [44]) ++ (g x ++ aU g l (i + 1))
   rw [ih, hx, e, kE h1, hg]
   simp only [List.append_assoc]
theorem TT.put {d : Nat} {L : List Nd} {x : List UInt8} (h : TT d L x) : ∀ (A B : List Nd) (n : Nat), (A ++ (L ++ B)).length - A.length ≤ n → cP (A ++ (L ++ B)) n A.length = x := by
 induction h with
 | leaf d k key t h hl =>
   intro A B n hn
   obtain ⟨n, rfl⟩ : ∃ m, n = m + 1 := ⟨n - 1, by simp only [List.length_append, List.length_singleton] at hn; omega⟩
   rw [cP, kE (by simp)]
   show (if k.toNat ≠ 123 ∧ k.toNat ≠ 91 then cq ⟨k, t⟩ else _) = _
   have : k.toNat = 115 ∨ k.toNat = 110 ∨ k.toNat = 116 ∨ k.toNat = 102 ∨ k.toNat = 122 := of_decide_eq_true hl
   rw [if_pos (by omega)]
 | lst d key l h hk ih =>
   intro A B n hn
   obtain ⟨n, rfl⟩ : ∃ m, n = m + 1 := ⟨n - 1, by simp only [List.length_append, List.length_cons] at hn; omega⟩
   have e : A ++ ((⟨91, key, [], ((aw l).length : Int) + 1⟩ :: aw l) ++ B) = (A ++ [⟨91, key, [], ((aw l).length : Int) + 1⟩]) ++ (aw l ++ B) := by simp
   rw [cP, uV h rfl, kE (by simp)]
   show (if (91 : UInt8).toNat ≠ 123 ∧ (91 : UInt8).toNat ≠ 91 then _ else (91 : UInt8) :: (fZ _ _ 91 _ 0 ++ [if (91 : UInt8).toNat = 123 then 125 else 93])) = _
   rw [if_neg (by decide), if_neg (by decide)]
   have := uW (f := cP (A ++ ((⟨91, key, [], ((aw l).length : Int) + 1⟩ :: aw l) ++ B)) n) (k0 := 91) (B := B) (g := cH) (fun y => by rw [if_neg (by decide)]; rfl) l (A ++ [⟨91, key, [], ((aw l).length : Int) + 1⟩]) 0 h fun y hy Q R hq hl => by
    rw [e, hq]
    refine ih y hy Q R n ?_
    rw [← hq, ← e]
    simp only [List.length_append, List.length_cons, List.length_nil] at hn hl ⊢
    omega
   rw [List.length_append, List.length_singleton, ← e] at this
   rw [this]
 | obj d key l h hk ht ih =>
   intro A B n hn
   obtain ⟨n, rfl⟩ : ∃ m, n = m + 1 := ⟨n - 1, by simp only [List.length_append, List.length_cons] at hn; omega⟩
   have e : A ++ ((⟨123, key, [], ((aw l).length : Int) + 1⟩ :: aw l) ++ B) = (A ++ [⟨123, key, [], ((aw l).length : Int) + 1⟩]) ++ (aw l ++ B) := by simp
   rw [cP, uV h rfl, kE (by simp)]
   show (if (123 : UInt8).toNat ≠ 123 ∧ (123 : UInt8).toNat ≠ 91 then _ else (123 : UInt8) :: (fZ _ _ 123 _ 0 ++ [if (123 : UInt8).toNat = 123 then 125 else 93])) = _
   rw [if_neg (by decide), if_pos (by decide)]
   have := uW (f := cP (A ++ ((⟨123, key, [], ((aw l).length : Int) + 1⟩ :: aw l) ++ B)) n) (k0 := 123) (B := B) (g := bC) (fun y => by rw [if_pos (by decide), List.append_assoc]; rfl) l (A ++ [⟨123, key, [], ((aw l).length : Int) + 1⟩]) 0 h fun y hy Q R hq hl => by
    rw [e, hq]
    refine ih y hy Q R n ?_
    rw [← hq, ← e]
    simp only [List.length_append, List.length_cons, List.length_nil] at hn hl ⊢
    omega
   rw [List.length_append, List.length_singleton, ← e] at this
   rw [this]
end Go.Proofs.YtllncocibkgjkaaGreat
