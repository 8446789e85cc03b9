/-
  A part of the proof.
-/
import Derived.Test.YtllncocibkgjkaaTRb
import Derived.Test.YtllncocibkgjkaaJTb
set_option linter.unusedSimpArgs false
set_option linter.unusedVariables false
set_option maxHeartbeats 4000000
namespace Go.Proofs.Ytllncocibkgjkaa
open Go Go.VG
set_option maxRecDepth 100000
abbrev It : Type := List Nd × List UInt8
def ig (L : List Nd) : Nd := L.getD 0 default
def aK : List It → List Nd
 | [] => []
 | x :: l => x.1 ++ aK l
def bc (g : It → List UInt8) : List It → Nat → List UInt8
 | [], _ => []
 | x :: l, i => (if i = 0 then [] else [44]) ++ (g x ++ bc g l (i + 1))
def cO (x : It) : List UInt8 := x.2
def bL (x : It) : List UInt8 := quote (ig x.1).key ++ ([58] ++ x.2)
def bV (x : It) : List UInt8 := (ig x.1).key
inductive TT : Nat → List Nd → List UInt8 → Prop
 | leaf (d : Nat) (k : UInt8) (key t : List UInt8) (h : jo ⟨k, t⟩) (hl : dd k = true) : TT d [⟨k, key, t, 1⟩] (bI ⟨k, t⟩)
 | lst (d : Nat) (key : List UInt8) (l : List It) (h : ∀ x ∈ l, TT d x.1 x.2) (hk : ∀ x ∈ l, bV x = []) : TT (d + 1) (⟨91, key, [], (aK l).length + 1⟩ :: aK l) (91 :: (bc cO l 0 ++ [93]))
 | obj (d : Nat) (key : List UInt8) (l : List It) (h : ∀ x ∈ l, TT d x.1 x.2) (hk : (l.map bV).Nodup) (ht : ∀ x ∈ l, cK (bV x)) : TT (d + 1) (⟨123, key, [], (aK l).length + 1⟩ :: aK l) (123 :: (bc bL l 0 ++ [125]))
theorem TT.pos {d : Nat} {L : List Nd} {x : List UInt8} (h : TT d L x) : 1 ≤ L.length ∧ (ig L).sz = L.length := by
 cases h with
 | leaf => exact ⟨Nat.le_refl _, rfl⟩
 | lst => exact ⟨by rw [List.length_cons]; omega, by show ((aK _).length : Int) + 1 = ((aK _).length + 1 : Nat); omega⟩
 | obj => exact ⟨by rw [List.length_cons]; omega, by show ((aK _).length : Int) + 1 = ((aK _).length + 1 : Nat); omega⟩
theorem tR : ∀ (l m : List It), aK (l ++ m) = aK l ++ aK m
 | [], _ => rfl
 | x :: l, m => by show x.1 ++ aK (l ++ m) = (x.1 ++ aK l) ++ aK m; rw [tR l m, List.append_assoc]
theorem yP {l : List It} {x : It} (h : x ∈ l) : x.1.length ≤ (aK l).length := by
 induction l with
 | nil => cases h
 | cons y l ih =>
   show x.1.length ≤ (y.1 ++ aK l).length
   rw [List.length_append]
   rcases List.mem_cons.1 h with rfl | h
   . omega
   . have := ih h; omega
theorem tS {l : List It} {z : Nd} (h : z ∈ aK l) : ∃ x ∈ l, z ∈ x.1 := by
 induction l with
 | nil => cases h
 | cons y l ih =>
   rcases List.mem_append.1 h with h | h
   . exact ⟨y, List.mem_cons_self, h⟩
   . obtain ⟨x, h1, h2⟩ := ih h
     exact ⟨x, List.mem_cons_of_mem _ h1, h2⟩
theorem TT.sz {d : Nat} {L : List Nd} {x : List UInt8} (h : TT d L x) : ∀ z ∈ L, 1 ≤ z.sz ∧ z.sz ≤ L.length := by
 induction h with
 | leaf => intro z hz; rw [List.mem_singleton] at hz; subst hz; exact ⟨Int.le_refl 1, Int.le_refl 1⟩
 | lst d key l h hk ih =>
   intro z hz
   rw [List.length_cons]
   rcases List.mem_cons.1 hz with rfl | hz
   . exact ⟨by show 1 ≤ ((aK l).length : Int) + 1; omega, by show ((aK l).length : Int) + 1 ≤ _; omega⟩
   . obtain ⟨y, hy, hz⟩ := tS hz
     have := ih y hy z hz
     have := yP hy
     omega
 | obj d key l h hk ht ih =>
   intro z hz
   rw [List.length_cons]
   rcases List.mem_cons.1 hz with rfl | hz
   . exact ⟨by show 1 ≤ ((aK l).length : Int) + 1; omega, by show ((aK l).length : Int) + 1 ≤ _; omega⟩
   . obtain ⟨y, hy, hz⟩ := tS hz
     have := ih y hy z hz
     have := yP hy
     omega
def NbL (m : Nat) (L : List Nd) : Prop := ∀ z ∈ L, z.key.length ≤ m ∧ z.t.length ≤ m
theorem tx {g : It → List UInt8} {M e : Nat} : ∀ (l : List It) (i : Nat), (∀ x ∈ l, (g x).length + e ≤ x.1.length * M) → 1 ≤ e → (bc g l i).length ≤ (aK l).length * M
 | [], _, _, _ => by show 0 ≤ _; omega
 | x :: l, i, h, he => by
   have h1 := h x List.mem_cons_self
   have h2 := tx l (i + 1) (fun y hy => h y (List.mem_cons_of_mem _ hy)) he
   show ((if i = 0 then ([] : List UInt8) else [44]) ++ (g x ++ bc g l (i + 1))).length ≤ (x.1 ++ aK l).length * M
   rw [List.length_append, List.length_append, List.length_append, Nat.add_mul]
   have : (if i = 0 then ([] : List UInt8) else [44]).length ≤ 1 := by split <;> simp
   omega
theorem G1 {L : List Nd} (h : 1 ≤ L.length) : ig L ∈ L := by
 cases L with
 | nil => simp at h
 | cons x L => exact List.mem_cons_self
theorem TT.len {m d : Nat} {L : List Nd} {x : List UInt8} (h : TT d L x) : NbL m L → x.length + (6 * m + 10) ≤ L.length * (12 * m + 30) := by
 induction h with
 | leaf d k key t h hl =>
   intro hb
   have h1 := K9 ⟨k, t⟩
   have h2 := (hb ⟨k, key, t, 1⟩ List.mem_cons_self).2
   have h2 : t.length ≤ m := h2
   have h1 : (bI ⟨k, t⟩).length ≤ 6 * t.length + 5 := h1
   rw [List.length_singleton]; omega
 | lst d key l h hk ih =>
   intro hb
   have hc := tx (g := cO) (M := 12 * m + 30) (e := 6 * m + 10) l 0 (fun y hy => ih y hy fun z hz => hb z (List.mem_cons_of_mem _ (by
    clear ih hk h hb
    induction l with
    | nil => cases hy
    | cons w l ih =>
      rcases List.mem_cons.1 hy with rfl | hy
      . exact List.mem_append.2 (.inl hz)
      . exact List.mem_append.2 (.inr (ih hy))))) (by omega)
   rw [List.length_cons, List.length_cons, List.length_append, List.length_singleton, Nat.add_mul]
   omega
 | obj d key l h hk ht ih =>
   intro hb
   have hin : ∀ y ∈ l, ∀ z ∈ y.1, z ∈ aK l := fun y hy z hz => by
    clear ih hk ht h hb
    induction l with
    | nil => cases hy
    | cons w l ih =>
      rcases List.mem_cons.1 hy with rfl | hy
      . exact List.mem_append.2 (.inl hz)
      . exact List.mem_append.2 (.inr (ih hy))
   have hc := tx (g := bL) (M := 12 * m + 30) (e := 1) l 0 (fun y hy => by
    have h1 := ih y hy fun z hz => hb z (List.mem_cons_of_mem _ (hin y hy z hz))
    have h2 := (hb (ig y.1) (List.mem_cons_of_mem _ (hin y hy _ (G1 (h y hy).pos.1)))).1
    have h3 := rU (ig y.1).key
    show (quote (ig y.1).key ++ ([58] ++ y.2)).length + 1 ≤ _
    rw [List.length_append, List.length_append, List.length_singleton]
    omega) (by omega)
   rw [List.length_cons, List.length_cons, List.length_append, List.length_singleton, Nat.add_mul]
   omega
def il (L : List Nd) (e : Nat) : Nat → Nat → List Nat
 | 0, _ => []
 | n + 1, k => if k < e then k :: il L e n (k + (L.getD k default).sz.toNat) else []
def ik (L : List Nd) (a : Nat) : Nat := min L.length (a + (L.getD a default).sz.toNat)
def aM (L : List Nd) (a : Nat) : List Nat := il L (ik L a) L.length (a + 1)
def er (L : List Nd) (a : Int) : List Nat := if 0 ≤ a ∧ a < L.length then aM L a.toNat else []
def eH (f : Nat → List UInt8) (L : List Nd) (k0 : UInt8) : List Nat → Nat → List UInt8
 | [], _ => []
 | k :: ks, i => (if i = 0 then [] else [44]) ++ ((if k0.toNat = 123 then quote (L.getD k default).key ++ [58] else []) ++ (f k ++ eH f L k0 ks (i + 1)))
def bq (L : List Nd) : Nat → Nat → List UInt8
 | 0, _ => []
 | n + 1, a =>
   if (L.getD a default).k.toNat ≠ 123 ∧ (L.getD a default).k.toNat ≠ 91 then bI ⟨(L.getD a default).k, (L.getD a default).t⟩
   else (L.getD a default).k :: (eH (bq L n) L (L.getD a default).k (aM L a) 0 ++ [if (L.getD a default).k.toNat = 123 then 125 else 93])
def qh : Nat → List It → List Nat
 | _, [] => []
 | p, x :: l => p :: qh (p + x.1.length) l
theorem nB {P L B : List Nd} (h : 1 ≤ L.length) : (P ++ (L ++ B)).getD P.length default = ig L := by
 rw [List.getD_eq_getElem?_getD, List.getElem?_append_right (Nat.le_refl _), Nat.sub_self, List.getElem?_append_left (by omega)]
 unfold ig
 rw [List.getD_eq_getElem?_getD]
theorem zM {d : Nat} : ∀ (l : List It) (P B : List Nd) (n : Nat), (∀ x ∈ l, TT d x.1 x.2) → l.length ≤ n → il (P ++ (aK l ++ B)) (P.length + (aK l).length) n P.length = qh P.length l
 | [], P, B, n, _, _ => by
   cases n with
   | zero => rfl
   | succ n => rw [il, if_neg (by show ¬ P.length < P.length + 0; omega)]; rfl
 | x :: l, P, B, 0, _, h => by simp at h
 | x :: l, P, B, n + 1, ht, h => by
   obtain ⟨h1, h2⟩ := (ht x List.mem_cons_self).pos
   have e : P ++ (aK (x :: l) ++ B) = P ++ (x.1 ++ (aK l ++ B)) := by show P ++ ((x.1 ++ aK l) ++ B) = _; rw [List.append_assoc]
   have e2 : P ++ (aK (x :: l) ++ B) = (P ++ x.1) ++ (aK l ++ B) := by rw [e, List.append_assoc]
   have hl : (aK (x :: l)).length = x.1.length + (aK l).length := by show (x.1 ++ aK l).length = _; rw [List.length_append]
   rw [il, if_pos (by omega), e, nB h1, h2, ← e, Int.toNat_natCast, e2]
   have := zM l (P ++ x.1) B n (fun y hy => ht y (List.mem_cons_of_mem _ hy)) (by simp at h; omega)
   rw [List.length_append] at this
   rw [show P.length + (aK (x :: l)).length = P.length + x.1.length + (aK l).length by omega, this]
   rfl
theorem yO {d : Nat} : ∀ (l : List It), (∀ x ∈ l, TT d x.1 x.2) → l.length ≤ (aK l).length
 | [], _ => Nat.le_refl _
 | x :: l, h => by
   have h1 := (h x List.mem_cons_self).pos.1
   have h2 := yO l fun y hy => h y (List.mem_cons_of_mem _ hy)
   show l.length + 1 ≤ (x.1 ++ aK l).length
   rw [List.length_append]; omega
theorem zK {d : Nat} {l : List It} {A B : List Nd} {N : Nd} (h : ∀ x ∈ l, TT d x.1 x.2) (hs : N.sz = (aK l).length + 1) : aM (A ++ ((N :: aK l) ++ B)) A.length = qh (A.length + 1) l := by
 have hf := yO l h
 have e : A ++ ((N :: aK l) ++ B) = (A ++ [N]) ++ (aK l ++ B) := by simp
 have hN : (A ++ ((N :: aK l) ++ B)).getD A.length default = N := nB (L := N :: aK l) (by simp)
 have hk := zM l (A ++ [N]) B (A ++ ((N :: aK l) ++ B)).length h (by simp; omega)
 unfold aM ik
 rw [hN, hs]
 rw [List.length_append, List.length_singleton, ← e] at hk
 rw [show min (A ++ ((N :: aK l) ++ B)).length (A.length + (((aK l).length : Int) + 1).toNat) = A.length + 1 + (aK l).length by
  simp only [List.length_append, List.length_cons]; omega]
 exact hk
theorem uw {d : Nat} {f : Nat → List UInt8} {k0 : UInt8} {B : List Nd} {g : It → List UInt8} (hg : ∀ x, g x = (if k0.toNat = 123 then quote (ig x.1).key ++ [58] else []) ++ x.2) :
   ∀ (l : List It) (P : List Nd) (i : Nat), (∀ x ∈ l, TT d x.1 x.2) → (∀ x ∈ l, ∀ Q R, P ++ (aK l ++ B) = Q ++ (x.1 ++ R) → P.length ≤ Q.length → f Q.length = x.2) →
   eH f (P ++ (aK l ++ B)) k0 (qh P.length l) i = bc g l i
 | [], _, _, _, _ => rfl
 | x :: l, P, i, ht, hf => by
   have h1 := (ht x List.mem_cons_self).pos.1
   have e : P ++ (aK (x :: l) ++ B) = P ++ (x.1 ++ (aK l ++ B)) := by show P ++ ((x.1 ++ aK l) ++ B) = _; rw [List.append_assoc]
   have e2 : P ++ (aK (x :: l) ++ B) = (P ++ x.1) ++ (aK l ++ B) := by rw [e, List.append_assoc]
   have hx := hf x List.mem_cons_self P (aK l ++ B) e (Nat.le_refl _)
   have ih := uw (f := f) (B := B) hg l (P ++ x.1) (i + 1) (fun y hy => ht y (List.mem_cons_of_mem _ hy)) fun y hy Q R hq hl => hf y (List.mem_cons_of_mem _ hy) Q R (by rw [e2, hq]) (by rw [List.length_append] at hl; omega)
   rw [List.length_append, ← e2] at ih
   show (if i = 0 then ([] : List UInt8) else [44]) ++ ((if k0.toNat = 123 then quote ((P ++ (aK (x :: l) ++ B)).getD P.length default).key ++ [58] else []) ++ (f P.length ++ eH f (P ++ (aK (x :: l) ++ B)) k0 (qh (P.length + x.1.length) l) (i + 1))) = (if i = 0 then ([] : List UInt8) else [44]) ++ (g x ++ bc g l (i + 1))
   rw [ih, hx, e, nB h1, hg]
   simp only [List.append_assoc]
theorem TT.put {d : Nat} {L : List Nd} {x : List UInt8} (h : TT d L x) : ∀ (A B : List Nd) (n : Nat), (A ++ (L ++ B)).length - A.length ≤ n → bq (A ++ (L ++ B)) n A.length = x := by
 induction h with
 | leaf d k key t h hl =>
   intro A B n hn
   obtain ⟨n, rfl⟩ : ∃ m, n = m + 1 := ⟨n - 1, by simp only [List.length_append, List.length_singleton] at hn; omega⟩
   rw [bq, nB (by simp)]
   show (if k.toNat ≠ 123 ∧ k.toNat ≠ 91 then bI ⟨k, t⟩ else _) = _
   have : k.toNat = 115 ∨ k.toNat = 110 ∨ k.toNat = 116 ∨ k.toNat = 102 ∨ k.toNat = 122 := of_decide_eq_true hl
   rw [if_pos (by omega)]
 | lst d key l h hk ih =>
   intro A B n hn
   obtain ⟨n, rfl⟩ : ∃ m, n = m + 1 := ⟨n - 1, by simp only [List.length_append, List.length_cons] at hn; omega⟩
   have e : A ++ ((⟨91, key, [], ((aK l).length : Int) + 1⟩ :: aK l) ++ B) = (A ++ [⟨91, key, [], ((aK l).length : Int) + 1⟩]) ++ (aK l ++ B) := by simp
   rw [bq, zK h rfl, nB (by simp)]
   show (if (91 : UInt8).toNat ≠ 123 ∧ (91 : UInt8).toNat ≠ 91 then _ else (91 : UInt8) :: (eH _ _ 91 _ 0 ++ [if (91 : UInt8).toNat = 123 then 125 else 93])) = _
   rw [if_neg (by decide), if_neg (by decide)]
   have := uw (f := bq (A ++ ((⟨91, key, [], ((aK l).length : Int) + 1⟩ :: aK l) ++ B)) n) (k0 := 91) (B := B) (g := cO) (fun y => by rw [if_neg (by decide)]; rfl) l (A ++ [⟨91, key, [], ((aK l).length : Int) + 1⟩]) 0 h fun y hy Q R hq hl => by
    rw [e, hq]
    refine ih y hy Q R n ?_
    rw [← hq, ← e]
    simp only [List.length_append, List.length_cons, List.length_nil] at hn hl ⊢
    omega
   rw [List.length_append, List.length_singleton, ← e] at this
   rw [this]
 | obj d key l h hk ht ih =>
   intro A B n hn
   obtain ⟨n, rfl⟩ : ∃ m, n = m + 1 := ⟨n - 1, by simp only [List.length_append, List.length_cons] at hn; omega⟩
   have e : A ++ ((⟨123, key, [], ((aK l).length : Int) + 1⟩ :: aK l) ++ B) = (A ++ [⟨123, key, [], ((aK l).length : Int) + 1⟩]) ++ (aK l ++ B) := by simp
   rw [bq, zK h rfl, nB (by simp)]
   show (if (123 : UInt8).toNat ≠ 123 ∧ (123 : UInt8).toNat ≠ 91 then _ else (123 : UInt8) :: (eH _ _ 123 _ 0 ++ [if (123 : UInt8).toNat = 123 then 125 else 93])) = _
   rw [if_neg (by decide), if_pos (by decide)]
   have := uw (f := bq (A ++ ((⟨123, key, [], ((aK l).length : Int) + 1⟩ :: aK l) ++ B)) n) (k0 := 123) (B := B) (g := bL) (fun y => by rw [if_pos (by decide), List.append_assoc]; rfl) l (A ++ [⟨123, key, [], ((aK l).length : Int) + 1⟩]) 0 h fun y hy Q R hq hl => by
    rw [e, hq]
    refine ih y hy Q R n ?_
    rw [← hq, ← e]
    simp only [List.length_append, List.length_cons, List.length_nil] at hn hl ⊢
    omega
   rw [List.length_append, List.length_singleton, ← e] at this
   rw [this]
end Go.Proofs.Ytllncocibkgjkaa
