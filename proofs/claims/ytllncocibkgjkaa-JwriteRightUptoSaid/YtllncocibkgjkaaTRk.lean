/-
  A part of the proof.
-/
import Derived.Test.YtllncocibkgjkaaTRb
import Derived.Test.YtllncocibkgjkaaJTb
set_option linter.unusedSimpArgs false
set_option linter.unusedVariables false
set_option maxHeartbeats 4000000
namespace Go.Proofs.Ytllncocibkgjkaa
open Go Go.VG
set_option maxRecDepth 100000
abbrev It : Type := List Nd × List UInt8
def gu (L : List Nd) : Nd := L.getD 0 default
def aH : List It → List Nd
 | [] => []
 | x :: l => x.1 ++ aH l
def aC (g : It → List UInt8) : List It → Nat → List UInt8
 | [], _ => []
 | x :: l, i => (if i = 0 then [] else [44]) ++ (g x ++ aC g l (i + 1))
def bc (x : It) : List UInt8 := x.2
def aN (x : It) : List UInt8 := quote (gu x.1).key ++ ([58] ++ x.2)
def bU (x : It) : List UInt8 := (gu x.1).key
inductive TT : Nat → List Nd → List UInt8 → Prop
 | leaf (d : Nat) (k : UInt8) (key t : List UInt8) (h : lg ⟨k, t⟩) (hl : eQ k = true) : TT d [⟨k, key, t, 1⟩] (bG ⟨k, t⟩)
 | lst (d : Nat) (key : List UInt8) (l : List It) (h : ∀ x ∈ l, TT d x.1 x.2) (hk : ∀ x ∈ l, bU x = []) : TT (d + 1) (⟨91, key, [], (aH l).length + 1⟩ :: aH l) (91 :: (aC bc l 0 ++ [93]))
 | obj (d : Nat) (key : List UInt8) (l : List It) (h : ∀ x ∈ l, TT d x.1 x.2) (hk : (l.map bU).Nodup) (ht : ∀ x ∈ l, gP (bU x)) : TT (d + 1) (⟨123, key, [], (aH l).length + 1⟩ :: aH l) (123 :: (aC aN l 0 ++ [125]))
theorem TT.pos {d : Nat} {L : List Nd} {x : List UInt8} (h : TT d L x) : 1 ≤ L.length ∧ (gu L).sz = L.length := by
 cases h with
 | leaf => exact ⟨Nat.le_refl _, rfl⟩
 | lst => exact ⟨by rw [List.length_cons]; omega, by show ((aH _).length : Int) + 1 = ((aH _).length + 1 : Nat); omega⟩
 | obj => exact ⟨by rw [List.length_cons]; omega, by show ((aH _).length : Int) + 1 = ((aH _).length + 1 : Nat); omega⟩
theorem xx {l : List It} {x : It} (h : x ∈ l) : x.1.length ≤ (aH l).length := by
 induction l with
 | nil => cases h
 | cons y l ih =>
   show x.1.length ≤ (y.1 ++ aH l).length
   rw [List.length_append]
   rcases List.mem_cons.1 h with rfl | h
   . omega
   . have := ih h; omega
theorem qu {l : List It} {z : Nd} (h : z ∈ aH l) : ∃ x ∈ l, z ∈ x.1 := by
 induction l with
 | nil => cases h
 | cons y l ih =>
   rcases List.mem_append.1 h with h | h
   . exact ⟨y, List.mem_cons_self, h⟩
   . obtain ⟨x, h1, h2⟩ := ih h
     exact ⟨x, List.mem_cons_of_mem _ h1, h2⟩
theorem TT.sz {d : Nat} {L : List Nd} {x : List UInt8} (h : TT d L x) : ∀ z ∈ L, 1 ≤ z.sz ∧ z.sz ≤ L.length := by
 induction h with
 | leaf => intro z hz; rw [List.mem_singleton] at hz; subst hz; exact ⟨Int.le_refl 1, Int.le_refl 1⟩
 | lst d key l h hk ih =>
   intro z hz
   rw [List.length_cons]
   rcases List.mem_cons.1 hz with rfl | hz
   . exact ⟨by show 1 ≤ ((aH l).length : Int) + 1; omega, by show ((aH l).length : Int) + 1 ≤ _; omega⟩
   . obtain ⟨y, hy, hz⟩ := qu hz
     have := ih y hy z hz
     have := xx hy
     omega
 | obj d key l h hk ht ih =>
   intro z hz
   rw [List.length_cons]
   rcases List.mem_cons.1 hz with rfl | hz
   . exact ⟨by show 1 ≤ ((aH l).length : Int) + 1; omega, by show ((aH l).length : Int) + 1 ≤ _; omega⟩
   . obtain ⟨y, hy, hz⟩ := qu hz
     have := ih y hy z hz
     have := xx hy
     omega
def gV (L : List Nd) (e : Nat) : Nat → Nat → List Nat
 | 0, _ => []
 | n + 1, k => if k < e then k :: gV L e n (k + (L.getD k default).sz.toNat) else []
def ij (L : List Nd) (a : Nat) : Nat := min L.length (a + (L.getD a default).sz.toNat)
def bk (L : List Nd) (a : Nat) : List Nat := gV L (ij L a) L.length (a + 1)
def nh (L : List Nd) (a : Int) : List Nat := if 0 ≤ a ∧ a < L.length then bk L a.toNat else []
def fv (f : Nat → List UInt8) (L : List Nd) (k0 : UInt8) : List Nat → Nat → List UInt8
 | [], _ => []
 | k :: ks, i => (if i = 0 then [] else [44]) ++ ((if k0.toNat = 123 then quote (L.getD k default).key ++ [58] else []) ++ (f k ++ fv f L k0 ks (i + 1)))
def cn (L : List Nd) : Nat → Nat → List UInt8
 | 0, _ => []
 | n + 1, a =>
   if (L.getD a default).k.toNat ≠ 123 ∧ (L.getD a default).k.toNat ≠ 91 then bG ⟨(L.getD a default).k, (L.getD a default).t⟩
   else (L.getD a default).k :: (fv (cn L n) L (L.getD a default).k (bk L a) 0 ++ [if (L.getD a default).k.toNat = 123 then 125 else 93])
def pD : Nat → List It → List Nat
 | _, [] => []
 | p, x :: l => p :: pD (p + x.1.length) l
theorem mY {P L B : List Nd} (h : 1 ≤ L.length) : (P ++ (L ++ B)).getD P.length default = gu L := by
 rw [List.getD_eq_getElem?_getD, List.getElem?_append_right (Nat.le_refl _), Nat.sub_self, List.getElem?_append_left (by omega)]
 unfold gu
 rw [List.getD_eq_getElem?_getD]
theorem yy {d : Nat} : ∀ (l : List It) (P B : List Nd) (n : Nat), (∀ x ∈ l, TT d x.1 x.2) → l.length ≤ n → gV (P ++ (aH l ++ B)) (P.length + (aH l).length) n P.length = pD P.length l
 | [], P, B, n, _, _ => by
   cases n with
   | zero => rfl
   | succ n => rw [gV, if_neg (by show ¬ P.length < P.length + 0; omega)]; rfl
 | x :: l, P, B, 0, _, h => by simp at h
 | x :: l, P, B, n + 1, ht, h => by
   obtain ⟨h1, h2⟩ := (ht x List.mem_cons_self).pos
   have e : P ++ (aH (x :: l) ++ B) = P ++ (x.1 ++ (aH l ++ B)) := by show P ++ ((x.1 ++ aH l) ++ B) = _; rw [List.append_assoc]
   have e2 : P ++ (aH (x :: l) ++ B) = (P ++ x.1) ++ (aH l ++ B) := by rw [e, List.append_assoc]
   have hl : (aH (x :: l)).length = x.1.length + (aH l).length := by show (x.1 ++ aH l).length = _; rw [List.length_append]
   rw [gV, if_pos (by omega), e, mY h1, h2, ← e, Int.toNat_natCast, e2]
   have := yy l (P ++ x.1) B n (fun y hy => ht y (List.mem_cons_of_mem _ hy)) (by simp at h; omega)
   rw [List.length_append] at this
   rw [show P.length + (aH (x :: l)).length = P.length + x.1.length + (aH l).length by omega, this]
   rfl
theorem xw {d : Nat} : ∀ (l : List It), (∀ x ∈ l, TT d x.1 x.2) → l.length ≤ (aH l).length
 | [], _ => Nat.le_refl _
 | x :: l, h => by
   have h1 := (h x List.mem_cons_self).pos.1
   have h2 := xw l fun y hy => h y (List.mem_cons_of_mem _ hy)
   show l.length + 1 ≤ (x.1 ++ aH l).length
   rw [List.length_append]; omega
theorem yx {d : Nat} {l : List It} {A B : List Nd} {N : Nd} (h : ∀ x ∈ l, TT d x.1 x.2) (hs : N.sz = (aH l).length + 1) : bk (A ++ ((N :: aH l) ++ B)) A.length = pD (A.length + 1) l := by
 have hf := xw l h
 have e : A ++ ((N :: aH l) ++ B) = (A ++ [N]) ++ (aH l ++ B) := by simp
 have hN : (A ++ ((N :: aH l) ++ B)).getD A.length default = N := mY (L := N :: aH l) (by simp)
 have hk := yy l (A ++ [N]) B (A ++ ((N :: aH l) ++ B)).length h (by simp; omega)
 unfold bk ij
 rw [hN, hs]
 rw [List.length_append, List.length_singleton, ← e] at hk
 rw [show min (A ++ ((N :: aH l) ++ B)).length (A.length + (((aH l).length : Int) + 1).toNat) = A.length + 1 + (aH l).length by
  simp only [List.length_append, List.length_cons]; omega]
 exact hk
theorem tD {d : Nat} {f : Nat → List UInt8} {k0 : UInt8} {B : List Nd} {g : It → List UInt8} (hg : ∀ x, g x = (if k0.toNat = 123 then quote (gu x.1).key ++ [58] else []) ++ x.2) :
   ∀ (l : List It) (P : List Nd) (i : Nat), (∀ x ∈ l, TT d x.1 x.2) → (∀ x ∈ l, ∀ Q R, P ++ (aH l ++ B) = Q ++ (x.1 ++ R) → P.length ≤ Q.length → f Q.length = x.2) →
   fv f (P ++ (aH l ++ B)) k0 (pD P.length l) i = aC g l i
 | [], _, _, _, _ => rfl
 | x :: l, P, i, ht, hf => by
   have h1 := (ht x List.mem_cons_self).pos.1
   have e : P ++ (aH (x :: l) ++ B) = P ++ (x.1 ++ (aH l ++ B)) := by show P ++ ((x.1 ++ aH l) ++ B) = _; rw [List.append_assoc]
   have e2 : P ++ (aH (x :: l) ++ B) = (P ++ x.1) ++ (aH l ++ B) := by rw [e, List.append_assoc]
   have hx := hf x List.mem_cons_self P (aH l ++ B) e (Nat.le_refl _)
   have ih := tD (f := f) (B := B) hg l (P ++ x.1) (i + 1) (fun y hy => ht y (List.mem_cons_of_mem _ hy)) fun y hy Q R hq hl => hf y (List.mem_cons_of_mem _ hy) Q R (by rw [e2, hq]) (by rw [List.length_append] at hl; omega)
   rw [List.length_append, ← e2] at ih
   show (if i = 0 then ([] : List UInt8) else [44]) ++ ((if k0.toNat = 123 then quote ((P ++ (aH (x :: l) ++ B)).getD P.length default).key ++ [58] else []) ++ (f P.length ++ fv f (P ++ (aH (x :: l) ++ B)) k0 (pD (P.length + x.1.length) l) (i + 1))) = (if i = 0 then ([] : List UInt8) else [44]) ++ (g x ++ aC g l (i + 1))
   rw [ih, hx, e, mY h1, hg]
   simp only [List.append_assoc]
theorem TT.put {d : Nat} {L : List Nd} {x : List UInt8} (h : TT d L x) : ∀ (A B : List Nd) (n : Nat), (A ++ (L ++ B)).length - A.length ≤ n → cn (A ++ (L ++ B)) n A.length = x := by
 induction h with
 | leaf d k key t h hl =>
   intro A B n hn
   obtain ⟨n, rfl⟩ : ∃ m, n = m + 1 := ⟨n - 1, by simp only [List.length_append, List.length_singleton] at hn; omega⟩
   rw [cn, mY (by simp)]
   show (if k.toNat ≠ 123 ∧ k.toNat ≠ 91 then bG ⟨k, t⟩ else _) = _
   have : k.toNat = 115 ∨ k.toNat = 110 ∨ k.toNat = 116 ∨ k.toNat = 102 ∨ k.toNat = 122 := of_decide_eq_true hl
   rw [if_pos (by omega)]
 | lst d key l h hk ih =>
   intro A B n hn
   obtain ⟨n, rfl⟩ : ∃ m, n = m + 1 := ⟨n - 1, by simp only [List.length_append, List.length_cons] at hn; omega⟩
   have e : A ++ ((⟨91, key, [], ((aH l).length : Int) + 1⟩ :: aH l) ++ B) = (A ++ [⟨91, key, [], ((aH l).length : Int) + 1⟩]) ++ (aH l ++ B) := by simp
   rw [cn, yx h rfl, mY (by simp)]
   show (if (91 : UInt8).toNat ≠ 123 ∧ (91 : UInt8).toNat ≠ 91 then _ else (91 : UInt8) :: (fv _ _ 91 _ 0 ++ [if (91 : UInt8).toNat = 123 then 125 else 93])) = _
   rw [if_neg (by decide), if_neg (by decide)]
   have := tD (f := cn (A ++ ((⟨91, key, [], ((aH l).length : Int) + 1⟩ :: aH l) ++ B)) n) (k0 := 91) (B := B) (g := bc) (fun y => by rw [if_neg (by decide)]; rfl) l (A ++ [⟨91, key, [], ((aH l).length : Int) + 1⟩]) 0 h fun y hy Q R hq hl => by
    rw [e, hq]
    refine ih y hy Q R n ?_
    rw [← hq, ← e]
    simp only [List.length_append, List.length_cons, List.length_nil] at hn hl ⊢
    omega
   rw [List.length_append, List.length_singleton, ← e] at this
   rw [this]
 | obj d key l h hk ht ih =>
   intro A B n hn
   obtain ⟨n, rfl⟩ : ∃ m, n = m + 1 := ⟨n - 1, by simp only [List.length_append, List.length_cons] at hn; omega⟩
   have e : A ++ ((⟨123, key, [], ((aH l).length : Int) + 1⟩ :: aH l) ++ B) = (A ++ [⟨123, key, [], ((aH l).length : Int) + 1⟩]) ++ (aH l ++ B) := by simp
   rw [cn, yx h rfl, mY (by simp)]
   show (if (123 : UInt8).toNat ≠ 123 ∧ (123 : UInt8).toNat ≠ 91 then _ else (123 : UInt8) :: (fv _ _ 123 _ 0 ++ [if (123 : UInt8).toNat = 123 then 125 else 93])) = _
   rw [if_neg (by decide), if_pos (by decide)]
   have := tD (f := cn (A ++ ((⟨123, key, [], ((aH l).length : Int) + 1⟩ :: aH l) ++ B)) n) (k0 := 123) (B := B) (g := aN) (fun y => by rw [if_pos (by decide), List.append_assoc]; rfl) l (A ++ [⟨123, key, [], ((aH l).length : Int) + 1⟩]) 0 h fun y hy Q R hq hl => by
    rw [e, hq]
    refine ih y hy Q R n ?_
    rw [← hq, ← e]
    simp only [List.length_append, List.length_cons, List.length_nil] at hn hl ⊢
    omega
   rw [List.length_append, List.length_singleton, ← e] at this
   rw [this]
end Go.Proofs.Ytllncocibkgjkaa
