/-
  A part of the proof.
-/
import Derived.Test.YtipejldppicijaaGreatDoorLeft
import Derived.Test.YtipejldppicijaaGreatDoorTxt0
set_option linter.unusedSimpArgs false
set_option linter.unusedVariables false
set_option maxHeartbeats 4000000
namespace Go.Proofs.YtipejldppicijaaGreatDoor
open Go Go.VG
set_option maxRecDepth 100000
def hM (n : Int) : List UInt8 := if n = 0 then [102, 97, 108, 115, 101] else [116, 114, 117, 101]
def iL (b : Int) : List UInt8 := [48, 120] ++ cP (be 8 b.toNat)
mutual
def json : af → List UInt8
 | .mk k t n b l m => if k = 0 then [110, 117, 108, 108] else if k = 1 then quote t else if k = 2 then hM n else if k = 3 then dr n else if k = 4 then quote (iL b) else if k = 5 then quote (cP t)
   else if k = 6 then 91 :: (eR l ++ [93]) else if k = 7 then 123 :: (eS m ++ [125]) else []
def eR : List af → List UInt8
 | [] => []
 | v :: r => json v ++ gp r
def gp : List af → List UInt8
 | [] => []
 | v :: r => 44 :: (json v ++ gp r)
def lj : aw → List UInt8
 | .mk k v => quote k ++ 58 :: json v
def eS : List aw → List UInt8
 | [] => []
 | a :: r => lj a ++ gq r
def gq : List aw → List UInt8
 | [] => []
 | a :: r => 44 :: (lj a ++ gq r)
end
theorem xE (v : af) : json v = if v.kind = 0 then [110, 117, 108, 108] else if v.kind = 1 then quote v.text else if v.kind = 2 then hM v.num else if v.kind = 3 then dr v.num else if v.kind = 4 then quote (iL v.bits)
   else if v.kind = 5 then quote (cP v.text) else if v.kind = 6 then 91 :: (eR v.list ++ [93]) else if v.kind = 7 then 123 :: (eS v.map ++ [125]) else [] := by
 cases v; simp only [json, af.kind, af.text, af.num, af.bits, af.list, af.map]; rfl
theorem xw (a : aw) : lj a = quote a.key ++ 58 :: json a.value := by cases a; simp only [lj, aw.key, aw.value]
theorem xy : ∀ (l m : List af), gp (l ++ m) = gp l ++ gp m
 | [], _ => by simp [gp]
 | v :: r, m => by simp [gp, xy r m]
theorem xB : ∀ (l m : List aw), gq (l ++ m) = gq l ++ gq m
 | [], _ => by simp [gq]
 | v :: r, m => by simp [gq, xB r m]
theorem zY {α : Type} [Inhabited α] {s : List α} {i : Nat} (h : i < s.length) : s.take (i + 1) = s.take i ++ [s.getD i default] := by
 rw [List.take_add_one, List.getD_eq_getElem?_getD, List.getElem?_eq_getElem h]; rfl
theorem xA {l : List af} {i : Nat} (h : i < l.length) : eR (l.take (i + 1)) = eR (l.take i) ++ ((if i = 0 then [] else [44]) ++ json (l.getD i default)) := by
 cases l with
 | nil => simp at h
 | cons v r =>
   cases i with
   | zero => simp [eR, gp]
   | succ i =>
     rw [show (v :: r).take (i + 1 + 1) = v :: r.take (i + 1) from rfl, show (v :: r).take (i + 1) = v :: r.take i from rfl, eR, eR, zY (by simpa using h), xy]
     simp [gp]
theorem xD {l : List aw} {i : Nat} (h : i < l.length) : eS (l.take (i + 1)) = eS (l.take i) ++ ((if i = 0 then [] else [44]) ++ lj (l.getD i default)) := by
 cases l with
 | nil => simp at h
 | cons v r =>
   cases i with
   | zero => simp [eS, gq]
   | succ i =>
     rw [show (v :: r).take (i + 1 + 1) = v :: r.take (i + 1) from rfl, show (v :: r).take (i + 1) = v :: r.take i from rfl, eS, eS, zY (by simpa using h), xB]
     simp [gq]
def simple (v : af) : List UInt8 := if v.kind = 1 then v.text else if v.kind = 2 then hM v.num else if v.kind = 3 then dr v.num else if v.kind = 4 then iL v.bits else if v.kind = 5 then cP v.text else []
def text (v : af) : List UInt8 := if v.kind = 6 ∨ v.kind = 7 then json v else simple v
mutual
def af.size : af → Nat
 | .mk _ t _ _ l m => 1 + t.length + dG l + cF m
def dG : List af → Nat
 | [] => 0
 | v :: r => v.size + dG r
def aw.size : aw → Nat
 | .mk k v => k.length + v.size
def cF : List aw → Nat
 | [] => 0
 | a :: r => a.size + cF r
end
theorem size_eq (v : af) : v.size = 1 + v.text.length + dG v.list + cF v.map := by cases v; simp [af.size, af.text, af.list, af.map]
theorem u5 (a : aw) : a.size = a.key.length + a.value.size := by cases a; simp [aw.size, aw.key, aw.value]
theorem I8 {l : List af} {i : Nat} (h : i < l.length) : (l.getD i default).size ≤ dG l := by
 induction l generalizing i with
 | nil => simp at h
 | cons v r ih =>
   cases i with
   | zero => simp [dG]
   | succ i => have := ih (i := i) (by simpa using h); simp only [dG, List.getD_cons_succ]; omega
theorem zy {l : List aw} {i : Nat} (h : i < l.length) : (l.getD i default).key.length + (l.getD i default).value.size ≤ cF l := by
 induction l generalizing i with
 | nil => simp at h
 | cons v r ih =>
   cases i with
   | zero => simp [cF, u5]
   | succ i => have := ih (i := i) (by simpa using h); simp only [cF, List.getD_cons_succ]; omega
mutual
theorem yk : ∀ (v : af) (n : Int), 0 ≤ left v n → (v.size : Int) + left v n ≤ n
 | .mk k t m b l a, n, h => by
   simp only [left] at h ⊢
   split at h
   . omega
   . rename_i hh
     rw [if_neg hh]
     have h1 : 0 ≤ d6 l (n - 1 - t.length) := by
      by_cases hc : d6 l (n - 1 - t.length) < 0
      . rw [qK _ _ hc] at h; omega
      . omega
     have h2 := yl l _ h1
     have h3 := tk a _ h
     simp only [af.size]; omega
theorem yl : ∀ (l : List af) (n : Int), 0 ≤ d6 l n → (dG l : Int) + d6 l n ≤ n
 | [], n, h => by simp [d6, dG]
 | v :: r, n, h => by
   simp only [d6] at h ⊢
   split at h
   . omega
   . rename_i hh
     rw [if_neg hh]
     have h1 : 0 ≤ left v n := by
      by_cases hc : left v n < 0
      . rw [yg _ _ hc] at h; omega
      . omega
     have h2 := yk v n h1
     have h3 := yl r _ h
     simp only [dG]; omega
theorem G4 : ∀ (a : aw) (n : Int), 0 ≤ fE a n → (a.size : Int) + fE a n ≤ n
 | .mk k v, n, h => by
   simp only [fE] at h ⊢
   split at h
   . omega
   . rename_i hh
     rw [if_neg hh]
     have := yk v _ h
     simp only [aw.size]; omega
theorem tk : ∀ (l : List aw) (n : Int), 0 ≤ cy l n → (cF l : Int) + cy l n ≤ n
 | [], n, h => by simp [cy, cF]
 | v :: r, n, h => by
   simp only [cy] at h ⊢
   split at h
   . omega
   . rename_i hh
     rw [if_neg hh]
     have h1 : 0 ≤ fE v n := by
      by_cases hc : fE v n < 0
      . rw [qK _ _ hc] at h; omega
      . omega
     have h2 := G4 v n h1
     have h3 := tk r _ h
     simp only [cF]; omega
end
mutual
def af.ok : af → Prop
 | .mk k _ n b l m => (0 ≤ k ∧ k ≤ 255) ∧ (-9223372036854775808 ≤ n ∧ n ≤ 9223372036854775807) ∧ (0 ≤ b ∧ b ≤ 18446744073709551615) ∧ dW l ∧ dX m
def dW : List af → Prop
 | [] => True
 | v :: r => v.ok ∧ dW r
def aw.ok : aw → Prop
 | .mk _ v => v.ok
def dX : List aw → Prop
 | [] => True
 | a :: r => a.ok ∧ dX r
end
mutual
theorem GG : ∀ v : af, (i6 v).wf → v.ok
 | .mk k t n b l m, h => by
   simp only [i6, V.wf, V.bR] at h
   obtain ⟨h1, h2, h3, h4, ⟨_, h5⟩, ⟨_, h6⟩, _⟩ := h
   simp only [af.ok]
   exact ⟨h1, h3, h4, tG l h5, tI m h6⟩
theorem tG : ∀ l : List af, V.bR (dE l) → dW l
 | [], _ => by simp [dW]
 | v :: r, h => by
   simp only [dE, V.bR] at h
   simp only [dW]
   exact ⟨GG v h.1, tG r h.2⟩
theorem yH : ∀ a : aw, (kW a).wf → a.ok
 | .mk s (.mk k t n b l m), h => by
   simp only [kW, i6, V.cells, V.wf, V.bR] at h
   obtain ⟨_, h1, h2, h3, h4, ⟨_, h5⟩, ⟨_, h6⟩, _⟩ := h
   simp only [aw.ok, af.ok]
   exact ⟨h1, h3, h4, tG l h5, tI m h6⟩
theorem tI : ∀ l : List aw, V.bR (bW l) → dX l
 | [], _ => by simp [dX]
 | v :: r, h => by
   simp only [bW, V.bR] at h
   simp only [dX]
   exact ⟨yH v h.1, tI r h.2⟩
end
theorem qc (b : Int) : (iL b).length = 18 := by simp [iL]
theorem vn (n : Int) : (hM n).length ≤ 5 := by unfold hM; split <;> simp
mutual
theorem jT : ∀ v : af, v.ok → (json v).length + 8 ≤ 120 * v.size
 | .mk k t n b l m, h => by
   simp only [af.ok] at h
   obtain ⟨_, h2, h3, h4, h5⟩ := h
   have e1 := nd t
   have e2 := vn n
   have e3 := qd h2.1 h2.2
   have e4 := nd (iL b)
   have e5 := qc b
   have e6 := nd (cP t)
   have e7 := fX t
   have e8 := sU l h4
   have e9 := sW m h5
   simp only [json, af.size]
   repeat' split
   all_goals (first | omega | (simp only [List.length_cons, List.length_append, List.length_nil]; omega))
theorem sU : ∀ l : List af, dW l → (eR l).length ≤ 120 * dG l
 | [], _ => by simp [eR]
 | v :: r, h => by
   simp only [dW] at h
   have e1 := jT v h.1
   have e2 := xz r h.2
   simp only [eR, dG, List.length_append]; omega
theorem xz : ∀ l : List af, dW l → (gp l).length ≤ 120 * dG l
 | [], _ => by simp [gp]
 | v :: r, h => by
   simp only [dW] at h
   have e1 := jT v h.1
   have e2 := xz r h.2
   have e3 := size_eq v
   simp only [gp, dG, List.length_append, List.length_cons]; omega
theorem xx : ∀ a : aw, a.ok → (lj a).length + 4 ≤ 120 * a.size
 | .mk k v, h => by
   simp only [aw.ok] at h
   have e1 := nd k
   have e2 := jT v h
   have e3 := size_eq v
   simp only [lj, aw.size, List.length_append, List.length_cons]; omega
theorem sW : ∀ l : List aw, dX l → (eS l).length ≤ 120 * cF l
 | [], _ => by simp [eS]
 | v :: r, h => by
   simp only [dX] at h
   have e1 := xx v h.1
   have e2 := xC r h.2
   simp only [eS, cF, List.length_append]; omega
theorem xC : ∀ l : List aw, dX l → (gq l).length ≤ 120 * cF l
 | [], _ => by simp [gq]
 | v :: r, h => by
   simp only [dX] at h
   have e1 := xx v h.1
   have e2 := xC r h.2
   simp only [gq, cF, List.length_append, List.length_cons]; omega
end
end Go.Proofs.YtipejldppicijaaGreatDoor
