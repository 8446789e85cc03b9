/-
  A part of the proof.
-/
import Derived.Test.YtllncocibkgjkaaDoorLeft
import Derived.Test.YtllncocibkgjkaaDoorTxt0
set_option linter.unusedSimpArgs false
set_option linter.unusedVariables false
set_option maxHeartbeats 4000000
namespace Go.Proofs.YtllncocibkgjkaaDoor
open Go Go.VG
set_option maxRecDepth 100000
def jt (n : Int) : List UInt8 := if n = 0 then [102, 97, 108, 115, 101] else [116, 114, 117, 101]
def j8 (b : Int) : List UInt8 := [48, 120] ++ ey (be 8 b.toNat)
mutual
def json : ah → List UInt8
 | .mk k t n b l m => if k = 0 then [110, 117, 108, 108] else if k = 1 then quote t else if k = 2 then jt n else if k = 3 then fK n else if k = 4 then quote (j8 b) else if k = 5 then quote (ey t)
   else if k = 6 then 91 :: (gW l ++ [93]) else if k = 7 then 123 :: (iB m ++ [125]) else []
def gW : List ah → List UInt8
 | [] => []
 | v :: r => json v ++ gX r
def gX : List ah → List UInt8
 | [] => []
 | v :: r => 44 :: (json v ++ gX r)
def kH : aD → List UInt8
 | .mk k v => quote k ++ 58 :: json v
def iB : List aD → List UInt8
 | [] => []
 | a :: r => kH a ++ iC r
def iC : List aD → List UInt8
 | [] => []
 | a :: r => 44 :: (kH a ++ iC r)
end
theorem Gf (v : ah) : json v = if v.kind = 0 then [110, 117, 108, 108] else if v.kind = 1 then quote v.text else if v.kind = 2 then jt v.num else if v.kind = 3 then fK v.num else if v.kind = 4 then quote (j8 v.bits)
   else if v.kind = 5 then quote (ey v.text) else if v.kind = 6 then 91 :: (gW v.list ++ [93]) else if v.kind = 7 then 123 :: (iB v.map ++ [125]) else [] := by
 cases v; simp only [json, ah.kind, ah.text, ah.num, ah.bits, ah.list, ah.map]; rfl
theorem Gb (a : aD) : kH a = quote a.key ++ 58 :: json a.value := by cases a; simp only [kH, aD.key, aD.value]
theorem zA : ∀ (l m : List ah), gX (l ++ m) = gX l ++ gX m
 | [], _ => by simp [gX]
 | v :: r, m => by simp [gX, zA r m]
theorem zD : ∀ (l m : List aD), iC (l ++ m) = iC l ++ iC m
 | [], _ => by simp [iC]
 | v :: r, m => by simp [iC, zD r m]
theorem C6 {α : Type} [Inhabited α] {s : List α} {i : Nat} (h : i < s.length) : s.take (i + 1) = s.take i ++ [s.getD i default] := by
 rw [List.take_add_one, List.getD_eq_getElem?_getD, List.getElem?_eq_getElem h]; rfl
theorem Gc {l : List ah} {i : Nat} (h : i < l.length) : gW (l.take (i + 1)) = gW (l.take i) ++ ((if i = 0 then [] else [44]) ++ json (l.getD i default)) := by
 cases l with
 | nil => simp at h
 | cons v r =>
   cases i with
   | zero => simp [gW, gX]
   | succ i =>
     rw [show (v :: r).take (i + 1 + 1) = v :: r.take (i + 1) from rfl, show (v :: r).take (i + 1) = v :: r.take i from rfl, gW, gW, C6 (by simpa using h), zA]
     simp [gX]
theorem Ge {l : List aD} {i : Nat} (h : i < l.length) : iB (l.take (i + 1)) = iB (l.take i) ++ ((if i = 0 then [] else [44]) ++ kH (l.getD i default)) := by
 cases l with
 | nil => simp at h
 | cons v r =>
   cases i with
   | zero => simp [iB, iC]
   | succ i =>
     rw [show (v :: r).take (i + 1 + 1) = v :: r.take (i + 1) from rfl, show (v :: r).take (i + 1) = v :: r.take i from rfl, iB, iB, C6 (by simpa using h), zD]
     simp [iC]
def simple (v : ah) : List UInt8 := if v.kind = 1 then v.text else if v.kind = 2 then jt v.num else if v.kind = 3 then fK v.num else if v.kind = 4 then j8 v.bits else if v.kind = 5 then ey v.text else []
def text (v : ah) : List UInt8 := if v.kind = 6 ∨ v.kind = 7 then json v else simple v
mutual
def ah.size : ah → Nat
 | .mk _ t _ _ l m => 1 + t.length + dK l + dq m
def dK : List ah → Nat
 | [] => 0
 | v :: r => v.size + dK r
def aD.size : aD → Nat
 | .mk k v => k.length + v.size
def dq : List aD → Nat
 | [] => 0
 | a :: r => a.size + dq r
end
theorem size_eq (v : ah) : v.size = 1 + v.text.length + dK v.list + dq v.map := by cases v; simp [ah.size, ah.text, ah.list, ah.map]
theorem BL (a : aD) : a.size = a.key.length + a.value.size := by cases a; simp [aD.size, aD.key, aD.value]
theorem K0 {l : List ah} {i : Nat} (h : i < l.length) : (l.getD i default).size ≤ dK l := by
 induction l generalizing i with
 | nil => simp at h
 | cons v r ih =>
   cases i with
   | zero => simp [dK]
   | succ i => have := ih (i := i) (by simpa using h); simp only [dK, List.getD_cons_succ]; omega
theorem BM {l : List aD} {i : Nat} (h : i < l.length) : (l.getD i default).key.length + (l.getD i default).value.size ≤ dq l := by
 induction l generalizing i with
 | nil => simp at h
 | cons v r ih =>
   cases i with
   | zero => simp [dq, BL]
   | succ i => have := ih (i := i) (by simpa using h); simp only [dq, List.getD_cons_succ]; omega
mutual
theorem uU : ∀ (v : ah) (n : Int), 0 ≤ left v n → (v.size : Int) + left v n ≤ n
 | .mk k t m b l a, n, h => by
   simp only [left] at h ⊢
   split at h
   . omega
   . rename_i hh
     rw [if_neg hh]
     have h1 : 0 ≤ eA l (n - 1 - t.length) := by
      by_cases hc : eA l (n - 1 - t.length) < 0
      . rw [se _ _ hc] at h; omega
      . omega
     have h2 := Am l _ h1
     have h3 := An a _ h
     simp only [ah.size]; omega
theorem Am : ∀ (l : List ah) (n : Int), 0 ≤ eA l n → (dK l : Int) + eA l n ≤ n
 | [], n, h => by simp [eA, dK]
 | v :: r, n, h => by
   simp only [eA] at h ⊢
   split at h
   . omega
   . rename_i hh
     rw [if_neg hh]
     have h1 : 0 ≤ left v n := by
      by_cases hc : left v n < 0
      . rw [Ai _ _ hc] at h; omega
      . omega
     have h2 := uU v n h1
     have h3 := Am r _ h
     simp only [dK]; omega
theorem Hq : ∀ (a : aD) (n : Int), 0 ≤ iE a n → (a.size : Int) + iE a n ≤ n
 | .mk k v, n, h => by
   simp only [iE] at h ⊢
   split at h
   . omega
   . rename_i hh
     rw [if_neg hh]
     have := uU v _ h
     simp only [aD.size]; omega
theorem An : ∀ (l : List aD) (n : Int), 0 ≤ eB l n → (dq l : Int) + eB l n ≤ n
 | [], n, h => by simp [eB, dq]
 | v :: r, n, h => by
   simp only [eB] at h ⊢
   split at h
   . omega
   . rename_i hh
     rw [if_neg hh]
     have h1 : 0 ≤ iE v n := by
      by_cases hc : iE v n < 0
      . rw [se _ _ hc] at h; omega
      . omega
     have h2 := Hq v n h1
     have h3 := An r _ h
     simp only [dq]; omega
end
mutual
def ah.ok : ah → Prop
 | .mk k _ n b l m => (0 ≤ k ∧ k ≤ 255) ∧ (-9223372036854775808 ≤ n ∧ n ≤ 9223372036854775807) ∧ (0 ≤ b ∧ b ≤ 18446744073709551615) ∧ ec l ∧ eh m
def ec : List ah → Prop
 | [] => True
 | v :: r => v.ok ∧ ec r
def aD.ok : aD → Prop
 | .mk _ v => v.ok
def eh : List aD → Prop
 | [] => True
 | a :: r => a.ok ∧ eh r
end
mutual
theorem AX : ∀ v : ah, (iT v).wf → v.ok
 | .mk k t n b l m, h => by
   simp only [iT, V.wf, V.cY] at h
   obtain ⟨h1, h2, h3, h4, ⟨_, h5⟩, ⟨_, h6⟩, _⟩ := h
   simp only [ah.ok]
   exact ⟨h1, h3, h4, vl l h5, vm m h6⟩
theorem vl : ∀ l : List ah, V.cY (eM l) → ec l
 | [], _ => by simp [ec]
 | v :: r, h => by
   simp only [eM, V.cY] at h
   simp only [ec]
   exact ⟨AX v h.1, vl r h.2⟩
theorem I7 : ∀ a : aD, (mC a).wf → a.ok
 | .mk s (.mk k t n b l m), h => by
   simp only [mC, iT, V.cells, V.wf, V.cY] at h
   obtain ⟨_, h1, h2, h3, h4, ⟨_, h5⟩, ⟨_, h6⟩, _⟩ := h
   simp only [aD.ok, ah.ok]
   exact ⟨h1, h3, h4, vl l h5, vm m h6⟩
theorem vm : ∀ l : List aD, V.cY (d8 l) → eh l
 | [], _ => by simp [eh]
 | v :: r, h => by
   simp only [d8, V.cY] at h
   simp only [eh]
   exact ⟨I7 v h.1, vm r h.2⟩
end
theorem yp (b : Int) : (j8 b).length = 18 := by simp [j8]
theorem Ks (n : Int) : (jt n).length ≤ 5 := by unfold jt; split <;> simp
mutual
theorem pU : ∀ v : ah, v.ok → (json v).length + 8 ≤ 120 * v.size
 | .mk k t n b l m, h => by
   simp only [ah.ok] at h
   obtain ⟨_, h2, h3, h4, h5⟩ := h
   have e1 := nd t
   have e2 := Ks n
   have e3 := Dj h2.1 h2.2
   have e4 := nd (j8 b)
   have e5 := yp b
   have e6 := nd (ey t)
   have e7 := kG t
   have e8 := zC l h4
   have e9 := zF m h5
   simp only [json, ah.size]
   repeat' split
   all_goals (first | omega | (simp only [List.length_cons, List.length_append, List.length_nil]; omega))
theorem zC : ∀ l : List ah, ec l → (gW l).length ≤ 120 * dK l
 | [], _ => by simp [gW]
 | v :: r, h => by
   simp only [ec] at h
   have e1 := pU v h.1
   have e2 := zB r h.2
   simp only [gW, dK, List.length_append]; omega
theorem zB : ∀ l : List ah, ec l → (gX l).length ≤ 120 * dK l
 | [], _ => by simp [gX]
 | v :: r, h => by
   simp only [ec] at h
   have e1 := pU v h.1
   have e2 := zB r h.2
   have e3 := size_eq v
   simp only [gX, dK, List.length_append, List.length_cons]; omega
theorem zz : ∀ a : aD, a.ok → (kH a).length + 4 ≤ 120 * a.size
 | .mk k v, h => by
   simp only [aD.ok] at h
   have e1 := nd k
   have e2 := pU v h
   have e3 := size_eq v
   simp only [kH, aD.size, List.length_append, List.length_cons]; omega
theorem zF : ∀ l : List aD, eh l → (iB l).length ≤ 120 * dq l
 | [], _ => by simp [iB]
 | v :: r, h => by
   simp only [eh] at h
   have e1 := zz v h.1
   have e2 := zE r h.2
   simp only [iB, dq, List.length_append]; omega
theorem zE : ∀ l : List aD, eh l → (iC l).length ≤ 120 * dq l
 | [], _ => by simp [iC]
 | v :: r, h => by
   simp only [eh] at h
   have e1 := zz v h.1
   have e2 := zE r h.2
   simp only [iC, dq, List.length_append, List.length_cons]; omega
end
end Go.Proofs.YtllncocibkgjkaaDoor
