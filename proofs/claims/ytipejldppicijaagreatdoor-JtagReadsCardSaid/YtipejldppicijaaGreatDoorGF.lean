/-
  A part of the proof.
-/
import Derived.Test.YtipejldppicijaaGreatDoorGE
import Derived.Test.YtipejldppicijaaGreatDoorPSame
set_option linter.unusedSimpArgs false
set_option linter.unusedVariables false
set_option maxHeartbeats 4000000
namespace Go.Proofs.YtipejldppicijaaGreatDoor
open Go Go.VG
set_option maxRecDepth 100000
structure Tg where
 key : List UInt8
 kind : Int
 text : List UInt8
 num : Int
 bits : Int
instance : Inhabited Tg := ⟨⟨[], 0, [], 0, 0⟩⟩
abbrev tz : Tg := ⟨[], 0, [], 0, 0⟩
abbrev lL (a : Tg) : V := .agg [.int .u8 a.kind, .str a.text, .int .i64 a.num, .int .u64 a.bits, .list true 0 [], .list true 0 []]
abbrev eL (a : Tg) : V := .agg [.str a.key, .int .u8 a.kind, .str a.text, .int .i64 a.num, .int .u64 a.bits, .list true 0 [], .list true 0 []]
def Tg.kt (a : Tg) : bc := .mk a.key (.mk a.kind a.text a.num a.bits [] [])
theorem wk_tv (a : Tg) : Wk (lL a) (ev a.kt.value) :=
 Wk.agg (aN.cons (Wk.refl _) (aN.cons (Wk.refl _) (aN.cons (Wk.refl _) (aN.cons (Wk.refl _) (aN.cons (Wk.nil (.inl rfl)) (aN.cons (Wk.nil (.inl rfl)) aN.nil))))))
theorem wk_tg (a : Tg) : Wk (eL a) (ea a.kt) :=
 Wk.agg (aN.cons (Wk.refl _) (aN.cons (Wk.refl _) (aN.cons (Wk.refl _) (aN.cons (Wk.refl _) (aN.cons (Wk.refl _) (aN.cons (Wk.nil (.inl rfl)) (aN.cons (Wk.nil (.inl rfl)) aN.nil)))))))
theorem Ax (a : Tg) : fv (lL a) = a.kt.value := by simp [fv, iK, fP, Tg.kt, bc.value]
theorem Ej (a : Tg) : jO (lL a) := by unfold jO; rw [Ax]; exact wk_tv a
theorem Av (a : Tg) : na (eL a) = a.kt := by simp [na, iK, fP, Tg.kt]
theorem Aw (l : List Tg) : fP (l.map eL) = l.map Tg.kt := by
 induction l with
 | nil => simp [fP]
 | cons a l ih => rw [List.map_cons, List.map_cons, fP, Av, ih]
theorem Ei (l : List Tg) (c : Bool) : jN (.list c 7 (l.map eL)) := by
 unfold jN
 rw [show gY (.list c 7 (l.map eL)) = fP (l.map eL) from rfl, Aw, rQ]
 refine Wk.list (by cases c <;> simp) (by simp) fun i x y hx hy => ?_
 rw [List.getElem?_map] at hx hy
 cases hi : l[i]? with
 | none => rw [hi] at hx; cases hx
 | some a =>
   rw [hi] at hx
   cases hx
   rw [List.getElem?_map, hi] at hy
   cases hy
   exact wk_tg a
def um (q : Int) : Int := if q = 1 then 7 else if q = 2 then 1 else if q = 3 then 6 else 8
def zt (q : Int) : Int := if q = 0 then 1 else if q = 1 then 4 else if q = 2 then 2 else if q = 3 then 3 else 5
def dR (l : List Fd) (q : Int) : Tg × Int :=
 if q < 0 ∨ q ≥ 5 then (tz, 7) else match aP l (q + 3) (um q) with
 | none => (tz, 9)
 | some f => (⟨[], zt q, f.text, f.num, f.bits⟩, 0)
def iw (l : List Fd) : Tg × Int := match aP l 1 8, aP l 2 5 with
 | some k, some t => if (dR l t.num).2 ≠ 0 then (tz, (dR l t.num).2) else ({ (dR l t.num).1 with key := k.text }, 0)
 | _, _ => (tz, 9)
def cC (d : Int) (s : List UInt8) : Tg × Int := if (aW d s).1 ≠ 0 then (tz, (aW d s).1) else iw (aW d s).2.2
def iG (l : List Fd) : Bool := l.all fun f => decide (f.k = 12)
def strs (l : List Fd) (id d : Int) : List (List UInt8) × Int := match aP l id 9 with
 | none => ([], 0)
 | some f => if (bB d f.raw).1 ≠ 0 then ([], (bB d f.raw).1) else if iG (bB d f.raw).2 = true then ((bB d f.raw).2.map Fd.raw, 0) else ([], 7)
def ey (d : Int) : List (List UInt8) → List Tg → List Tg × Int
 | [], acc => (acc, 0)
 | s :: r, acc => if (cC (d + 1) s).2 ≠ 0 then ([], (cC (d + 1) s).2) else ey d r (acc ++ [(cC (d + 1) s).1])
def dV (l : List Fd) (id d : Int) : List Tg × Int := if (strs l id d).2 ≠ 0 then ([], (strs l id d).2) else ey d (strs l id d).1 []
structure Sh (f : Fd) : Prop where
 k : 1 ≤ f.k ∧ f.k ≤ 12
 t : f.k = 8 → f.num = 0 ∧ f.bits = 0
 d : f.k = 7 → f.text = [] ∧ f.num = 0
 n : f.k = 1 ∨ f.k = 2 ∨ f.k = 6 → f.text = [] ∧ f.bits = 0
theorem Hh {d : Nat} {id k : Int} {c : Cu} (hk : 1 ≤ k ∧ k ≤ 12) : Sh (bO d ⟨id, k, 0, 0, [], []⟩ c).1 := by
 have e : (bO d ⟨id, k, 0, 0, [], []⟩ c).1.k = k := by
  unfold bO
  repeat' split
  all_goals rfl
 refine ⟨by rw [e]; exact hk, fun h => ?_, fun h => ?_, fun h => ?_⟩
 all_goals
  rw [e] at h
  unfold bO
  dsimp only
  repeat' split
  all_goals first
   | exact ⟨rfl, rfl⟩
   | (exfalso; omega)
theorem yG {d : Nat} : ∀ (n : Nat) (c : Cu) (a : Int) (acc : List Fd) (r), (∀ f ∈ acc, Sh f) → eX d n c a acc = some r → ∀ f ∈ r.1, Sh f
 | 0, _, _, _, _, _, h => by cases h
 | n + 1, c, a, acc, r, ha, h => by
   rw [eX] at h
   by_cases g : (c.aC a).1.2 = 0
   . rw [if_pos g] at h; cases h; exact ha
   . rw [if_neg g] at h
     refine yG n _ _ _ r (fun f hf => ?_) h
     rcases List.mem_append.1 hf with hf | hf
     . exact ha f hf
     . rw [List.mem_singleton.1 hf]; exact Hh (rZ g)
theorem l7 (d : Int) (s : List UInt8) : ∀ f ∈ (aW d s).2.2, Sh f := by
 unfold aW
 split
 . intro f hf; cases hf
 . obtain ⟨r, hr⟩ := ru (31 - d).toNat s
   rw [hr]
   unfold dX
   dsimp only
   split
   . exact yG _ _ _ _ r (fun f hf => by cases hf) hr
   . intro f hf; cases hf
theorem kU {l : List Fd} {id k : Int} : ∀ {m : Nat} {f : Fd}, m ≤ l.length → iY l id k m = some f → f ∈ l ∧ f.id = id ∧ fH (byte f.k) (byte k) = true
 | 0, _, _, h => by cases h
 | m + 1, f, hm, h => by
   rw [iY] at h
   split at h
   . rename_i q
     cases h
     refine ⟨?_, q⟩
     rw [List.getD_eq_getElem?_getD, List.getElem?_eq_getElem (by omega)]
     exact List.getElem_mem _
   . exact kU (by omega) h
theorem nL {l : List Fd} {id k : Int} {f : Fd} (hl : ∀ f ∈ l, Sh f) (hk : 1 ≤ k ∧ k ≤ 12) (h : aP l id k = some f) : Sh f ∧ (f.k = k ∨ ((f.k = 1 ∨ f.k = 2) ∧ (k = 1 ∨ k = 2))) := by
 obtain ⟨h1, _, h3⟩ := kU (Nat.le_refl _) h
 have hs := hl f h1
 refine ⟨hs, ?_⟩
 have h4 := l8.1 h3
 have e1 : ((byte f.k).toNat : Int) = f.k := cq (by have := hs.k; omega)
 have e2 : ((byte k).toNat : Int) = k := cq (by omega)
 omega
theorem yw {d : Int} {s : List UInt8} (h : (aW d s).1 ≠ 0) : cC d s = (tz, (aW d s).1) := by unfold cC; rw [if_pos h]
theorem yx {d : Int} {s : List UInt8} (h : (aW d s).1 = 0) : cC d s = iw (aW d s).2.2 := by unfold cC; rw [if_neg (fun q => q h)]
theorem zu {l : List Fd} (h : aP l 1 8 = none) : iw l = (tz, 9) := by unfold iw; rw [h]
theorem zv {l : List Fd} (h : aP l 2 5 = none) : iw l = (tz, 9) := by unfold iw; rw [h]; cases aP l 1 8 <;> rfl
theorem ll {l : List Fd} {k t : Fd} (h : aP l 1 8 = some k) (g : aP l 2 5 = some t) (e : (dR l t.num).2 ≠ 0) : iw l = (tz, (dR l t.num).2) := by unfold iw; rw [h, g]; dsimp only; rw [if_pos e]
theorem mL {l : List Fd} {k t : Fd} (h : aP l 1 8 = some k) (g : aP l 2 5 = some t) (e : (dR l t.num).2 = 0) : iw l = ({ (dR l t.num).1 with key := k.text }, 0) := by unfold iw; rw [h, g]; dsimp only; rw [if_neg (fun q => q e)]
theorem zn {l : List Fd} {id d : Int} (h : aP l id 9 = none) : strs l id d = ([], 0) := by unfold strs; rw [h]
theorem zm {l : List Fd} {id d : Int} {f : Fd} (h : aP l id 9 = some f) (e : (bB d f.raw).1 ≠ 0) : strs l id d = ([], (bB d f.raw).1) := by unfold strs; rw [h]; dsimp only; rw [if_pos e]
theorem Hr {l : List Fd} {id d : Int} {f : Fd} (h : aP l id 9 = some f) (e : (bB d f.raw).1 = 0) (k : iG (bB d f.raw).2 = false) : strs l id d = ([], 7) := by
 unfold strs; rw [h]; dsimp only; rw [if_neg (fun q => q e), if_neg (by rw [k]; decide)]
theorem Hs {l : List Fd} {id d : Int} {f : Fd} (h : aP l id 9 = some f) (e : (bB d f.raw).1 = 0) (k : iG (bB d f.raw).2 = true) : strs l id d = ((bB d f.raw).2.map Fd.raw, 0) := by
 unfold strs; rw [h]; dsimp only; rw [if_neg (fun q => q e), if_pos k]
theorem A8 {l : List Fd} (h : iG l = true) {i : Nat} (hi : i < l.length) : (l.getD i default).k = 12 := by
 have := List.all_eq_true.1 h (l.getD i default) (by rw [List.getD_eq_getElem?_getD, List.getElem?_eq_getElem hi]; exact List.getElem_mem hi)
 exact of_decide_eq_true this
theorem uP {l : List Fd} {i : Nat} (hi : i < l.length) (h : (l.getD i default).k ≠ 12) : iG l = false := by
 cases g : iG l with
 | false => rfl
 | true => exact absurd (A8 g hi) h
theorem uQ {l : List Fd} (h : ∀ i, i < l.length → (l.getD i default).k = 12) : iG l = true := by
 refine List.all_eq_true.2 fun f hf => decide_eq_true ?_
 obtain ⟨i, hi, rfl⟩ := List.getElem_of_mem hf
 have := h i hi
 rw [List.getD_eq_getElem?_getD, List.getElem?_eq_getElem hi] at this
 exact this
theorem yv {d : Int} {l : List (List UInt8)} {i : Nat} {acc : List Tg} (hi : i < l.length) : ey d (l.drop i) acc = if (cC (d + 1) (l.getD i default)).2 ≠ 0 then ([], (cC (d + 1) (l.getD i default)).2) else ey d (l.drop (i + 1)) (acc ++ [(cC (d + 1) (l.getD i default)).1]) := by
 rw [List.drop_eq_getElem_cons hi, ey, List.getD_eq_getElem?_getD, List.getElem?_eq_getElem hi]; rfl
theorem sW {d : Int} : ∀ {l : List (List UInt8)} {acc : List Tg}, (ey d l acc).2 ≠ 0 → (ey d l acc).1 = []
 | [], _, h => absurd rfl h
 | s :: l, acc, h => by
   rw [ey] at h ⊢
   split at h
   . rw [if_pos (by assumption)]
   . rw [if_neg (by assumption)]; exact sW h
end Go.Proofs.YtipejldppicijaaGreatDoor
