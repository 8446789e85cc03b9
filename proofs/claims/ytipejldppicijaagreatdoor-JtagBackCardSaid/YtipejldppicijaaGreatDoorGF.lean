/-
  A part of the proof.
-/
import Derived.Test.YtipejldppicijaaGreatDoorGE
import Derived.Test.YtipejldppicijaaGreatDoorPSame
set_option linter.unusedSimpArgs false
set_option linter.unusedVariables false
set_option maxHeartbeats 4000000
namespace Go.Proofs.YtipejldppicijaaGreatDoor
open Go Go.VG
set_option maxRecDepth 100000
structure Tg where
 key : List UInt8
 kind : Int
 text : List UInt8
 num : Int
 bits : Int
instance : Inhabited Tg := ⟨⟨[], 0, [], 0, 0⟩⟩
abbrev tz : Tg := ⟨[], 0, [], 0, 0⟩
abbrev eTv (a : Tg) : V := .agg [.int .u8 a.kind, .str a.text, .int .i64 a.num, .int .u64 a.bits, .list true 0 [], .list true 0 []]
abbrev eR (a : Tg) : V := .agg [.str a.key, .int .u8 a.kind, .str a.text, .int .i64 a.num, .int .u64 a.bits, .list true 0 [], .list true 0 []]
def Tg.nd (a : Tg) : ak := .mk a.key (.mk a.kind a.text a.num a.bits [] [])
theorem y4 (a : Tg) : Wk (eR a) (ea a.nd) :=
 Wk.agg (aq.cons (Wk.refl _) (aq.cons (Wk.refl _) (aq.cons (Wk.refl _) (aq.cons (Wk.refl _) (aq.cons (Wk.refl _) (aq.cons (Wk.nil (.inl rfl)) (aq.cons (Wk.nil (.inl rfl)) aq.nil)))))))
theorem rG (a : Tg) : cD (eR a) = a.nd := by simp [cD, kt, fh, Tg.nd]
theorem yT (l : List Tg) : fh (l.map eR) = l.map Tg.nd := by
 induction l with
 | nil => simp [fh]
 | cons a l ih => rw [List.map_cons, List.map_cons, fh, rG, ih]
theorem IK (l : List Tg) (c : Bool) : dK (.list c 7 (l.map eR)) := by
 unfold dK
 rw [show bF (.list c 7 (l.map eR)) = fh (l.map eR) from rfl, yT, iH]
 refine Wk.list (by cases c <;> simp) (by simp) fun i x y hx hy => ?_
 rw [List.getElem?_map] at hx hy
 cases hi : l[i]? with
 | none => rw [hi] at hx; cases hx
 | some a =>
   rw [hi] at hx
   cases hx
   rw [List.getElem?_map, hi] at hy
   cases hy
   exact y4 a
def xQ (q : Int) : Int := if q = 1 then 7 else if q = 2 then 1 else if q = 3 then 6 else 8
def D4 (q : Int) : Int := if q = 0 then 1 else if q = 1 then 4 else if q = 2 then 2 else if q = 3 then 3 else 5
def eK (l : List Fd) (q : Int) : Tg × Int :=
 if q < 0 ∨ q ≥ 5 then (tz, 7) else match bI l (q + 3) (xQ q) with
 | none => (tz, 9)
 | some f => (⟨[], D4 q, f.text, f.num, f.bits⟩, 0)
def iY (l : List Fd) : Tg × Int := match bI l 1 8, bI l 2 5 with
 | some k, some t => if (eK l t.num).2 ≠ 0 then (tz, (eK l t.num).2) else ({ (eK l t.num).1 with key := k.text }, 0)
 | _, _ => (tz, 9)
def dH (d : Int) (s : List UInt8) : Tg × Int := if (bK d s).1 ≠ 0 then (tz, (bK d s).1) else iY (bK d s).2.2
def iC (l : List Fd) : Bool := l.all fun f => decide (f.k = 12)
def strs (l : List Fd) (id d : Int) : List (List UInt8) × Int := match bI l id 9 with
 | none => ([], 0)
 | some f => if (cr d f.raw).1 ≠ 0 then ([], (cr d f.raw).1) else if iC (cr d f.raw).2 = true then ((cr d f.raw).2.map Fd.raw, 0) else ([], 7)
def fT (d : Int) : List (List UInt8) → List Tg → List Tg × Int
 | [], acc => (acc, 0)
 | s :: r, acc => if (dH (d + 1) s).2 ≠ 0 then ([], (dH (d + 1) s).2) else fT d r (acc ++ [(dH (d + 1) s).1])
def gM (l : List Fd) (id d : Int) : List Tg × Int := if (strs l id d).2 ≠ 0 then ([], (strs l id d).2) else fT d (strs l id d).1 []
structure Sh (f : Fd) : Prop where
 k : 1 ≤ f.k ∧ f.k ≤ 12
 t : f.k = 8 → f.num = 0 ∧ f.bits = 0
 d : f.k = 7 → f.text = [] ∧ f.num = 0
 n : f.k = 1 ∨ f.k = 2 ∨ f.k = 6 → f.text = [] ∧ f.bits = 0
theorem Ml {d : Nat} {id k : Int} {c : Cu} (hk : 1 ≤ k ∧ k ≤ 12) : Sh (bS d ⟨id, k, 0, 0, [], []⟩ c).1 := by
 have e : (bS d ⟨id, k, 0, 0, [], []⟩ c).1.k = k := by
  unfold bS
  repeat' split
  all_goals rfl
 refine ⟨by rw [e]; exact hk, fun h => ?_, fun h => ?_, fun h => ?_⟩
 all_goals
  rw [e] at h
  unfold bS
  dsimp only
  repeat' split
  all_goals first
   | exact ⟨rfl, rfl⟩
   | (exfalso; omega)
theorem Ce {d : Nat} : ∀ (n : Nat) (c : Cu) (a : Int) (acc : List Fd) (r), (∀ f ∈ acc, Sh f) → gz d n c a acc = some r → ∀ f ∈ r.1, Sh f
 | 0, _, _, _, _, _, h => by cases h
 | n + 1, c, a, acc, r, ha, h => by
   rw [gz] at h
   by_cases g : (c.aK a).1.2 = 0
   . rw [if_pos g] at h; cases h; exact ha
   . rw [if_neg g] at h
     refine Ce n _ _ _ r (fun f hf => ?_) h
     rcases List.mem_append.1 hf with hf | hf
     . exact ha f hf
     . rw [List.mem_singleton.1 hf]; exact Ml (fld_k g)
theorem Lu (d : Int) (s : List UInt8) : ∀ f ∈ (bK d s).2.2, Sh f := by
 unfold bK
 split
 . intro f hf; cases hf
 . obtain ⟨r, hr⟩ := ur (31 - d).toNat s
   rw [hr]
   unfold ik
   dsimp only
   split
   . exact Ce _ _ _ _ r (fun f hf => by cases hf) hr
   . intro f hf; cases hf
theorem sa {l : List Fd} {id k : Int} : ∀ {m : Nat} {f : Fd}, m ≤ l.length → l9 l id k m = some f → f ∈ l ∧ f.id = id ∧ eS (byte f.k) (byte k) = true
 | 0, _, _, h => by cases h
 | m + 1, f, hm, h => by
   rw [l9] at h
   split at h
   . rename_i q
     cases h
     refine ⟨?_, q⟩
     rw [List.getD_eq_getElem?_getD, List.getElem?_eq_getElem (by omega)]
     exact List.getElem_mem _
   . exact sa (by omega) h
theorem Lf {d : Int} {s : List UInt8} (h : (bK d s).1 ≠ 0) : dH d s = (tz, (bK d s).1) := by unfold dH; rw [if_pos h]
theorem C8 {d : Int} {s : List UInt8} (h : (bK d s).1 = 0) : dH d s = iY (bK d s).2.2 := by unfold dH; rw [if_neg (fun q => q h)]
theorem MF {l : List Fd} (h : bI l 1 8 = none) : iY l = (tz, 9) := by unfold iY; rw [h]
theorem MG {l : List Fd} (h : bI l 2 5 = none) : iY l = (tz, 9) := by unfold iY; rw [h]; cases bI l 1 8 <;> rfl
theorem ME {l : List Fd} {k t : Fd} (h : bI l 1 8 = some k) (g : bI l 2 5 = some t) (e : (eK l t.num).2 ≠ 0) : iY l = (tz, (eK l t.num).2) := by unfold iY; rw [h, g]; dsimp only; rw [if_pos e]
theorem MI {l : List Fd} {k t : Fd} (h : bI l 1 8 = some k) (g : bI l 2 5 = some t) (e : (eK l t.num).2 = 0) : iY l = ({ (eK l t.num).1 with key := k.text }, 0) := by unfold iY; rw [h, g]; dsimp only; rw [if_neg (fun q => q e)]
theorem MA {l : List Fd} {id d : Int} (h : bI l id 9 = none) : strs l id d = ([], 0) := by unfold strs; rw [h]
theorem My {l : List Fd} {id d : Int} {f : Fd} (h : bI l id 9 = some f) (e : (cr d f.raw).1 ≠ 0) : strs l id d = ([], (cr d f.raw).1) := by unfold strs; rw [h]; dsimp only; rw [if_pos e]
theorem Mz {l : List Fd} {id d : Int} {f : Fd} (h : bI l id 9 = some f) (e : (cr d f.raw).1 = 0) (k : iC (cr d f.raw).2 = false) : strs l id d = ([], 7) := by
 unfold strs; rw [h]; dsimp only; rw [if_neg (fun q => q e), if_neg (by rw [k]; decide)]
theorem CZ {l : List Fd} {id d : Int} {f : Fd} (h : bI l id 9 = some f) (e : (cr d f.raw).1 = 0) (k : iC (cr d f.raw).2 = true) : strs l id d = ((cr d f.raw).2.map Fd.raw, 0) := by
 unfold strs; rw [h]; dsimp only; rw [if_neg (fun q => q e), if_pos k]
theorem DP {l : List Fd} (h : iC l = true) {i : Nat} (hi : i < l.length) : (l.getD i default).k = 12 := by
 have := List.all_eq_true.1 h (l.getD i default) (by rw [List.getD_eq_getElem?_getD, List.getElem?_eq_getElem hi]; exact List.getElem_mem hi)
 exact of_decide_eq_true this
theorem DQ {l : List Fd} {i : Nat} (hi : i < l.length) (h : (l.getD i default).k ≠ 12) : iC l = false := by
 cases g : iC l with
 | false => rfl
 | true => exact absurd (DP g hi) h
theorem DR {l : List Fd} (h : ∀ i, i < l.length → (l.getD i default).k = 12) : iC l = true := by
 refine List.all_eq_true.2 fun f hf => decide_eq_true ?_
 obtain ⟨i, hi, rfl⟩ := List.getElem_of_mem hf
 have := h i hi
 rw [List.getD_eq_getElem?_getD, List.getElem?_eq_getElem hi] at this
 exact this
theorem Le {d : Int} {l : List (List UInt8)} {i : Nat} {acc : List Tg} (hi : i < l.length) : fT d (l.drop i) acc = if (dH (d + 1) (l.getD i default)).2 ≠ 0 then ([], (dH (d + 1) (l.getD i default)).2) else fT d (l.drop (i + 1)) (acc ++ [(dH (d + 1) (l.getD i default)).1]) := by
 rw [List.drop_eq_getElem_cons hi, fT, List.getD_eq_getElem?_getD, List.getElem?_eq_getElem hi]; rfl
theorem C7 {d : Int} : ∀ {l : List (List UInt8)} {acc : List Tg}, (fT d l acc).2 ≠ 0 → (fT d l acc).1 = []
 | [], _, h => absurd rfl h
 | s :: l, acc, h => by
   rw [fT] at h ⊢
   split at h
   . rw [if_pos (by assumption)]
   . rw [if_neg (by assumption)]; exact C7 h
end Go.Proofs.YtipejldppicijaaGreatDoor
