/-
  A part of the proof.
-/
import Derived.Test.YtipejldppicijaaGreatDoorVal
import Derived.Test.YtipejldppicijaaGreatDoorGE
set_option linter.unusedSimpArgs false
set_option linter.unusedVariables false
set_option maxHeartbeats 4000000
namespace Go.Proofs.YtipejldppicijaaGreatDoor
open Go Go.VG
set_option maxRecDepth 100000
mutual
def same : af → af → Bool
 | .mk k t n b l m, w => decide (k = w.kind) && decide (t = w.text) && decide (n = w.num) && decide (b = w.bits) && zh l w.list && zi m w.map
def zh : List af → List af → Bool
 | [], [] => true
 | v :: r, w :: s => same v w && zh r s
 | _, _ => false
def sameA : aw → aw → Bool
 | .mk k v, b => decide (k = b.key) && same v b.value
def zi : List aw → List aw → Bool
 | [], [] => true
 | v :: r, w :: s => sameA v w && zi r s
 | _, _ => false
end
end Go.Proofs.YtipejldppicijaaGreatDoor
namespace Go.Proofs.YtipejldppicijaaGreatDoor
open Go Go.VG
set_option maxRecDepth 100000
structure Tg where
 key : List UInt8
 kind : Int
 text : List UInt8
 num : Int
 bits : Int
instance : Inhabited Tg := ⟨⟨[], 0, [], 0, 0⟩⟩
abbrev tz : Tg := ⟨[], 0, [], 0, 0⟩
abbrev eTv (a : Tg) : V := .agg [.int .u8 a.kind, .str a.text, .int .i64 a.num, .int .u64 a.bits, .list true 0 [], .list true 0 []]
abbrev mc (a : Tg) : V := .agg [.str a.key, .int .u8 a.kind, .str a.text, .int .i64 a.num, .int .u64 a.bits, .list true 0 [], .list true 0 []]
def vh (q : Int) : Int := if q = 1 then 7 else if q = 2 then 1 else if q = 3 then 6 else 8
def zU (q : Int) : Int := if q = 0 then 1 else if q = 1 then 4 else if q = 2 then 2 else if q = 3 then 3 else 5
def dP (l : List Fd) (q : Int) : Tg × Int :=
 if q < 0 ∨ q ≥ 5 then (tz, 7) else match bA l (q + 3) (vh q) with
 | none => (tz, 9)
 | some f => (⟨[], zU q, f.text, f.num, f.bits⟩, 0)
def iC (l : List Fd) : Tg × Int := match bA l 1 8, bA l 2 5 with
 | some k, some t => if (dP l t.num).2 ≠ 0 then (tz, (dP l t.num).2) else ({ (dP l t.num).1 with key := k.text }, 0)
 | _, _ => (tz, 9)
def dy (d : Int) (s : List UInt8) : Tg × Int := if (c7 d s).1 ≠ 0 then (tz, (c7 d s).1) else iC (c7 d s).2.2
def iI (l : List Fd) : Bool := l.all fun f => decide (f.k = 12)
def strs (l : List Fd) (id d : Int) : List (List UInt8) × Int := match bA l id 9 with
 | none => ([], 0)
 | some f => if (c6 d f.raw).1 ≠ 0 then ([], (c6 d f.raw).1) else if iI (c6 d f.raw).2 = true then ((c6 d f.raw).2.map Fd.raw, 0) else ([], 7)
def gD (d : Int) : List (List UInt8) → List Tg → List Tg × Int
 | [], acc => (acc, 0)
 | s :: r, acc => if (dy (d + 1) s).2 ≠ 0 then ([], (dy (d + 1) s).2) else gD d r (acc ++ [(dy (d + 1) s).1])
def kg (l : List Fd) (id d : Int) : List Tg × Int := if (strs l id d).2 ≠ 0 then ([], (strs l id d).2) else gD d (strs l id d).1 []
structure Sh (f : Fd) : Prop where
 k : 1 ≤ f.k ∧ f.k ≤ 12
 t : f.k = 8 → f.num = 0 ∧ f.bits = 0
 d : f.k = 7 → f.text = [] ∧ f.num = 0
 n : f.k = 1 ∨ f.k = 2 ∨ f.k = 6 → f.text = [] ∧ f.bits = 0
theorem I5 {d : Nat} {id k : Int} {c : Cu} (hk : 1 ≤ k ∧ k ≤ 12) : Sh (c8 d ⟨id, k, 0, 0, [], []⟩ c).1 := by
 have e : (c8 d ⟨id, k, 0, 0, [], []⟩ c).1.k = k := by
  unfold c8
  repeat' split
  all_goals rfl
 refine ⟨by rw [e]; exact hk, fun h => ?_, fun h => ?_, fun h => ?_⟩
 all_goals
  rw [e] at h
  unfold c8
  dsimp only
  repeat' split
  all_goals first
   | exact ⟨rfl, rfl⟩
   | (exfalso; omega)
theorem ze {d : Nat} : ∀ (n : Nat) (c : Cu) (a : Int) (acc : List Fd) (r), (∀ f ∈ acc, Sh f) → gX d n c a acc = some r → ∀ f ∈ r.1, Sh f
 | 0, _, _, _, _, _, h => by cases h
 | n + 1, c, a, acc, r, ha, h => by
   rw [gX] at h
   by_cases g : (c.aI a).1.2 = 0
   . rw [if_pos g] at h; cases h; exact ha
   . rw [if_neg g] at h
     refine ze n _ _ _ r (fun f hf => ?_) h
     rcases List.mem_append.1 hf with hf | hf
     . exact ha f hf
     . rw [List.mem_singleton.1 hf]; exact I5 (fld_k g)
theorem Ho (d : Int) (s : List UInt8) : ∀ f ∈ (c7 d s).2.2, Sh f := by
 unfold c7
 split
 . intro f hf; cases hf
 . obtain ⟨r, hr⟩ := sa (31 - d).toNat s
   rw [hr]
   unfold gW
   dsimp only
   split
   . exact ze _ _ _ _ r (fun f hf => by cases hf) hr
   . intro f hf; cases hf
theorem qJ {l : List Fd} {id k : Int} : ∀ {m : Nat} {f : Fd}, m ≤ l.length → jX l id k m = some f → f ∈ l ∧ f.id = id ∧ gY (byte f.k) (byte k) = true
 | 0, _, _, h => by cases h
 | m + 1, f, hm, h => by
   rw [jX] at h
   split at h
   . rename_i q
     cases h
     refine ⟨?_, q⟩
     rw [List.getD_eq_getElem?_getD, List.getElem?_eq_getElem (by omega)]
     exact List.getElem_mem _
   . exact qJ (by omega) h
theorem H9 {d : Int} {s : List UInt8} (h : (c7 d s).1 ≠ 0) : dy d s = (tz, (c7 d s).1) := by unfold dy; rw [if_pos h]
theorem Ha {d : Int} {s : List UInt8} (h : (c7 d s).1 = 0) : dy d s = iC (c7 d s).2.2 := by unfold dy; rw [if_neg (fun q => q h)]
theorem Ir {l : List Fd} (h : bA l 1 8 = none) : iC l = (tz, 9) := by unfold iC; rw [h]
theorem Is {l : List Fd} (h : bA l 2 5 = none) : iC l = (tz, 9) := by unfold iC; rw [h]; cases bA l 1 8 <;> rfl
theorem Iq {l : List Fd} {k t : Fd} (h : bA l 1 8 = some k) (g : bA l 2 5 = some t) (e : (dP l t.num).2 ≠ 0) : iC l = (tz, (dP l t.num).2) := by unfold iC; rw [h, g]; dsimp only; rw [if_pos e]
theorem It {l : List Fd} {k t : Fd} (h : bA l 1 8 = some k) (g : bA l 2 5 = some t) (e : (dP l t.num).2 = 0) : iC l = ({ (dP l t.num).1 with key := k.text }, 0) := by unfold iC; rw [h, g]; dsimp only; rw [if_neg (fun q => q e)]
theorem Il {l : List Fd} {id d : Int} (h : bA l id 9 = none) : strs l id d = ([], 0) := by unfold strs; rw [h]
theorem Ij {l : List Fd} {id d : Int} {f : Fd} (h : bA l id 9 = some f) (e : (c6 d f.raw).1 ≠ 0) : strs l id d = ([], (c6 d f.raw).1) := by unfold strs; rw [h]; dsimp only; rw [if_pos e]
theorem Ik {l : List Fd} {id d : Int} {f : Fd} (h : bA l id 9 = some f) (e : (c6 d f.raw).1 = 0) (k : iI (c6 d f.raw).2 = false) : strs l id d = ([], 7) := by
 unfold strs; rw [h]; dsimp only; rw [if_neg (fun q => q e), if_neg (by rw [k]; decide)]
theorem Im {l : List Fd} {id d : Int} {f : Fd} (h : bA l id 9 = some f) (e : (c6 d f.raw).1 = 0) (k : iI (c6 d f.raw).2 = true) : strs l id d = ((c6 d f.raw).2.map Fd.raw, 0) := by
 unfold strs; rw [h]; dsimp only; rw [if_neg (fun q => q e), if_pos k]
theorem Ax {l : List Fd} (h : iI l = true) {i : Nat} (hi : i < l.length) : (l.getD i default).k = 12 := by
 have := List.all_eq_true.1 h (l.getD i default) (by rw [List.getD_eq_getElem?_getD, List.getElem?_eq_getElem hi]; exact List.getElem_mem hi)
 exact of_decide_eq_true this
theorem Az {l : List Fd} {i : Nat} (hi : i < l.length) (h : (l.getD i default).k ≠ 12) : iI l = false := by
 cases g : iI l with
 | false => rfl
 | true => exact absurd (Ax g hi) h
theorem AA {l : List Fd} (h : ∀ i, i < l.length → (l.getD i default).k = 12) : iI l = true := by
 refine List.all_eq_true.2 fun f hf => decide_eq_true ?_
 obtain ⟨i, hi, rfl⟩ := List.getElem_of_mem hf
 have := h i hi
 rw [List.getD_eq_getElem?_getD, List.getElem?_eq_getElem hi] at this
 exact this
theorem H8 {d : Int} {l : List (List UInt8)} {i : Nat} {acc : List Tg} (hi : i < l.length) : gD d (l.drop i) acc = if (dy (d + 1) (l.getD i default)).2 ≠ 0 then ([], (dy (d + 1) (l.getD i default)).2) else gD d (l.drop (i + 1)) (acc ++ [(dy (d + 1) (l.getD i default)).1]) := by
 rw [List.drop_eq_getElem_cons hi, gD, List.getD_eq_getElem?_getD, List.getElem?_eq_getElem hi]; rfl
theorem z7 {d : Int} : ∀ {l : List (List UInt8)} {acc : List Tg}, (gD d l acc).2 ≠ 0 → (gD d l acc).1 = []
 | [], _, h => absurd rfl h
 | s :: l, acc, h => by
   rw [gD] at h ⊢
   split at h
   . rw [if_pos (by assumption)]
   . rw [if_neg (by assumption)]; exact z7 h
end Go.Proofs.YtipejldppicijaaGreatDoor
