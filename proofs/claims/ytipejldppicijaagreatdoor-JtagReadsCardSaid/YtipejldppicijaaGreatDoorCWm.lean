/-
  A part of the proof.
-/
import Derived.Test.YtipejldppicijaaGreatDoorCWc
set_option linter.unusedSimpArgs false
set_option linter.unusedVariables false
set_option maxHeartbeats 4000000
namespace Go.Proofs.YtipejldppicijaaGreatDoor
open Go Go.VG
set_option maxRecDepth 100000
end Go.Proofs.YtipejldppicijaaGreatDoor
namespace Go.Proofs.YtipejldppicijaaGreatDoor
open Go Go.VG
set_option maxRecDepth 100000
structure Pl where
 li : Bool
 last : Int
 left : Int
 kd : Int
instance : Inhabited Pl := ⟨⟨false, 0, 0, 0⟩⟩
structure CS where
 out : List UInt8
 l : List Pl
 code : Int
structure iD where
 kind : Int
 id : Int
 n : Int
 what : Int
 bits : Int
 text : List UInt8
instance : Inhabited iD := ⟨⟨0, 0, 0, 0, 0, []⟩⟩
abbrev eP (p : Pl) : V := .agg [.bool p.li, .int .i64 p.last, .int .i64 p.left, .int .u8 p.kd]
abbrev b6 (w : CS) : List O := [.cells [.buf 1, .buf 2, .int .i64 w.code], .buf 1 0 (bl w.out), .buf 4 0 (w.l.map eP)]
def mO : List V → List UInt8
 | [] => []
 | .int _ n :: r => byte n :: mO r
 | _ :: r => 0 :: mO r
@[simp] theorem ubC_bl (s : List UInt8) : mO (bl s) = s := by
 induction s with
 | nil => rfl
 | cons b s ih => simp only [bl, bv, mO, ih, rF]
def mP : List V → List Pl
 | [] => []
 | .agg [.bool b, .int _ m, .int _ n, .int _ k] :: r => ⟨b, m, n, k⟩ :: mP r
 | _ :: r => default :: mP r
@[simp] theorem upl_map (l : List Pl) : mP (l.map eP) = l := by
 induction l with
 | nil => rfl
 | cons b s ih => simp only [List.map_cons, mP, ih]
def aX (o l : List V) (c : Int) : CS := ⟨mO o, mP l, c⟩
@[simp] theorem ep (w : CS) : aX (bl w.out) (w.l.map eP) w.code = w := by simp [aX]
@[simp] theorem vA (o : List UInt8) (l : List Pl) (c : Int) : aX (bl o) (l.map eP) c = ⟨o, l, c⟩ := by simp [aX]
def du (o l : List V) : Prop := o = bl (mO o) ∧ l = (mP l).map eP ∧ o.length ≤ 1900000000 ∧ l.length ≤ 1000
theorem bU {s : List UInt8} {l : List Pl} (h : s.length ≤ 1900000000) (k : l.length ≤ 1000) : du (bl s) (l.map eP) := by
 refine ⟨by simp, by simp, by simpa [dL] using h, by simpa using k⟩
theorem fh {o l : List V} {c : Int} (k : du o l) : [O.cells [.buf 1, .buf 2, .int .i64 c], .buf 1 0 o, .buf 4 0 l] = b6 (aX o l c) := by
 unfold b6 aX; rw [← k.1, ← k.2.1]
theorem viewP {b : Bool} {m n k : Int} (_ : True) : V.agg [.bool b, .int .i64 m, .int .i64 n, .int .u8 k] = eP ⟨b, m, n, k⟩ := rfl
def CS.fail (s : CS) (c : Int) : CS := if s.code = 0 then { s with code := c } else s
def CS.top (s : CS) : Pl := s.l.getD (s.l.length - 1) default
def CS.jZ (s : CS) (p : Pl) : CS := { s with l := s.l.set (s.l.length - 1) p }
def CS.may (s : CS) (id k : Int) : CS × Bool :=
 if s.code ≠ 0 then (s, false)
 else if s.l.length = 0 then ({ s with code := 12 }, false)
 else if s.top.li = true then
  if s.top.left = 0 then ({ s with code := 12 }, false)
  else if fH (byte s.top.kd) (byte k) = true then (s.jZ { s.top with left := IntKind.i64.wrap (s.top.left - 1) }, true)
  else ({ s with code := 12 }, false)
 else if (l5 s.top.last id (byte k)).length = 0 then ({ s with code := 4 }, false)
 else ({ s.jZ { s.top with last := id } with out := s.out ++ l5 s.top.last id (byte k) }, true)
def CS.put (s : CS) (id k : Int) (b : List UInt8) : CS := if (s.may id k).2 = true then { (s.may id k).1 with out := (s.may id k).1.out ++ b } else (s.may id k).1
def CS.pw (s : CS) (id k : Int) : CS :=
 if (s.may id k).2 = true then if (s.may id k).1.top.li = true then { (s.may id k).1 with out := (s.may id k).1.out ++ [byte k] } else (s.may id k).1 else (s.may id k).1
def CS.flag (s : CS) (id : Int) (b : Bool) : CS := if b = true then s.pw id 1 else s.pw id 2
def iI (k : Int) : Int := if k = 3 then 8 else if k = 4 then 16 else if k = 5 then 32 else if k = 6 then 64 else 0
def CS.whole (s : CS) (id k n : Int) : CS :=
 if s.code ≠ 0 then s
 else if iI k = 0 then { s with code := 7 }
 else if b7 n (iI k) ≠ 0 then { s with code := b7 n (iI k) }
 else s.put id k (if k = 3 then [byte (dU n 8)] else cg (iA n))
def CS.begin (s : CS) (p : Pl) : CS := { s with l := s.l ++ [p] }
def CS.struct (s : CS) (id : Int) : CS :=
 if s.code ≠ 0 then s
 else if s.l.length ≥ 32 then { s with code := 33 }
 else if s.l.length = 0 then s.begin ⟨false, 0, 0, 0⟩
 else if (s.may id 12).2 = true then (s.may id 12).1.begin ⟨false, 0, 0, 0⟩ else (s.may id 12).1
def CS.list (s : CS) (id n k : Int) : CS :=
 if s.code ≠ 0 then s
 else if s.l.length ≥ 32 then { s with code := 33 }
 else if (l6 n (byte k)).length = 0 then { s with code := 4 }
 else if (s.may id 9).2 = true then { (s.may id 9).1 with out := (s.may id 9).1.out ++ l6 n (byte k), l := (s.may id 9).1.l ++ [⟨true, 0, n, k⟩] } else (s.may id 9).1
def CS.fin (s : CS) : CS :=
 if s.code ≠ 0 then s
 else if s.l.length = 0 then { s with code := 12 }
 else if s.top.left > 0 then { s with code := 12 }
 else if s.top.li = true then { s with l := s.l.take (s.l.length - 1) }
 else { s with out := s.out ++ [0], l := s.l.take (s.l.length - 1) }
def CS.done (s : CS) : List UInt8 × Int := if s.code ≠ 0 then ([], s.code) else if s.l.length > 0 then ([], 1) else (s.out, 0)
def CS.new : CS := ⟨[], [], 0⟩
def CS.op (s : CS) (o : iD) : CS :=
 if o.kind = 123 then s.struct o.id
 else if o.kind = 91 then s.list o.id o.n o.what
 else if o.kind = 101 then s.fin
 else if o.kind = 102 then s.flag o.id (o.n == 1)
 else if o.kind = 110 then s.whole o.id o.what o.n
 else if o.kind = 100 then s.put o.id 7 (low 8 o.bits.toNat)
 else s.put o.id 8 (cg o.text.length ++ o.text)
theorem rG {c : Prop} [Decidable c] {ρ : Nat → Option Nat} {a b : V} {K : V → Prop} (h1 : c → eM (a.aQ ρ) K) (h2 : ¬ c → eM (b.aQ ρ) K) : eM ((if c then a else b).aQ ρ) K := by
 by_cases h : c
 . rw [if_pos h]; exact h1 h
 . rw [if_neg h]; exact h2 h
theorem se {w : CS} {n : Nat} {K : V → Prop} (h1 : a7 (n + 1 = w.l.length)) (h2 : K (eP w.top)) : eH (w.l.map eP) n K := by
 obtain rfl : n = w.l.length - 1 := by have := h1.h; omega
 exact kN ⟨by have := h1.h; omega⟩ h2
theorem iR {w : CS} {c : Int} (h : w.code = 0) : w.fail c = { w with code := c } := by unfold CS.fail; rw [if_pos h]
theorem gM {b : Bool} (h : b = false) : ¬ b = true := by rw [h]; decide
theorem l8 {a b : UInt8} : fH a b = true ↔ (a.toNat = b.toNat ∨ ((1 ≤ a.toNat ∧ a.toNat ≤ 2) ∧ 1 ≤ b.toNat ∧ b.toNat ≤ 2)) := decide_eq_true_iff
theorem wf_pl {l : List Pl} (h : V.cL (l.map eP)) (hn : ¬ l.length = 0) : 0 ≤ (l.getD (l.length - 1) default).kd ∧ (l.getD (l.length - 1) default).kd ≤ 255 := by
 have hi : l.length - 1 < l.length := by omega
 have := uC.1 h (eP (l.getD (l.length - 1) default)) (List.mem_map.2 ⟨_, by rw [List.getD_eq_getElem?_getD, List.getElem?_eq_getElem hi]; exact List.getElem_mem hi, rfl⟩)
 exact this.2.2.2.1
theorem HF {w : CS} (h : eb (b6 w)) (hn : ¬ w.l.length = 0) : 0 ≤ w.top.kd ∧ w.top.kd ≤ 255 := wf_pl h.2.2.1.2 hn
end Go.Proofs.YtipejldppicijaaGreatDoor
