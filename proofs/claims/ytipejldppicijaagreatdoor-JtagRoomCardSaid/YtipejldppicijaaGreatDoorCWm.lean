/-
  A part of the proof.
-/
import Derived.Test.YtipejldppicijaaGreatDoorCWc
set_option linter.unusedSimpArgs false
set_option linter.unusedVariables false
set_option maxHeartbeats 4000000
namespace Go.Proofs.YtipejldppicijaaGreatDoor
open Go Go.VG
set_option maxRecDepth 100000
end Go.Proofs.YtipejldppicijaaGreatDoor
namespace Go.Proofs.YtipejldppicijaaGreatDoor
open Go Go.VG
set_option maxRecDepth 100000
structure Pl where
 li : Bool
 last : Int
 left : Int
 kd : Int
instance : Inhabited Pl := ⟨⟨false, 0, 0, 0⟩⟩
structure CS where
 out : List UInt8
 l : List Pl
 code : Int
structure iG where
 kind : Int
 id : Int
 n : Int
 what : Int
 bits : Int
 text : List UInt8
instance : Inhabited iG := ⟨⟨0, 0, 0, 0, 0, []⟩⟩
abbrev eP (p : Pl) : V := .agg [.bool p.li, .int .i64 p.last, .int .i64 p.left, .int .u8 p.kd]
abbrev aM (w : CS) : List O := [.cells [.buf 1, .buf 2, .int .i64 w.code], .buf 1 0 (bl w.out), .buf 4 0 (w.l.map eP)]
def nv : List V → List UInt8
 | [] => []
 | .int _ n :: r => byte n :: nv r
 | _ :: r => 0 :: nv r
@[simp] theorem ubC_bl (s : List UInt8) : nv (bl s) = s := by
 induction s with
 | nil => rfl
 | cons b s ih => simp only [bl, bv, nv, ih, sk]
def nx : List V → List Pl
 | [] => []
 | .agg [.bool b, .int _ m, .int _ n, .int _ k] :: r => ⟨b, m, n, k⟩ :: nx r
 | _ :: r => default :: nx r
@[simp] theorem upl_map (l : List Pl) : nx (l.map eP) = l := by
 induction l with
 | nil => rfl
 | cons b s ih => simp only [List.map_cons, nx, ih]
def aU (o l : List V) (c : Int) : CS := ⟨nv o, nx l, c⟩
@[simp] theorem bu (w : CS) : aU (bl w.out) (w.l.map eP) w.code = w := by simp [aU]
@[simp] theorem wh (o : List UInt8) (l : List Pl) (c : Int) : aU (bl o) (l.map eP) c = ⟨o, l, c⟩ := by simp [aU]
def d7 (o l : List V) : Prop := o = bl (nv o) ∧ l = (nx l).map eP ∧ o.length ≤ 1900000000 ∧ l.length ≤ 1000
theorem aP {s : List UInt8} {l : List Pl} (h : s.length ≤ 1900000000) (k : l.length ≤ 1000) : d7 (bl s) (l.map eP) := by
 refine ⟨by simp, by simp, by simpa [bC] using h, by simpa using k⟩
theorem ee {o l : List V} {c : Int} (k : d7 o l) : [O.cells [.buf 1, .buf 2, .int .i64 c], .buf 1 0 o, .buf 4 0 l] = aM (aU o l c) := by
 unfold aM aU; rw [← k.1, ← k.2.1]
theorem viewP {b : Bool} {m n k : Int} (_ : True) : V.agg [.bool b, .int .i64 m, .int .i64 n, .int .u8 k] = eP ⟨b, m, n, k⟩ := rfl
def CS.fail (s : CS) (c : Int) : CS := if s.code = 0 then { s with code := c } else s
def CS.top (s : CS) : Pl := s.l.getD (s.l.length - 1) default
def CS.kj (s : CS) (p : Pl) : CS := { s with l := s.l.set (s.l.length - 1) p }
def CS.may (s : CS) (id k : Int) : CS × Bool :=
 if s.code ≠ 0 then (s, false)
 else if s.l.length = 0 then ({ s with code := 12 }, false)
 else if s.top.li = true then
  if s.top.left = 0 then ({ s with code := 12 }, false)
  else if gY (byte s.top.kd) (byte k) = true then (s.kj { s.top with left := IntKind.i64.wrap (s.top.left - 1) }, true)
  else ({ s with code := 12 }, false)
 else if (bQ s.top.last id (byte k)).length = 0 then ({ s with code := 4 }, false)
 else ({ s.kj { s.top with last := id } with out := s.out ++ bQ s.top.last id (byte k) }, true)
def CS.put (s : CS) (id k : Int) (b : List UInt8) : CS := if (s.may id k).2 = true then { (s.may id k).1 with out := (s.may id k).1.out ++ b } else (s.may id k).1
def CS.mB (s : CS) (id k : Int) : CS :=
 if (s.may id k).2 = true then if (s.may id k).1.top.li = true then { (s.may id k).1 with out := (s.may id k).1.out ++ [byte k] } else (s.may id k).1 else (s.may id k).1
def CS.flag (s : CS) (id : Int) (b : Bool) : CS := if b = true then s.mB id 1 else s.mB id 2
def gL (k : Int) : Int := if k = 3 then 8 else if k = 4 then 16 else if k = 5 then 32 else if k = 6 then 64 else 0
def CS.whole (s : CS) (id k n : Int) : CS :=
 if s.code ≠ 0 then s
 else if gL k = 0 then { s with code := 7 }
 else if bJ n (gL k) ≠ 0 then { s with code := bJ n (gL k) }
 else s.put id k (if k = 3 then [byte (ib n 8)] else aY (fj n))
def CS.begin (s : CS) (p : Pl) : CS := { s with l := s.l ++ [p] }
def CS.struct (s : CS) (id : Int) : CS :=
 if s.code ≠ 0 then s
 else if s.l.length ≥ 32 then { s with code := 33 }
 else if s.l.length = 0 then s.begin ⟨false, 0, 0, 0⟩
 else if (s.may id 12).2 = true then (s.may id 12).1.begin ⟨false, 0, 0, 0⟩ else (s.may id 12).1
def CS.list (s : CS) (id n k : Int) : CS :=
 if s.code ≠ 0 then s
 else if s.l.length ≥ 32 then { s with code := 33 }
 else if (lB n (byte k)).length = 0 then { s with code := 4 }
 else if (s.may id 9).2 = true then { (s.may id 9).1 with out := (s.may id 9).1.out ++ lB n (byte k), l := (s.may id 9).1.l ++ [⟨true, 0, n, k⟩] } else (s.may id 9).1
def CS.fin (s : CS) : CS :=
 if s.code ≠ 0 then s
 else if s.l.length = 0 then { s with code := 12 }
 else if s.top.left > 0 then { s with code := 12 }
 else if s.top.li = true then { s with l := s.l.take (s.l.length - 1) }
 else { s with out := s.out ++ [0], l := s.l.take (s.l.length - 1) }
def CS.done (s : CS) : List UInt8 × Int := if s.code ≠ 0 then ([], s.code) else if s.l.length > 0 then ([], 1) else (s.out, 0)
def CS.new : CS := ⟨[], [], 0⟩
def CS.op (s : CS) (o : iG) : CS :=
 if o.kind = 123 then s.struct o.id
 else if o.kind = 91 then s.list o.id o.n o.what
 else if o.kind = 101 then s.fin
 else if o.kind = 102 then s.flag o.id (o.n == 1)
 else if o.kind = 110 then s.whole o.id o.what o.n
 else if o.kind = 100 then s.put o.id 7 (low 8 o.bits.toNat)
 else s.put o.id 8 (aY o.text.length ++ o.text)
theorem sl {c : Prop} [Decidable c] {ρ : Nat → Option Nat} {a b : V} {K : V → Prop} (h1 : c → eK (a.aR ρ) K) (h2 : ¬ c → eK (b.aR ρ) K) : eK ((if c then a else b).aR ρ) K := by
 by_cases h : c
 . rw [if_pos h]; exact h1 h
 . rw [if_neg h]; exact h2 h
theorem sR {w : CS} {n : Nat} {K : V → Prop} (h1 : a8 (n + 1 = w.l.length)) (h2 : K (eP w.top)) : dj (w.l.map eP) n K := by
 obtain rfl : n = w.l.length - 1 := by have := h1.h; omega
 exact ie ⟨by have := h1.h; omega⟩ h2
theorem iS {w : CS} {c : Int} (h : w.code = 0) : w.fail c = { w with code := c } := by unfold CS.fail; rw [if_pos h]
theorem gw {b : Bool} (h : b = false) : ¬ b = true := by rw [h]; decide
theorem oZ {a b : UInt8} : gY a b = true ↔ (a.toNat = b.toNat ∨ ((1 ≤ a.toNat ∧ a.toNat ≤ 2) ∧ 1 ≤ b.toNat ∧ b.toNat ≤ 2)) := decide_eq_true_iff
theorem wf_pl {l : List Pl} (h : V.bR (l.map eP)) (hn : ¬ l.length = 0) : 0 ≤ (l.getD (l.length - 1) default).kd ∧ (l.getD (l.length - 1) default).kd ≤ 255 := by
 have hi : l.length - 1 < l.length := by omega
 have := vu.1 h (eP (l.getD (l.length - 1) default)) (List.mem_map.2 ⟨_, by rw [List.getD_eq_getElem?_getD, List.getElem?_eq_getElem hi]; exact List.getElem_mem hi, rfl⟩)
 exact this.2.2.2.1
theorem IJ {w : CS} (h : eh (aM w)) (hn : ¬ w.l.length = 0) : 0 ≤ w.top.kd ∧ w.top.kd ≤ 255 := wf_pl h.2.2.1.2 hn
end Go.Proofs.YtipejldppicijaaGreatDoor
