/-
  A part of the proof.
-/
import Derived.Test.YtipejldppicijaaGreatDoorB
set_option linter.unusedSimpArgs false
set_option linter.unusedVariables false
set_option maxHeartbeats 4000000
namespace Go.Proofs.YtipejldppicijaaGreatDoor
open Go Go.VG
mutual
inductive aK where
 | mk (kind : Int) (text : List UInt8) (num bits : Int) (list : List aK) (map : List bc)
inductive bc where
 | mk (key : List UInt8) (value : aK)
end
instance : Inhabited aK := ⟨.mk 0 [] 0 0 [] []⟩
instance : Inhabited bc := ⟨.mk [] default⟩
def aK.kind : aK → Int | .mk k _ _ _ _ _ => k
def aK.text : aK → List UInt8 | .mk _ t _ _ _ _ => t
def aK.num : aK → Int | .mk _ _ n _ _ _ => n
def aK.bits : aK → Int | .mk _ _ _ b _ _ => b
def aK.list : aK → List aK | .mk _ _ _ _ l _ => l
def aK.map : aK → List bc | .mk _ _ _ _ _ m => m
def bc.key : bc → List UInt8 | .mk k _ => k
def bc.value : bc → aK | .mk _ v => v
mutual
def kz : aK → V
 | .mk k t n b l m => .agg [.int .u8 k, .str t, .int .i64 n, .int .u64 b, .list false 6 (fR l), .list false 7 (dg m)]
def fR : List aK → List V
 | [] => []
 | v :: r => kz v :: fR r
def nf : bc → V
 | .mk k v => .agg (.str k :: (kz v).cells)
def dg : List bc → List V
 | [] => []
 | a :: r => nf a :: dg r
end
abbrev cv (v : aK) : List V := [.int .u8 v.kind, .str v.text, .int .i64 v.num, .int .u64 v.bits, .list false 6 (fR v.list), .list false 7 (dg v.map)]
abbrev ev (v : aK) : V := .agg [.int .u8 v.kind, .str v.text, .int .i64 v.num, .int .u64 v.bits, .list false 6 (fR v.list), .list false 7 (dg v.map)]
abbrev ea (a : bc) : V := .agg [.str a.key, .int .u8 a.value.kind, .str a.value.text, .int .i64 a.value.num, .int .u64 a.value.bits, .list false 6 (fR a.value.list), .list false 7 (dg a.value.map)]
theorem rR (v : aK) : kz v = ev v := by cases v; simp [kz, aK.kind, aK.text, aK.num, aK.bits, aK.list, aK.map]
theorem AP (a : bc) : nf a = ea a := by cases a; simp [nf, rR, V.cells, bc.key, bc.value]
theorem vP (l : List aK) : fR l = l.map ev := by induction l <;> simp_all [fR, rR]
theorem rQ (l : List bc) : dg l = l.map ea := by induction l <;> simp_all [dg, AP]
@[simp] theorem rP (l : List aK) : (fR l).length = l.length := by simp [vP]
@[simp] theorem pf (l : List bc) : (dg l).length = l.length := by simp [rQ]
theorem Ee {l : List aK} {n : Nat} {K : V → Prop} (h1 : a7 (n < l.length)) (h2 : K (ev (l.getD n default))) : eH (fR l) (n : Int).toNat K := by
 rw [vP]; exact kN h1 h2
theorem Eg {l : List bc} {n : Nat} {K : V → Prop} (h1 : a7 (n < l.length)) (h2 : K (ea (l.getD n default))) : eH (dg l) (n : Int).toNat K := by
 rw [rQ]; exact kN h1 h2
mutual
def fv : V → aK
 | .agg [.int _ k, .str t, .int _ n, .int _ b, .list _ _ l, .list _ _ m] => .mk k t n b (iK l) (fP m)
 | _ => .mk 0 [] 0 0 [] []
def iK : List V → List aK
 | [] => []
 | x :: r => fv x :: iK r
def na : V → bc
 | .agg [.str s, .int _ k, .str t, .int _ n, .int _ b, .list _ _ l, .list _ _ m] => .mk s (.mk k t n b (iK l) (fP m))
 | _ => .mk [] (.mk 0 [] 0 0 [] [])
def fP : List V → List bc
 | [] => []
 | x :: r => na x :: fP r
end
mutual
theorem vB : ∀ v : aK, fv (kz v) = v
 | .mk k t n b l m => by simp [kz, fv, oZ l, nb m]
theorem oZ : ∀ l : List aK, iK (fR l) = l
 | [] => by simp [fR, iK]
 | v :: r => by simp [fR, iK, vB v, oZ r]
theorem At : ∀ a : bc, na (nf a) = a
 | .mk s (.mk k t n b l m) => by simp [nf, kz, V.cells, na, oZ l, nb m]
theorem nb : ∀ l : List bc, fP (dg l) = l
 | [] => by simp [dg, fP]
 | a :: r => by simp [dg, fP, At a, nb r]
end
attribute [simp] oZ nb
theorem gG (v : aK) : fv (ev v) = v := by rw [← rR, vB]
def decLv : V → List aK
 | .list _ _ l => iK l
 | _ => []
def gY : V → List bc
 | .list _ _ l => fP l
 | _ => []
theorem p0 (c : Bool) (z : Nat) (l : List bc) : gY (.list c z (dg l)) = l := nb l
def jO (x : V) : Prop := Wk x (ev (fv x))
def jN (x : V) : Prop := Wk x (.list false 7 (dg (gY x)))
theorem pF (v : aK) : jO (ev v) := by unfold jO; rw [gG]; exact Wk.refl _
theorem wS (l : List bc) : jN (.list false 7 (dg l)) := by unfold jN; rw [p0]; exact Wk.refl _
theorem zX {v : aK} (h : (ev v).wf) : (0 ≤ v.kind ∧ v.kind ≤ 255) ∧ v.text.length ≤ 9223372036854775807 ∧ (-9223372036854775808 ≤ v.num ∧ v.num ≤ 9223372036854775807) ∧ (0 ≤ v.bits ∧ v.bits ≤ 18446744073709551615) ∧
   (v.list.length ≤ 9223372036854775807 ∧ V.cL (fR v.list)) ∧ (v.map.length ≤ 9223372036854775807 ∧ V.cL (dg v.map)) := by
 simp only [V.wf, V.cL] at h
 obtain ⟨h1, h2, h3, h4, h5, h6, _⟩ := h
 rw [rP] at h5
 rw [pf] at h6
 exact ⟨h1, h2, h3, h4, h5, h6⟩
mutual
def aK.nodes : aK → Nat
 | .mk _ _ _ _ l m => 1 + ml l + gO m
def ml : List aK → Nat
 | [] => 0
 | v :: r => v.nodes + ml r
def bc.nodes : bc → Nat
 | .mk _ v => v.nodes
def gO : List bc → Nat
 | [] => 0
 | a :: r => a.nodes + gO r
end
theorem y8 (v : aK) : v.nodes = 1 + ml v.list + gO v.map := by cases v; simp [aK.nodes, aK.list, aK.map]
theorem G0 (a : bc) : a.nodes = a.value.nodes := by cases a; simp [bc.nodes, bc.value]
theorem FY {l : List aK} {i : Nat} (h : i < l.length) : (l.getD i default).nodes ≤ ml l := by
 induction l generalizing i with
 | nil => simp at h
 | cons v r ih =>
   cases i with
   | zero => simp [ml]
   | succ i => have := ih (i := i) (by simpa using h); simp only [ml, List.getD_cons_succ]; omega
theorem FZ {l : List bc} {i : Nat} (h : i < l.length) : (l.getD i default).value.nodes ≤ gO l := by
 induction l generalizing i with
 | nil => simp at h
 | cons v r ih =>
   cases i with
   | zero => simp [gO, G0]
   | succ i => have := ih (i := i) (by simpa using h); simp only [gO, List.getD_cons_succ]; omega
end Go.Proofs.YtipejldppicijaaGreatDoor
