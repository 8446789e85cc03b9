/-
  A part of the proof.
-/
import Derived.Test.YtipejldppicijaaGreatDoorB
set_option linter.unusedSimpArgs false
set_option linter.unusedVariables false
set_option maxHeartbeats 4000000
namespace Go.Proofs.YtipejldppicijaaGreatDoor
open Go Go.VG
mutual
inductive af where
 | mk (kind : Int) (text : List UInt8) (num bits : Int) (list : List af) (map : List aw)
inductive aw where
 | mk (key : List UInt8) (value : af)
end
instance : Inhabited af := ⟨.mk 0 [] 0 0 [] []⟩
instance : Inhabited aw := ⟨.mk [] default⟩
def af.kind : af → Int | .mk k _ _ _ _ _ => k
def af.text : af → List UInt8 | .mk _ t _ _ _ _ => t
def af.num : af → Int | .mk _ _ n _ _ _ => n
def af.bits : af → Int | .mk _ _ _ b _ _ => b
def af.list : af → List af | .mk _ _ _ _ l _ => l
def af.map : af → List aw | .mk _ _ _ _ _ m => m
def aw.key : aw → List UInt8 | .mk k _ => k
def aw.value : aw → af | .mk _ v => v
mutual
def i6 : af → V
 | .mk k t n b l m => .agg [.int .u8 k, .str t, .int .i64 n, .int .u64 b, .list false 6 (dE l), .list false 7 (bW m)]
def dE : List af → List V
 | [] => []
 | v :: r => i6 v :: dE r
def kW : aw → V
 | .mk k v => .agg (.str k :: (i6 v).cells)
def bW : List aw → List V
 | [] => []
 | a :: r => kW a :: bW r
end
abbrev cv (v : af) : List V := [.int .u8 v.kind, .str v.text, .int .i64 v.num, .int .u64 v.bits, .list false 6 (dE v.list), .list false 7 (bW v.map)]
abbrev ev (v : af) : V := .agg [.int .u8 v.kind, .str v.text, .int .i64 v.num, .int .u64 v.bits, .list false 6 (dE v.list), .list false 7 (bW v.map)]
abbrev ea (a : aw) : V := .agg [.str a.key, .int .u8 a.value.kind, .str a.value.text, .int .i64 a.value.num, .int .u64 a.value.bits, .list false 6 (dE a.value.list), .list false 7 (bW a.value.map)]
theorem sx (v : af) : i6 v = ev v := by cases v; simp [i6, af.kind, af.text, af.num, af.bits, af.list, af.map]
theorem qi (a : aw) : kW a = ea a := by cases a; simp [kW, sx, V.cells, aw.key, aw.value]
theorem sw (l : List af) : dE l = l.map ev := by induction l <;> simp_all [dE, sx]
theorem qj (l : List aw) : bW l = l.map ea := by induction l <;> simp_all [bW, qi]
@[simp] theorem mf (l : List af) : (dE l).length = l.length := by simp [sw]
@[simp] theorem jq (l : List aw) : (bW l).length = l.length := by simp [qj]
theorem qz {l : List af} {n : Nat} {K : V → Prop} (h1 : a8 (n < l.length)) (h2 : K (ev (l.getD n default))) : dj (dE l) (n : Int).toNat K := by
 rw [sw]; exact ie h1 h2
theorem qA {l : List aw} {n : Nat} {K : V → Prop} (h1 : a8 (n < l.length)) (h2 : K (ea (l.getD n default))) : dj (bW l) (n : Int).toNat K := by
 rw [qj]; exact ie h1 h2
mutual
def b8 : V → af
 | .agg [.int _ k, .str t, .int _ n, .int _ b, .list _ _ l, .list _ _ m] => .mk k t n b (kU l) (iM m)
 | _ => .mk 0 [] 0 0 [] []
def kU : List V → List af
 | [] => []
 | x :: r => b8 x :: kU r
def cK : V → aw
 | .agg [.str s, .int _ k, .str t, .int _ n, .int _ b, .list _ _ l, .list _ _ m] => .mk s (.mk k t n b (kU l) (iM m))
 | _ => .mk [] (.mk 0 [] 0 0 [] [])
def iM : List V → List aw
 | [] => []
 | x :: r => cK x :: iM r
end
mutual
theorem wj : ∀ v : af, b8 (i6 v) = v
 | .mk k t n b l m => by simp [i6, b8, qe l, nS m]
theorem qe : ∀ l : List af, kU (dE l) = l
 | [] => by simp [dE, kU]
 | v :: r => by simp [dE, kU, wj v, qe r]
theorem wi : ∀ a : aw, cK (kW a) = a
 | .mk s (.mk k t n b l m) => by simp [kW, i6, V.cells, cK, qe l, nS m]
theorem nS : ∀ l : List aw, iM (bW l) = l
 | [] => by simp [bW, iM]
 | a :: r => by simp [bW, iM, wi a, nS r]
end
attribute [simp] qe nS
theorem aD (v : af) : b8 (ev v) = v := by rw [← sx, wj]
theorem sr (a : aw) : cK (ea a) = a := by rw [← qi, wi]
def decLv : V → List af
 | .list _ _ l => kU l
 | _ => []
def fv : V → List aw
 | .list _ _ l => iM l
 | _ => []
theorem m8 (c : Bool) (z : Nat) (l : List aw) : fv (.list c z (bW l)) = l := nS l
def eQ (x : V) : Prop := Wk x (ev (b8 x))
def jS (x : V) : Prop := Wk x (.list false 7 (bW (fv x)))
theorem bk (v : af) : eQ (ev v) := by unfold eQ; rw [aD]; exact Wk.refl _
theorem sS (l : List aw) : jS (.list false 7 (bW l)) := by unfold jS; rw [m8]; exact Wk.refl _
theorem nz {v : af} (h : (ev v).wf) : (0 ≤ v.kind ∧ v.kind ≤ 255) ∧ v.text.length ≤ 9223372036854775807 ∧ (-9223372036854775808 ≤ v.num ∧ v.num ≤ 9223372036854775807) ∧ (0 ≤ v.bits ∧ v.bits ≤ 18446744073709551615) ∧
   (v.list.length ≤ 9223372036854775807 ∧ V.bR (dE v.list)) ∧ (v.map.length ≤ 9223372036854775807 ∧ V.bR (bW v.map)) := by
 simp only [V.wf, V.bR] at h
 obtain ⟨h1, h2, h3, h4, h5, h6, _⟩ := h
 rw [mf] at h5
 rw [jq] at h6
 exact ⟨h1, h2, h3, h4, h5, h6⟩
mutual
def af.nodes : af → Nat
 | .mk _ _ _ _ l m => 1 + mZ l + eV m
def mZ : List af → Nat
 | [] => 0
 | v :: r => v.nodes + mZ r
def aw.nodes : aw → Nat
 | .mk _ v => v.nodes
def eV : List aw → Nat
 | [] => 0
 | a :: r => a.nodes + eV r
end
theorem j7 (v : af) : v.nodes = 1 + mZ v.list + eV v.map := by cases v; simp [af.nodes, af.list, af.map]
theorem GC (a : aw) : a.nodes = a.value.nodes := by cases a; simp [aw.nodes, aw.value]
theorem GB (l : List aw) : 0 ≤ eV l := Nat.zero_le _
theorem qS {l : List af} {i : Nat} (h : i < l.length) : (l.getD i default).nodes ≤ mZ l := by
 induction l generalizing i with
 | nil => simp at h
 | cons v r ih =>
   cases i with
   | zero => simp [mZ]
   | succ i => have := ih (i := i) (by simpa using h); simp only [mZ, List.getD_cons_succ]; omega
theorem qT {l : List aw} {i : Nat} (h : i < l.length) : (l.getD i default).value.nodes ≤ eV l := by
 induction l generalizing i with
 | nil => simp at h
 | cons v r ih =>
   cases i with
   | zero => simp [eV, GC]
   | succ i => have := ih (i := i) (by simpa using h); simp only [eV, List.getD_cons_succ]; omega
end Go.Proofs.YtipejldppicijaaGreatDoor
