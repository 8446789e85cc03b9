/-
  A part of the proof.
-/
import Derived.Test.YtdjolnjlhbfnmaaGreatDoorB
set_option linter.unusedSimpArgs false
set_option linter.unusedVariables false
set_option maxHeartbeats 4000000
namespace Go.Proofs.YtdjolnjlhbfnmaaGreatDoor
open Go Go.VG
mutual
inductive aK where
 | mk (kind : Int) (text : List UInt8) (num bits : Int) (list : List aK) (map : List aG)
inductive aG where
 | mk (key : List UInt8) (value : aK)
end
instance : Inhabited aK := ⟨.mk 0 [] 0 0 [] []⟩
instance : Inhabited aG := ⟨.mk [] default⟩
def aK.kind : aK → Int | .mk k _ _ _ _ _ => k
def aK.text : aK → List UInt8 | .mk _ t _ _ _ _ => t
def aK.num : aK → Int | .mk _ _ n _ _ _ => n
def aK.bits : aK → Int | .mk _ _ _ b _ _ => b
def aK.list : aK → List aK | .mk _ _ _ _ l _ => l
def aK.map : aK → List aG | .mk _ _ _ _ _ m => m
def aG.key : aG → List UInt8 | .mk k _ => k
def aG.value : aG → aK | .mk _ v => v
mutual
def nZ : aK → V
 | .mk k t n b l m => .agg [.int .u8 k, .str t, .int .i64 n, .int .u64 b, .list false 6 (dK l), .list false 7 (aV m)]
def dK : List aK → List V
 | [] => []
 | v :: r => nZ v :: dK r
def r7 : aG → V
 | .mk k v => .agg (.str k :: (nZ v).cells)
def aV : List aG → List V
 | [] => []
 | a :: r => r7 a :: aV r
end
abbrev cv (v : aK) : List V := [.int .u8 v.kind, .str v.text, .int .i64 v.num, .int .u64 v.bits, .list false 6 (dK v.list), .list false 7 (aV v.map)]
abbrev ev (v : aK) : V := .agg [.int .u8 v.kind, .str v.text, .int .i64 v.num, .int .u64 v.bits, .list false 6 (dK v.list), .list false 7 (aV v.map)]
abbrev ea (a : aG) : V := .agg [.str a.key, .int .u8 a.value.kind, .str a.value.text, .int .i64 a.value.num, .int .u64 a.value.bits, .list false 6 (dK a.value.list), .list false 7 (aV a.value.map)]
theorem w7 (v : aK) : nZ v = ev v := by cases v; simp [nZ, aK.kind, aK.text, aK.num, aK.bits, aK.list, aK.map]
theorem Bg (a : aG) : r7 a = ea a := by cases a; simp [r7, w7, V.cells, aG.key, aG.value]
theorem pg (l : List aK) : dK l = l.map ev := by induction l <;> simp_all [dK, w7]
theorem gP (l : List aG) : aV l = l.map ea := by induction l <;> simp_all [aV, Bg]
@[simp] theorem nY (l : List aK) : (dK l).length = l.length := by simp [pg]
@[simp] theorem jH (l : List aG) : (aV l).length = l.length := by simp [gP]
theorem wv {l : List aK} {n : Nat} {K : V → Prop} (h1 : ae (n < l.length)) (h2 : K (ev (l.getD n default))) : ez (dK l) (n : Int).toNat K := by
 rw [pg]; exact kG h1 h2
theorem rv {l : List aG} {n : Nat} {K : V → Prop} (h1 : ae (n < l.length)) (h2 : K (ea (l.getD n default))) : ez (aV l) (n : Int).toNat K := by
 rw [gP]; exact kG h1 h2
mutual
def kx : V → aK
 | .agg [.int _ k, .str t, .int _ n, .int _ b, .list _ _ l, .list _ _ m] => .mk k t n b (nU l) (jE m)
 | _ => .mk 0 [] 0 0 [] []
def nU : List V → List aK
 | [] => []
 | x :: r => kx x :: nU r
def p8 : V → aG
 | .agg [.str s, .int _ k, .str t, .int _ n, .int _ b, .list _ _ l, .list _ _ m] => .mk s (.mk k t n b (nU l) (jE m))
 | _ => .mk [] (.mk 0 [] 0 0 [] [])
def jE : List V → List aG
 | [] => []
 | x :: r => p8 x :: jE r
end
mutual
theorem B4 : ∀ v : aK, kx (nZ v) = v
 | .mk k t n b l m => by simp [nZ, kx, tk l, lh m]
theorem tk : ∀ l : List aK, nU (dK l) = l
 | [] => by simp [dK, nU]
 | v :: r => by simp [dK, nU, B4 v, tk r]
theorem B3 : ∀ a : aG, p8 (r7 a) = a
 | .mk s (.mk k t n b l m) => by simp [r7, nZ, V.cells, p8, tk l, lh m]
theorem lh : ∀ l : List aG, jE (aV l) = l
 | [] => by simp [aV, jE]
 | a :: r => by simp [aV, jE, B3 a, lh r]
end
attribute [simp] tk lh
theorem fU (v : aK) : kx (ev v) = v := by rw [← w7, B4]
theorem B1 (a : aG) : p8 (ea a) = a := by rw [← Bg, B3]
def decLv : V → List aK
 | .list _ _ l => nU l
 | _ => []
def iG : V → List aG
 | .list _ _ l => jE l
 | _ => []
theorem eM (c : Bool) (z : Nat) (l : List aG) : iG (.list c z (aV l)) = l := lh l
def isV (x : V) : Prop := Wk x (ev (kx x))
def kJ (x : V) : Prop := Wk x (.list false 7 (aV (iG x)))
theorem lC (v : aK) : isV (ev v) := by unfold isV; rw [fU]; exact Wk.refl _
theorem eP (l : List aG) : kJ (.list false 7 (aV l)) := by unfold kJ; rw [eM]; exact Wk.refl _
theorem Fc {v : aK} (h : (ev v).wf) : (0 ≤ v.kind ∧ v.kind ≤ 255) ∧ v.text.length ≤ 9223372036854775807 ∧ (-9223372036854775808 ≤ v.num ∧ v.num ≤ 9223372036854775807) ∧ (0 ≤ v.bits ∧ v.bits ≤ 18446744073709551615) ∧
   (v.list.length ≤ 9223372036854775807 ∧ V.ee (dK v.list)) ∧ (v.map.length ≤ 9223372036854775807 ∧ V.ee (aV v.map)) := by
 simp only [V.wf, V.ee] at h
 obtain ⟨h1, h2, h3, h4, h5, h6, _⟩ := h
 rw [nY] at h5
 rw [jH] at h6
 exact ⟨h1, h2, h3, h4, h5, h6⟩
mutual
def aK.nodes : aK → Nat
 | .mk _ _ _ _ l m => 1 + dq l + bd m
def dq : List aK → Nat
 | [] => 0
 | v :: r => v.nodes + dq r
def aG.nodes : aG → Nat
 | .mk _ v => v.nodes
def bd : List aG → Nat
 | [] => 0
 | a :: r => a.nodes + bd r
end
theorem rV (v : aK) : v.nodes = 1 + dq v.list + bd v.map := by cases v; simp [aK.nodes, aK.list, aK.map]
theorem D5 (a : aG) : a.nodes = a.value.nodes := by cases a; simp [aG.nodes, aG.value]
theorem D6 (v : aK) : 0 < v.nodes := by rw [rV]; omega
theorem xj {l : List aK} {i : Nat} (h : i < l.length) : (l.getD i default).nodes ≤ dq l := by
 induction l generalizing i with
 | nil => simp at h
 | cons v r ih =>
   cases i with
   | zero => simp [dq]
   | succ i => have := ih (i := i) (by simpa using h); simp only [dq, List.getD_cons_succ]; omega
theorem xk {l : List aG} {i : Nat} (h : i < l.length) : (l.getD i default).value.nodes ≤ bd l := by
 induction l generalizing i with
 | nil => simp at h
 | cons v r ih =>
   cases i with
   | zero => simp [bd, D5]
   | succ i => have := ih (i := i) (by simpa using h); simp only [bd, List.getD_cons_succ]; omega
end Go.Proofs.YtdjolnjlhbfnmaaGreatDoor
