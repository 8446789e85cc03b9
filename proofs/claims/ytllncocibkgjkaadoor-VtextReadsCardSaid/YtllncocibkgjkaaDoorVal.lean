/-
  A part of the proof.
-/
import Derived.Test.YtllncocibkgjkaaDoorB
set_option linter.unusedSimpArgs false
set_option linter.unusedVariables false
set_option maxHeartbeats 4000000
namespace Go.Proofs.YtllncocibkgjkaaDoor
open Go Go.VG
mutual
inductive ah where
 | mk (kind : Int) (text : List UInt8) (num bits : Int) (list : List ah) (map : List aD)
inductive aD where
 | mk (key : List UInt8) (value : ah)
end
instance : Inhabited ah := ⟨.mk 0 [] 0 0 [] []⟩
instance : Inhabited aD := ⟨.mk [] default⟩
def ah.kind : ah → Int | .mk k _ _ _ _ _ => k
def ah.text : ah → List UInt8 | .mk _ t _ _ _ _ => t
def ah.num : ah → Int | .mk _ _ n _ _ _ => n
def ah.bits : ah → Int | .mk _ _ _ b _ _ => b
def ah.list : ah → List ah | .mk _ _ _ _ l _ => l
def ah.map : ah → List aD | .mk _ _ _ _ _ m => m
def aD.key : aD → List UInt8 | .mk k _ => k
def aD.value : aD → ah | .mk _ v => v
mutual
def iT : ah → V
 | .mk k t n b l m => .agg [.int .u8 k, .str t, .int .i64 n, .int .u64 b, .list false 6 (eM l), .list false 7 (d8 m)]
def eM : List ah → List V
 | [] => []
 | v :: r => iT v :: eM r
def mC : aD → V
 | .mk k v => .agg (.str k :: (iT v).cells)
def d8 : List aD → List V
 | [] => []
 | a :: r => mC a :: d8 r
end
abbrev cv (v : ah) : List V := [.int .u8 v.kind, .str v.text, .int .i64 v.num, .int .u64 v.bits, .list false 6 (eM v.list), .list false 7 (d8 v.map)]
abbrev ev (v : ah) : V := .agg [.int .u8 v.kind, .str v.text, .int .i64 v.num, .int .u64 v.bits, .list false 6 (eM v.list), .list false 7 (d8 v.map)]
abbrev ea (a : aD) : V := .agg [.str a.key, .int .u8 a.value.kind, .str a.value.text, .int .i64 a.value.num, .int .u64 a.value.bits, .list false 6 (eM a.value.list), .list false 7 (d8 a.value.map)]
theorem mD (v : ah) : iT v = ev v := by cases v; simp [iT, ah.kind, ah.text, ah.num, ah.bits, ah.list, ah.map]
theorem Dz (a : aD) : mC a = ea a := by cases a; simp [mC, mD, V.cells, aD.key, aD.value]
theorem ug (l : List ah) : eM l = l.map ev := by induction l <;> simp_all [eM, mD]
theorem rF (l : List aD) : d8 l = l.map ea := by induction l <;> simp_all [d8, Dz]
@[simp] theorem nN (l : List ah) : (eM l).length = l.length := by simp [ug]
@[simp] theorem lp (l : List aD) : (d8 l).length = l.length := by simp [rF]
theorem bL {l : List ah} {n : Nat} {K : V → Prop} (h1 : a8 (n < l.length)) (h2 : K (ev (l.getD n default))) : aQ (eM l) (n : Int).toNat K := by
 rw [ug]; exact bf h1 h2
theorem bM {l : List aD} {n : Nat} {K : V → Prop} (h1 : a8 (n < l.length)) (h2 : K (ea (l.getD n default))) : aQ (d8 l) (n : Int).toNat K := by
 rw [rF]; exact bf h1 h2
mutual
def bW : V → ah
 | .agg [.int _ k, .str t, .int _ n, .int _ b, .list _ _ l, .list _ _ m] => .mk k t n b (kt l) (ku m)
 | _ => .mk 0 [] 0 0 [] []
def kt : List V → List ah
 | [] => []
 | x :: r => bW x :: kt r
def tY : V → aD
 | .agg [.str s, .int _ k, .str t, .int _ n, .int _ b, .list _ _ l, .list _ _ m] => .mk s (.mk k t n b (kt l) (ku m))
 | _ => .mk [] (.mk 0 [] 0 0 [] [])
def ku : List V → List aD
 | [] => []
 | x :: r => tY x :: ku r
end
mutual
theorem yu : ∀ v : ah, bW (iT v) = v
 | .mk k t n b l m => by simp [iT, bW, pB l, pC m]
theorem pB : ∀ l : List ah, kt (eM l) = l
 | [] => by simp [eM, kt]
 | v :: r => by simp [eM, kt, yu v, pB r]
theorem Di : ∀ a : aD, tY (mC a) = a
 | .mk s (.mk k t n b l m) => by simp [mC, iT, V.cells, tY, pB l, pC m]
theorem pC : ∀ l : List aD, ku (d8 l) = l
 | [] => by simp [d8, ku]
 | a :: r => by simp [d8, ku, Di a, pC r]
end
attribute [simp] pB pC
theorem aN (v : ah) : bW (ev v) = v := by rw [← mD, yu]
def yq : V → List ah
 | .list _ _ l => kt l
 | _ => []
def ll : V → List aD
 | .list _ _ l => ku l
 | _ => []
theorem Dk (c : Bool) (z : Nat) (l : List ah) : yq (.list c z (eM l)) = l := pB l
theorem bU (c : Bool) (z : Nat) (l : List aD) : ll (.list c z (d8 l)) = l := pC l
def fM (x : V) : Prop := Wk x (ev (bW x))
def isL (x : V) : Prop := Wk x (.list false 6 (eM (yq x)))
def isM (x : V) : Prop := Wk x (.list false 7 (d8 (ll x)))
theorem az (v : ah) : fM (ev v) := by unfold fM; rw [aN]; exact Wk.refl _
theorem cq (l : List ah) : isL (.list false 6 (eM l)) := by unfold isL; rw [Dk]; exact Wk.refl _
theorem aH (l : List aD) : isM (.list false 7 (d8 l)) := by unfold isM; rw [bU]; exact Wk.refl _
theorem tp {v : ah} (h : (ev v).wf) : (0 ≤ v.kind ∧ v.kind ≤ 255) ∧ v.text.length ≤ 9223372036854775807 ∧ (-9223372036854775808 ≤ v.num ∧ v.num ≤ 9223372036854775807) ∧ (0 ≤ v.bits ∧ v.bits ≤ 18446744073709551615) ∧
   (v.list.length ≤ 9223372036854775807 ∧ V.cY (eM v.list)) ∧ (v.map.length ≤ 9223372036854775807 ∧ V.cY (d8 v.map)) := by
 simp only [V.wf, V.cY] at h
 obtain ⟨h1, h2, h3, h4, h5, h6, _⟩ := h
 rw [nN] at h5
 rw [lp] at h6
 exact ⟨h1, h2, h3, h4, h5, h6⟩
mutual
def ah.nodes : ah → Nat
 | .mk _ _ _ _ l m => 1 + d9 l + cM m
def d9 : List ah → Nat
 | [] => 0
 | v :: r => v.nodes + d9 r
def aD.nodes : aD → Nat
 | .mk _ v => v.nodes
def cM : List aD → Nat
 | [] => 0
 | a :: r => a.nodes + cM r
end
theorem kP (v : ah) : v.nodes = 1 + d9 v.list + cM v.map := by cases v; simp [ah.nodes, ah.list, ah.map]
theorem vf (a : aD) : a.nodes = a.value.nodes := by cases a; simp [aD.nodes, aD.value]
theorem HW (l : List aD) : 0 ≤ cM l := Nat.zero_le _
theorem AO (v : ah) : 0 < v.nodes := by rw [kP]; omega
theorem vb {l : List ah} {i : Nat} (h : i < l.length) : (l.getD i default).nodes ≤ d9 l := by
 induction l generalizing i with
 | nil => simp at h
 | cons v r ih =>
   cases i with
   | zero => simp [d9]
   | succ i => have := ih (i := i) (by simpa using h); simp only [d9, List.getD_cons_succ]; omega
theorem ve {l : List aD} {i : Nat} (h : i < l.length) : (l.getD i default).value.nodes ≤ cM l := by
 induction l generalizing i with
 | nil => simp at h
 | cons v r ih =>
   cases i with
   | zero => simp [cM, vf]
   | succ i => have := ih (i := i) (by simpa using h); simp only [cM, List.getD_cons_succ]; omega
end Go.Proofs.YtllncocibkgjkaaDoor
