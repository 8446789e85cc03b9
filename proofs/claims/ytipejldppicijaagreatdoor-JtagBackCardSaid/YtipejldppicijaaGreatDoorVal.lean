/-
  A part of the proof.
-/
import Derived.Test.YtipejldppicijaaGreatDoorB
set_option linter.unusedSimpArgs false
set_option linter.unusedVariables false
set_option maxHeartbeats 4000000
namespace Go.Proofs.YtipejldppicijaaGreatDoor
open Go Go.VG
mutual
inductive ae where
 | mk (kind : Int) (text : List UInt8) (num bits : Int) (list : List ae) (map : List ak)
inductive ak where
 | mk (key : List UInt8) (value : ae)
end
instance : Inhabited ae := ⟨.mk 0 [] 0 0 [] []⟩
instance : Inhabited ak := ⟨.mk [] default⟩
def ae.kind : ae → Int | .mk k _ _ _ _ _ => k
def ae.text : ae → List UInt8 | .mk _ t _ _ _ _ => t
def ae.num : ae → Int | .mk _ _ n _ _ _ => n
def ae.bits : ae → Int | .mk _ _ _ b _ _ => b
def ae.list : ae → List ae | .mk _ _ _ _ l _ => l
def ae.map : ae → List ak | .mk _ _ _ _ _ m => m
def ak.key : ak → List UInt8 | .mk k _ => k
def ak.value : ak → ae | .mk _ v => v
mutual
def j8 : ae → V
 | .mk k t n b l m => .agg [.int .u8 k, .str t, .int .i64 n, .int .u64 b, .list false 6 (eo l), .list false 7 (bB m)]
def eo : List ae → List V
 | [] => []
 | v :: r => j8 v :: eo r
def mb : ak → V
 | .mk k v => .agg (.str k :: (j8 v).cells)
def bB : List ak → List V
 | [] => []
 | a :: r => mb a :: bB r
end
abbrev cv (v : ae) : List V := [.int .u8 v.kind, .str v.text, .int .i64 v.num, .int .u64 v.bits, .list false 6 (eo v.list), .list false 7 (bB v.map)]
abbrev ev (v : ae) : V := .agg [.int .u8 v.kind, .str v.text, .int .i64 v.num, .int .u64 v.bits, .list false 6 (eo v.list), .list false 7 (bB v.map)]
abbrev ea (a : ak) : V := .agg [.str a.key, .int .u8 a.value.kind, .str a.value.text, .int .i64 a.value.num, .int .u64 a.value.bits, .list false 6 (eo a.value.list), .list false 7 (bB a.value.map)]
theorem uO (v : ae) : j8 v = ev v := by cases v; simp [j8, ae.kind, ae.text, ae.num, ae.bits, ae.list, ae.map]
theorem yY (a : ak) : mb a = ea a := by cases a; simp [mb, uO, V.cells, ak.key, ak.value]
theorem uN (l : List ae) : eo l = l.map ev := by induction l <;> simp_all [eo, uO]
theorem iH (l : List ak) : bB l = l.map ea := by induction l <;> simp_all [bB, yY]
@[simp] theorem kx (l : List ae) : (eo l).length = l.length := by simp [uN]
@[simp] theorem iG (l : List ak) : (bB l).length = l.length := by simp [iH]
theorem pG {l : List ae} {n : Nat} {K : V → Prop} (h1 : a8 (n < l.length)) (h2 : K (ev (l.getD n default))) : dP (eo l) (n : Int).toNat K := by
 rw [uN]; exact iL h1 h2
theorem nR {l : List ak} {n : Nat} {K : V → Prop} (h1 : a8 (n < l.length)) (h2 : K (ea (l.getD n default))) : dP (bB l) (n : Int).toNat K := by
 rw [iH]; exact iL h1 h2
mutual
def aY : V → ae
 | .agg [.int _ k, .str t, .int _ n, .int _ b, .list _ _ l, .list _ _ m] => .mk k t n b (kt l) (fh m)
 | _ => .mk 0 [] 0 0 [] []
def kt : List V → List ae
 | [] => []
 | x :: r => aY x :: kt r
def cD : V → ak
 | .agg [.str s, .int _ k, .str t, .int _ n, .int _ b, .list _ _ l, .list _ _ m] => .mk s (.mk k t n b (kt l) (fh m))
 | _ => .mk [] (.mk 0 [] 0 0 [] [])
def fh : List V → List ak
 | [] => []
 | x :: r => cD x :: fh r
end
mutual
theorem yR : ∀ v : ae, aY (j8 v) = v
 | .mk k t n b l m => by simp [j8, aY, rE l, ph m]
theorem rE : ∀ l : List ae, kt (eo l) = l
 | [] => by simp [eo, kt]
 | v :: r => by simp [eo, kt, yR v, rE r]
theorem yQ : ∀ a : ak, cD (mb a) = a
 | .mk s (.mk k t n b l m) => by simp [mb, j8, V.cells, cD, rE l, ph m]
theorem ph : ∀ l : List ak, fh (bB l) = l
 | [] => by simp [bB, fh]
 | a :: r => by simp [bB, fh, yQ a, ph r]
end
attribute [simp] rE ph
theorem az (v : ae) : aY (ev v) = v := by rw [← uO, yR]
theorem uJ (a : ak) : cD (ea a) = a := by rw [← yY, yQ]
def decLv : V → List ae
 | .list _ _ l => kt l
 | _ => []
def bF : V → List ak
 | .list _ _ l => fh l
 | _ => []
theorem gW (c : Bool) (z : Nat) (l : List ak) : bF (.list c z (bB l)) = l := ph l
def dV (x : V) : Prop := Wk x (ev (aY x))
def dK (x : V) : Prop := Wk x (.list false 7 (bB (bF x)))
theorem ba (v : ae) : dV (ev v) := by unfold dV; rw [az]; exact Wk.refl _
theorem i7 (l : List ak) : dK (.list false 7 (bB l)) := by unfold dK; rw [gW]; exact Wk.refl _
theorem lP {v : ae} (h : (ev v).wf) : (0 ≤ v.kind ∧ v.kind ≤ 255) ∧ v.text.length ≤ 9223372036854775807 ∧ (-9223372036854775808 ≤ v.num ∧ v.num ≤ 9223372036854775807) ∧ (0 ≤ v.bits ∧ v.bits ≤ 18446744073709551615) ∧
   (v.list.length ≤ 9223372036854775807 ∧ V.cp (eo v.list)) ∧ (v.map.length ≤ 9223372036854775807 ∧ V.cp (bB v.map)) := by
 simp only [V.wf, V.cp] at h
 obtain ⟨h1, h2, h3, h4, h5, h6, _⟩ := h
 rw [kx] at h5
 rw [iG] at h6
 exact ⟨h1, h2, h3, h4, h5, h6⟩
mutual
def ae.nodes : ae → Nat
 | .mk _ _ _ _ l m => 1 + o7 l + dY m
def o7 : List ae → Nat
 | [] => 0
 | v :: r => v.nodes + o7 r
def ak.nodes : ak → Nat
 | .mk _ v => v.nodes
def dY : List ak → Nat
 | [] => 0
 | a :: r => a.nodes + dY r
end
theorem iP (v : ae) : v.nodes = 1 + o7 v.list + dY v.map := by cases v; simp [ae.nodes, ae.list, ae.map]
theorem KQ (a : ak) : a.nodes = a.value.nodes := by cases a; simp [ak.nodes, ak.value]
theorem KP (l : List ak) : 0 ≤ dY l := Nat.zero_le _
theorem qh {l : List ae} {i : Nat} (h : i < l.length) : (l.getD i default).nodes ≤ o7 l := by
 induction l generalizing i with
 | nil => simp at h
 | cons v r ih =>
   cases i with
   | zero => simp [o7]
   | succ i => have := ih (i := i) (by simpa using h); simp only [o7, List.getD_cons_succ]; omega
theorem qi {l : List ak} {i : Nat} (h : i < l.length) : (l.getD i default).value.nodes ≤ dY l := by
 induction l generalizing i with
 | nil => simp at h
 | cons v r ih =>
   cases i with
   | zero => simp [dY, KQ]
   | succ i => have := ih (i := i) (by simpa using h); simp only [dY, List.getD_cons_succ]; omega
end Go.Proofs.YtipejldppicijaaGreatDoor
