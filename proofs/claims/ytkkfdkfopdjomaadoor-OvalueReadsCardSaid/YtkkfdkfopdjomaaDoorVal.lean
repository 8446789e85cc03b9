/-
  A value of the document, and what it is in the run.
-/
import Derived.Test.YtkkfdkfopdjomaaDoorB
set_option linter.unusedSimpArgs false
set_option linter.unusedVariables false
set_option maxHeartbeats 4000000
namespace Go.Proofs.YtkkfdkfopdjomaaDoor
open Go Go.VG
mutual
inductive Val where
  | mk (kind : Int) (text : List UInt8) (num bits : Int) (list : List Val) (map : List Att)
inductive Att where
  | mk (key : List UInt8) (value : Val)
end
instance : Inhabited Val := ⟨.mk 0 [] 0 0 [] []⟩
instance : Inhabited Att := ⟨.mk [] default⟩
def Val.kind : Val → Int | .mk k _ _ _ _ _ => k
def Val.text : Val → List UInt8 | .mk _ t _ _ _ _ => t
def Val.num : Val → Int | .mk _ _ n _ _ _ => n
def Val.bits : Val → Int | .mk _ _ _ b _ _ => b
def Val.list : Val → List Val | .mk _ _ _ _ l _ => l
def Val.map : Val → List Att | .mk _ _ _ _ _ m => m
def Att.key : Att → List UInt8 | .mk k _ => k
def Att.value : Att → Val | .mk _ v => v
@[simp] theorem Val.eta (v : Val) : Val.mk v.kind v.text v.num v.bits v.list v.map = v := by cases v; rfl
@[simp] theorem Att.eta (v : Att) : Att.mk v.key v.value = v := by cases v; rfl
mutual
def encV : Val → V
  | .mk k t n b l m => .agg [.int .u8 k, .str t, .int .i64 n, .int .u64 b, .list false 6 (encL l), .list false 7 (encM m)]
def encL : List Val → List V
  | [] => []
  | v :: r => encV v :: encL r
def encA : Att → V
  | .mk k v => .agg (.str k :: (encV v).cells)
def encM : List Att → List V
  | [] => []
  | a :: r => encA a :: encM r
end
abbrev cv (v : Val) : List V := [.int .u8 v.kind, .str v.text, .int .i64 v.num, .int .u64 v.bits, .list false 6 (encL v.list), .list false 7 (encM v.map)]
abbrev ev (v : Val) : V := .agg [.int .u8 v.kind, .str v.text, .int .i64 v.num, .int .u64 v.bits, .list false 6 (encL v.list), .list false 7 (encM v.map)]
abbrev ea (a : Att) : V := .agg [.str a.key, .int .u8 a.value.kind, .str a.value.text, .int .i64 a.value.num, .int .u64 a.value.bits, .list false 6 (encL a.value.list), .list false 7 (encM a.value.map)]
theorem encV_ev (v : Val) : encV v = ev v := by cases v; simp [encV, Val.kind, Val.text, Val.num, Val.bits, Val.list, Val.map]
theorem encA_ea (a : Att) : encA a = ea a := by cases a; simp [encA, encV_ev, V.cells, Att.key, Att.value]
theorem encL_map (l : List Val) : encL l = l.map ev := by induction l <;> simp_all [encL, encV_ev]
theorem encM_map (l : List Att) : encM l = l.map ea := by induction l <;> simp_all [encM, encA_ea]
@[simp] theorem encL_length (l : List Val) : (encL l).length = l.length := by simp [encL_map]
@[simp] theorem encM_length (l : List Att) : (encM l).length = l.length := by simp [encM_map]
theorem idx_encL {l : List Val} {n : Nat} {K : V → Prop} (h1 : Side (n < l.length)) (h2 : K (ev (l.getD n default))) : IdxK (encL l) (n : Int).toNat K := by
  rw [encL_map]; exact goG h1 h2
theorem idx_encM {l : List Att} {n : Nat} {K : V → Prop} (h1 : Side (n < l.length)) (h2 : K (ea (l.getD n default))) : IdxK (encM l) (n : Int).toNat K := by
  rw [encM_map]; exact goG h1 h2
mutual
def decV : V → Val
  | .agg [.int _ k, .str t, .int _ n, .int _ b, .list _ _ l, .list _ _ m] => .mk k t n b (decL l) (decM m)
  | _ => .mk 0 [] 0 0 [] []
def decL : List V → List Val
  | [] => []
  | x :: r => decV x :: decL r
def decA : V → Att
  | .agg [.str s, .int _ k, .str t, .int _ n, .int _ b, .list _ _ l, .list _ _ m] => .mk s (.mk k t n b (decL l) (decM m))
  | _ => .mk [] (.mk 0 [] 0 0 [] [])
def decM : List V → List Att
  | [] => []
  | x :: r => decA x :: decM r
end
mutual
theorem decV_enc : ∀ v : Val, decV (encV v) = v
  | .mk k t n b l m => by simp [encV, decV, decL_enc l, decM_enc m]
theorem decL_enc : ∀ l : List Val, decL (encL l) = l
  | [] => by simp [encL, decL]
  | v :: r => by simp [encL, decL, decV_enc v, decL_enc r]
theorem decA_enc : ∀ a : Att, decA (encA a) = a
  | .mk s (.mk k t n b l m) => by simp [encA, encV, V.cells, decA, decL_enc l, decM_enc m]
theorem decM_enc : ∀ l : List Att, decM (encM l) = l
  | [] => by simp [encM, decM]
  | a :: r => by simp [encM, decM, decA_enc a, decM_enc r]
end
attribute [simp] decL_enc decM_enc
theorem decV_ev (v : Val) : decV (ev v) = v := by rw [← encV_ev, decV_enc]
theorem decA_ea (a : Att) : decA (ea a) = a := by rw [← encA_ea, decA_enc]
def decLv : V → List Val
  | .list _ _ l => decL l
  | _ => []
def decMv : V → List Att
  | .list _ _ l => decM l
  | _ => []
theorem decLv_enc (c : Bool) (z : Nat) (l : List Val) : decLv (.list c z (encL l)) = l := decL_enc l
theorem decMv_enc (c : Bool) (z : Nat) (l : List Att) : decMv (.list c z (encM l)) = l := decM_enc l
/-- it is a value, a list of values, entries -/
def isV (x : V) : Prop := Wk x (ev (decV x))
def isL (x : V) : Prop := Wk x (.list false 6 (encL (decLv x)))
def isM (x : V) : Prop := Wk x (.list false 7 (encM (decMv x)))
theorem isV_ev (v : Val) : isV (ev v) := by unfold isV; rw [decV_ev]; exact Wk.refl _
theorem isL_enc (l : List Val) : isL (.list false 6 (encL l)) := by unfold isL; rw [decLv_enc]; exact Wk.refl _
theorem isM_enc (l : List Att) : isM (.list false 7 (encM l)) := by unfold isM; rw [decMv_enc]; exact Wk.refl _
theorem wf_ev {v : Val} (h : (ev v).wf) : (0 ≤ v.kind ∧ v.kind ≤ 255) ∧ v.text.length ≤ 9223372036854775807 ∧ (-9223372036854775808 ≤ v.num ∧ v.num ≤ 9223372036854775807) ∧ (0 ≤ v.bits ∧ v.bits ≤ 18446744073709551615) ∧
    (v.list.length ≤ 9223372036854775807 ∧ V.wfL (encL v.list)) ∧ (v.map.length ≤ 9223372036854775807 ∧ V.wfL (encM v.map)) := by
  simp only [V.wf, V.wfL] at h
  obtain ⟨h1, h2, h3, h4, h5, h6, _⟩ := h
  rw [encL_length] at h5
  rw [encM_length] at h6
  exact ⟨h1, h2, h3, h4, h5, h6⟩
theorem wf_encL {l : List Val} (h : V.wfL (encL l)) {i : Nat} (hi : i < l.length) : (ev (l.getD i default)).wf := by
  rw [encL_map] at h
  refine wfL_iff.1 h _ (List.mem_map.2 ⟨l.getD i default, ?_, rfl⟩)
  rw [List.getD_eq_getElem?_getD, List.getElem?_eq_getElem hi]; exact List.getElem_mem hi
theorem wf_encM {l : List Att} (h : V.wfL (encM l)) {i : Nat} (hi : i < l.length) : (ea (l.getD i default)).wf := by
  rw [encM_map] at h
  refine wfL_iff.1 h _ (List.mem_map.2 ⟨l.getD i default, ?_, rfl⟩)
  rw [List.getD_eq_getElem?_getD, List.getElem?_eq_getElem hi]; exact List.getElem_mem hi
/-! sizes -/
mutual
def Val.nodes : Val → Nat
  | .mk _ _ _ _ l m => 1 + nodesL l + nodesM m
def nodesL : List Val → Nat
  | [] => 0
  | v :: r => v.nodes + nodesL r
def Att.nodes : Att → Nat
  | .mk _ v => v.nodes
def nodesM : List Att → Nat
  | [] => 0
  | a :: r => a.nodes + nodesM r
end
theorem nodes_eq (v : Val) : v.nodes = 1 + nodesL v.list + nodesM v.map := by cases v; simp [Val.nodes, Val.list, Val.map]
theorem nodes_att (a : Att) : a.nodes = a.value.nodes := by cases a; simp [Att.nodes, Att.value]
theorem nodesM_pos (l : List Att) : 0 ≤ nodesM l := Nat.zero_le _
theorem nodes_pos (v : Val) : 0 < v.nodes := by rw [nodes_eq]; omega
theorem nodesL_get {l : List Val} {i : Nat} (h : i < l.length) : (l.getD i default).nodes ≤ nodesL l := by
  induction l generalizing i with
  | nil => simp at h
  | cons v r ih =>
    cases i with
    | zero => simp [nodesL]
    | succ i => have := ih (i := i) (by simpa using h); simp only [nodesL, List.getD_cons_succ]; omega
theorem nodesM_get {l : List Att} {i : Nat} (h : i < l.length) : (l.getD i default).value.nodes ≤ nodesM l := by
  induction l generalizing i with
  | nil => simp at h
  | cons v r ih =>
    cases i with
    | zero => simp [nodesM, nodes_att]
    | succ i => have := ih (i := i) (by simpa using h); simp only [nodesM, List.getD_cons_succ]; omega
end Go.Proofs.YtkkfdkfopdjomaaDoor
