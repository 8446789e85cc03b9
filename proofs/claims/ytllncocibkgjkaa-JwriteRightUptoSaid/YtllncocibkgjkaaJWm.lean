/-
  A part of the proof.
-/
import Derived.Test.YtllncocibkgjkaaPQuote
import Derived.Test.YtllncocibkgjkaaPDec
set_option linter.unusedSimpArgs false
set_option linter.unusedVariables false
set_option maxHeartbeats 4000000
namespace Go.Proofs.Ytllncocibkgjkaa
open Go Go.VG
set_option maxRecDepth 100000
structure Fr where
 e : UInt8
 b : Bool
 k : Bool
instance : Inhabited Fr := ⟨⟨0, false, false⟩⟩
structure WS where
 out : List UInt8
 l : List Fr
 whole : Bool
 code : Int
structure di where
 kind : Int
 text : List UInt8
 n : Int
instance : Inhabited di := ⟨⟨0, [], 0⟩⟩
abbrev ef (f : Fr) : V := .agg [.int .u8 f.e.toNat, .bool f.b, .bool f.k]
abbrev eo (o : di) : V := .agg [.int .u8 o.kind, .str o.text, .int .i64 o.n]
abbrev eW (w : WS) : List O := [.cells [.buf 1, .buf 2, .bool w.whole, .int .i64 w.code, .func (.func 36) [] []], .buf 1 0 (bl w.out), .buf 3 0 (w.l.map ef)]
def ub : List V → List UInt8
 | [] => []
 | .int _ n :: r => byte n :: ub r
 | _ :: r => 0 :: ub r
@[simp] theorem ub_bl (s : List UInt8) : ub (bl s) = s := by
 induction s with
 | nil => rfl
 | cons b s ih => simp only [bl, bv, ub, ih, cF]
def nN : List V → List Fr
 | [] => []
 | .agg [.int _ n, .bool b, .bool k] :: r => ⟨byte n, b, k⟩ :: nN r
 | _ :: r => default :: nN r
@[simp] theorem ufr_map (l : List Fr) : nN (l.map ef) = l := by
 induction l with
 | nil => rfl
 | cons b s ih => simp only [List.map_cons, nN, ih, cF]
def aZ (o l : List V) (wh : Bool) (c : Int) : WS := ⟨ub o, nN l, wh, c⟩
@[simp] theorem bA (w : WS) : aZ (bl w.out) (w.l.map ef) w.whole w.code = w := by simp [aZ]
def okW (o l : List V) : Prop := o = bl (ub o) ∧ l = (nN l).map ef ∧ o.length ≤ 2000000000 ∧ l.length ≤ 1000
theorem gC {s : List UInt8} {l : List Fr} (h : s.length ≤ 2000000000) (k : l.length ≤ 1000) : okW (bl s) (l.map ef) := by
 refine ⟨by simp, by simp, by simpa [cE] using h, by simpa using k⟩
theorem gZ {o l : List V} {h : Bool} {c : Int} (k : okW o l) : [O.cells [.buf 1, .buf 2, .bool h, .int .i64 c, .func (.func 36) [] []], .buf 1 0 o, .buf 3 0 l] = eW (aZ o l h c) := by
 unfold eW aZ; rw [← k.1, ← k.2.1]
theorem viewO {k : Int} {t : List UInt8} {n : Int} (_ : True) : V.agg [.int .u8 k, .str t, .int .i64 n] = eo ⟨k, t, n⟩ := rfl
def WS.fail (w : WS) (c : Int) : WS := if w.code = 0 then { w with code := c } else w
def WS.top (w : WS) : Fr := w.l.getD (w.l.length - 1) default
def WS.eI (w : WS) (f : Fr) : WS := { w with l := w.l.set (w.l.length - 1) f }
def WS.may (w : WS) : WS × Bool :=
 if w.code ≠ 0 then (w, false)
 else if w.l.length = 0 then (if w.whole = true then (w.fail 12, false) else ({ w with whole := true }, true))
 else if w.top.e.toNat = 125 then (if w.top.k = true then (w.eI { w.top with k := false }, true) else (w.fail 12, false))
 else ({ w.eI { w.top with b := true } with out := if w.top.b = true then w.out ++ [44] else w.out }, true)
def WS.put (w : WS) (s : List UInt8) : WS := if w.may.2 = true then { w.may.1 with out := w.may.1.out ++ s } else w.may.1
def WS.begin (w : WS) (a e : UInt8) : WS :=
 if w.code ≠ 0 then w
 else if w.l.length ≥ 32 then w.fail 33
 else if w.may.2 = true then { w.may.1 with out := w.may.1.out ++ [a], l := w.may.1.l ++ [⟨e, false, false⟩] } else w.may.1
def WS.fin (w : WS) : WS :=
 if w.code ≠ 0 then w
 else if w.l.length = 0 ∨ w.top.k = true then w.fail 12
 else { w with out := w.out ++ [w.top.e], l := w.l.take (w.l.length - 1) }
def WS.key (w : WS) (s : List UInt8) : WS :=
 if w.code ≠ 0 then w
 else if w.l.length = 0 ∨ w.top.e.toNat ≠ 125 ∨ w.top.k = true then w.fail 12
 else { w.eI { w.top with b := true, k := true } with out := (if w.top.b = true then w.out ++ [44] else w.out) ++ (quote s ++ [58]) }
def iM (b : Bool) : List UInt8 := if b = true then [116, 114, 117, 101] else [102, 97, 108, 115, 101]
def WS.op (w : WS) (o : di) : WS :=
 if o.kind = 123 then w.begin 123 125
 else if o.kind = 91 then w.begin 91 93
 else if o.kind = 101 then w.fin
 else if o.kind = 107 then w.key o.text
 else if o.kind = 115 then w.put (quote o.text)
 else if o.kind = 110 then w.put (eD o.n)
 else if o.kind = 116 ∨ o.kind = 102 then w.put (iM (o.kind == 116))
 else w.put [110, 117, 108, 108]
def WS.done (w : WS) : List UInt8 × Int :=
 if w.code ≠ 0 then ([], w.code) else if w.l.length > 0 ∨ w.whole = false then ([], 1) else (w.out, 0)
def WS.new : WS := ⟨[], [], false, 0⟩
theorem eR (w : WS) : w.may.1.out.length ≤ w.out.length + 1 ∧ w.may.1.l.length = w.l.length := by
 unfold WS.may WS.fail WS.eI
 repeat' split
 all_goals (constructor <;> simp)
theorem Gi (w : WS) (o : di) (h : -9223372036854775808 ≤ o.n ∧ o.n ≤ 9223372036854775807) : (w.op o).out.length ≤ w.out.length + 6 * o.text.length + 30 ∧ (w.op o).l.length ≤ w.l.length + 1 := by
 have h1 := eR w
 have h2 := r9 o.text
 have h3 := BL h.1 h.2
 have h4 : (iM (o.kind == 116)).length ≤ 5 := by unfold iM; split <;> simp
 unfold WS.op WS.begin WS.fin WS.key WS.put WS.fail WS.eI
 repeat' split
 all_goals (constructor <;> (try simp only [List.length_append, List.length_cons, List.length_nil, List.length_set, List.length_take]) <;> omega)
end Go.Proofs.Ytllncocibkgjkaa
