/-
  The seat's contexts: what is known of which functions.
-/
import Derived.Test.YtkkfdkfopdjomaaDoorVgTy
import Derived.Test.YtkkfdkfopdjomaaDoorVgZ
set_option linter.unusedSimpArgs false
set_option linter.unusedVariables false
set_option maxHeartbeats 4000000
namespace Go.Proofs.YtkkfdkfopdjomaaDoor
open Go Go.VG
set_option maxRecDepth 100000
theorem mayMixed : Tryd.prog.follows .mixedOrders = true := by kernel_rfl
def gl0 : Nat → Option (List V) := fun b => match b with
  | 0 => some [.int .i64 (0), .int .i64 (1), .int .i64 (2), .int .i64 (3), .int .i64 (4), .int .i64 (7), .int .i64 (5), .int .i64 (6)]
  | 1 => some [.int .i64 (0), .int .i64 (2), .int .i64 (0), .int .i64 (0), .int .i64 (1), .int .i64 (2), .int .i64 (2), .int .i64 (2)]
  | 2 => some [.int .i64 (0), .int .i64 (0)]
  | _ => none
def lkS : List (Nat × Sm) → Nat → Sm
  | [], _ => sm0
  | (k, s) :: r, f => cond (Nat.beq k f) s (lkS r f)
def lkH : List (Nat × List Pro) → Nat → List Pro
  | [], _ => []
  | (k, s) :: r, f => cond (Nat.beq k f) s (lkH r f)
noncomputable def cxh (l : List (Nat × Sm)) (h : List (Nat × List Pro)) : Ctx := ⟨Tryd.prog, tt, gl0, fun f => lkS l f, fun _ _ _ => False, fun r => lkH h r, fun _ => false, fun _ _ _ _ => none, fun _ _ _ => none, fun _ => false, fun _ => none⟩
noncomputable abbrev cx (l : List (Nat × Sm)) : Ctx := cxh l []
def OKs : List (Nat × Sm) → Prop
  | [] => True
  | (k, s) :: r => SmOK Tryd.prog gl0 k s ∧ OKs r
theorem lkS_ok : ∀ {l : List (Nat × Sm)} {f : Nat}, OKs l → SmOK Tryd.prog gl0 f (lkS l f)
  | [], _, _ => sm0_ok
  | (k, s) :: r, f, h => by
    simp only [lkS]
    cases hb : Nat.beq k f with
    | true =>
      have := Nat.eq_of_beq_eq_true hb
      subst this
      exact h.1
    | false => exact lkS_ok h.2
theorem no_pan {α : Type} {a : α} (h : (none : Option α) = some a) : (none : Option α) = some a := h
theorem good {l : List (Nat × Sm)} {hs : List (Nat × List Pro)} (h : OKs l) : GoodG (cxh l hs) where
  ti := tt_ok
  mt := fun _ _ _ h => h.elim
  hm := mayMixed
  gam := fun f args sg pre x r h' hp => lkS_ok h args sg pre x r h' hp
  del := fun _ _ _ _ _ _ _ _ _ h' => by cases (no_pan h')
/-- with what yield does -/
noncomputable def cxy (l : List (Nat × Sm)) (y : Nat → List V → List O → List Nat → Option (Prop × V × List O × List Nat)) : Ctx := ⟨Tryd.prog, tt, gl0, fun f => lkS l f, fun _ _ _ => False, fun r => lkH [] r, fun _ => false, y, fun _ _ _ => none, fun _ => false, fun _ => none⟩
theorem goody {l : List (Nat × Sm)} {y : Nat → List V → List O → List Nat → Option (Prop × V × List O × List Nat)} (h : OKs l) : GoodG (cxy l y) where
  ti := tt_ok
  mt := fun _ _ _ h => h.elim
  hm := mayMixed
  gam := fun f args sg pre x r h' hp => lkS_ok h args sg pre x r h' hp
  del := fun _ _ _ _ _ _ _ _ _ h' => by cases (no_pan h')
/-- with literals that are laid as objects -/
noncomputable def cxl (l : List (Nat × Sm)) (n : List Nat) : Ctx := ⟨Tryd.prog, tt, gl0, fun f => lkS l f, fun _ _ _ => False, fun r => lkH [] r, fun d => memN d n, fun _ _ _ _ => none, fun _ _ _ => none, fun _ => false, fun _ => none⟩
theorem goodl {l : List (Nat × Sm)} {n : List Nat} (h : OKs l) : GoodG (cxl l n) where
  ti := tt_ok
  mt := fun _ _ _ h => h.elim
  hm := mayMixed
  gam := fun f args sg pre x r h' hp => lkS_ok h args sg pre x r h' hp
  del := fun _ _ _ _ _ _ _ _ _ h' => by cases (no_pan h')
def lkP : List (Nat × PSm) → Nat → PSm
  | [], _ => psm0
  | (k, s) :: r, f => cond (Nat.beq k f) s (lkP r f)
def OKp : List (Nat × PSm) → Prop
  | [] => True
  | (k, s) :: r => PSmOK Tryd.prog gl0 k s ∧ OKp r
theorem lkP_ok : ∀ {l : List (Nat × PSm)} {f : Nat}, OKp l → PSmOK Tryd.prog gl0 f (lkP l f)
  | [], _, _ => psm0_ok
  | (k, s) :: r, f, h => by
    simp only [lkP]
    cases hb : Nat.beq k f with
    | true =>
      have := Nat.eq_of_beq_eq_true hb
      subst this
      exact h.1
    | false => exact lkP_ok h.2
/-- with functions that may panic -/
noncomputable def cxp (l : List (Nat × Sm)) (p : List (Nat × PSm)) : Ctx := ⟨Tryd.prog, tt, gl0, fun f => lkS l f, fun _ _ _ => False, fun r => lkH [] r, fun _ => false, fun _ _ _ _ => none, fun f => lkP p f, fun _ => false, fun _ => none⟩
theorem goodp {l : List (Nat × Sm)} {p : List (Nat × PSm)} (h : OKs l) (hp : OKp p) : GoodG (cxp l p) where
  ti := tt_ok
  mt := fun _ _ _ h => h.elim
  hm := mayMixed
  gam := fun f args sg pre x r h' hp => lkS_ok h args sg pre x r h' hp
  del := fun f args sg pre c u r x r2 h' hq => lkP_ok hp args sg pre c u r x r2 h' hq
/-- and with regions whose order is not told, with calls that may panic -/
noncomputable def cxq (l : List (Nat × Sm)) (p : List (Nat × PSm)) (n : List Nat) : Ctx := ⟨Tryd.prog, tt, gl0, fun f => lkS l f, fun _ _ _ => False, fun r => lkH [] r, fun _ => false, fun _ _ _ _ => none, fun f => lkP p f, fun d => memN d n, fun _ => none⟩
theorem goodq {l : List (Nat × Sm)} {p : List (Nat × PSm)} {n : List Nat} (h : OKs l) (hp : OKp p) : GoodG (cxq l p n) where
  ti := tt_ok
  mt := fun _ _ _ h => h.elim
  hm := mayMixed
  gam := fun f args sg pre x r h' hp => lkS_ok h args sg pre x r h' hp
  del := fun f args sg pre c u r x r2 h' hq => lkP_ok hp args sg pre c u r x r2 h' hq
def lkR : List (Nat × Nat) → Nat → Option Nat
  | [], _ => none
  | (k, s) :: r, d => cond (Nat.beq k d) (some s) (lkR r d)
/-- with hints, and with objects that are laid in places kept for them -/
noncomputable def cxv (l : List (Nat × Sm)) (h : List (Nat × List Pro)) (rs : List (Nat × Nat)) : Ctx := ⟨Tryd.prog, tt, gl0, fun f => lkS l f, fun _ _ _ => False, fun r => lkH h r, fun _ => false, fun _ _ _ _ => none, fun _ _ _ => none, fun _ => false, fun d => lkR rs d⟩
theorem goodv {l : List (Nat × Sm)} {hs : List (Nat × List Pro)} {rs : List (Nat × Nat)} (h : OKs l) : GoodG (cxv l hs rs) where
  ti := tt_ok
  mt := fun _ _ _ h => h.elim
  hm := mayMixed
  gam := fun f args sg pre x r h' hp => lkS_ok h args sg pre x r h' hp
  del := fun _ _ _ _ _ _ _ _ _ h' => by cases (no_pan h')
abbrev POK (f : FuncId) (args : List V) (σ : List O) (u : Value) (r : Option (List O)) : Prop := PanOK Tryd.prog gl0 f args σ u r
abbrev PSOK (f : FuncId) (s : PSm) : Prop := PSmOK Tryd.prog gl0 f s
abbrev OK (f : FuncId) (args : List V) (σ : List O) (x : V) (r : Option (List O)) : Prop := FunOK Tryd.prog gl0 f args σ x r
abbrev SOK (f : FuncId) (s : Sm) : Prop := SmOK Tryd.prog gl0 f s
end Go.Proofs.YtkkfdkfopdjomaaDoor
