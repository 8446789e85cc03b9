/-
  The seat's contexts: what is known of which functions.
-/
import Derived.Test.YtllncocibkgjkaaVgTy
import Derived.Test.YtllncocibkgjkaaVgZ
set_option linter.unusedSimpArgs false
set_option linter.unusedVariables false
set_option maxHeartbeats 4000000
namespace Go.Proofs.Ytllncocibkgjkaa
open Go Go.VG
set_option maxRecDepth 100000
theorem alh : Try.prog.follows .mixedOrders = true := by kernel_rfl
def gl0 : Nat → Option (List V) := fun _ => none
def lkS : List (Nat × Sm) → Nat → Sm
  | [], _ => sm0
  | (k, s) :: r, f => cond (Nat.beq k f) s (lkS r f)
def lkH : List (Nat × List Pro) → Nat → List Pro
  | [], _ => []
  | (k, s) :: r, f => cond (Nat.beq k f) s (lkH r f)
noncomputable def cxh (l : List (Nat × Sm)) (h : List (Nat × List Pro)) : Ctx := ⟨Try.prog, tt, gl0, fun f => lkS l f, fun _ _ _ => False, fun r => lkH h r, fun _ => false, fun _ _ _ _ => none, fun _ _ _ => none, fun _ => false⟩
noncomputable abbrev cx (l : List (Nat × Sm)) : Ctx := cxh l []
def OKs : List (Nat × Sm) → Prop
  | [] => True
  | (k, s) :: r => SmOK Try.prog gl0 k s ∧ OKs r
theorem asi : ∀ {l : List (Nat × Sm)} {f : Nat}, OKs l → SmOK Try.prog gl0 f (lkS l f)
  | [], _, _ => sm0_ok
  | (k, s) :: r, f, h => by
    simp only [lkS]
    cases hb : Nat.beq k f with
    | true =>
      have := Nat.eq_of_beq_eq_true hb
      subst this
      exact h.1
    | false => exact asi h.2
theorem bcm {α : Type} {a : α} (h : (none : Option α) = some a) : (none : Option α) = some a := h
theorem abh {l : List (Nat × Sm)} {hs : List (Nat × List Pro)} (h : OKs l) : ac4 (cxh l hs) where
  ti := a4u
  mt := fun _ _ _ h => h.elim
  hm := alh
  gam := fun f args sg pre x r h' hp => asi h args sg pre x r h' hp
  del := fun _ _ _ _ _ _ _ _ _ h' => by cases (bcm h')
noncomputable def cxl (l : List (Nat × Sm)) (n : List Nat) : Ctx := ⟨Try.prog, tt, gl0, fun f => lkS l f, fun _ _ _ => False, fun r => lkH [] r, fun d => abk d n, fun _ _ _ _ => none, fun _ _ _ => none, fun _ => false⟩
theorem bdf {l : List (Nat × Sm)} {n : List Nat} (h : OKs l) : ac4 (cxl l n) where
  ti := a4u
  mt := fun _ _ _ h => h.elim
  hm := alh
  gam := fun f args sg pre x r h' hp => asi h args sg pre x r h' hp
  del := fun _ _ _ _ _ _ _ _ _ h' => by cases (bcm h')
def lkP : List (Nat × PSm) → Nat → PSm
  | [], _ => psm0
  | (k, s) :: r, f => cond (Nat.beq k f) s (lkP r f)
def OKp : List (Nat × PSm) → Prop
  | [] => True
  | (k, s) :: r => a9b Try.prog gl0 k s ∧ OKp r
theorem a14 : ∀ {l : List (Nat × PSm)} {f : Nat}, OKp l → a9b Try.prog gl0 f (lkP l f)
  | [], _, _ => bee
  | (k, s) :: r, f, h => by
    simp only [lkP]
    cases hb : Nat.beq k f with
    | true =>
      have := Nat.eq_of_beq_eq_true hb
      subst this
      exact h.1
    | false => exact a14 h.2
noncomputable def cxp (l : List (Nat × Sm)) (p : List (Nat × PSm)) : Ctx := ⟨Try.prog, tt, gl0, fun f => lkS l f, fun _ _ _ => False, fun r => lkH [] r, fun _ => false, fun _ _ _ _ => none, fun f => lkP p f, fun _ => false⟩
theorem a3r {l : List (Nat × Sm)} {p : List (Nat × PSm)} (h : OKs l) (hp : OKp p) : ac4 (cxp l p) where
  ti := a4u
  mt := fun _ _ _ h => h.elim
  hm := alh
  gam := fun f args sg pre x r h' hp => asi h args sg pre x r h' hp
  del := fun f args sg pre c u r x r2 h' hq => a14 hp args sg pre c u r x r2 h' hq
noncomputable def cxq (l : List (Nat × Sm)) (p : List (Nat × PSm)) (n : List Nat) : Ctx := ⟨Try.prog, tt, gl0, fun f => lkS l f, fun _ _ _ => False, fun r => lkH [] r, fun _ => false, fun _ _ _ _ => none, fun f => lkP p f, fun d => abk d n⟩
theorem goodq {l : List (Nat × Sm)} {p : List (Nat × PSm)} {n : List Nat} (h : OKs l) (hp : OKp p) : ac4 (cxq l p n) where
  ti := a4u
  mt := fun _ _ _ h => h.elim
  hm := alh
  gam := fun f args sg pre x r h' hp => asi h args sg pre x r h' hp
  del := fun f args sg pre c u r x r2 h' hq => a14 hp args sg pre c u r x r2 h' hq
abbrev POK (f : FuncId) (args : List V) (σ : List O) (u : Value) (r : Option (List O)) : Prop := a2c Try.prog gl0 f args σ u r
abbrev aro (f : FuncId) (s : PSm) : Prop := a9b Try.prog gl0 f s
abbrev OK (f : FuncId) (args : List V) (σ : List O) (x : V) (r : Option (List O)) : Prop := ajp Try.prog gl0 f args σ x r
abbrev SOK (f : FuncId) (s : Sm) : Prop := SmOK Try.prog gl0 f s
end Go.Proofs.Ytllncocibkgjkaa
