/-
  A part of the proof.
-/
import Derived.Test.YtllncocibkgjkaaVgTy
import Derived.Test.YtllncocibkgjkaaVgZ
set_option linter.unusedSimpArgs false
set_option linter.unusedVariables false
set_option maxHeartbeats 4000000
namespace Go.Proofs.Ytllncocibkgjkaa
open Go Go.VG
set_option maxRecDepth 100000
theorem pF : Try.prog.follows .mixedOrders = true := by kernel_rfl
def fi : Nat → Option (List V) := fun _ => none
def lq : List (Nat × Sm) → Nat → Sm
 | [], _ => sm0
 | (k, s) :: r, f => cond (Nat.beq k f) s (lq r f)
def nP : List (Nat × List dY) → Nat → List dY
 | [], _ => []
 | (k, s) :: r, f => cond (Nat.beq k f) s (nP r f)
noncomputable def cxh (l : List (Nat × Sm)) (h : List (Nat × List dY)) : Ctx := ⟨Try.prog, tt, fi, fun f => lq l f, fun _ _ _ => False, fun r => nP h r, fun _ => false, fun _ _ _ _ => none, fun _ _ _ => none, fun _ => false⟩
noncomputable abbrev cx (l : List (Nat × Sm)) : Ctx := cxh l []
def lN : List (Nat × Sm) → Prop
 | [] => True
 | (k, s) :: r => qw Try.prog fi k s ∧ lN r
theorem nR : ∀ {l : List (Nat × Sm)} {f : Nat}, lN l → qw Try.prog fi f (lq l f)
 | [], _, _ => JS
 | (k, s) :: r, f, h => by
   simp only [lq]
   cases hb : Nat.beq k f with
   | true =>
     have := Nat.eq_of_beq_eq_true hb
     subst this
     exact h.1
   | false => exact nR h.2
theorem AB {α : Type} {a : α} (h : (none : Option α) = some a) : (none : Option α) = some a := h
theorem ay {l : List (Nat × Sm)} {hs : List (Nat × List dY)} (h : lN l) : bJ (cxh l hs) where
 ti := oB
 mt := fun _ _ _ h => h.elim
 hm := pF
 gam := fun f args sg pre x r h' hp => nR h args sg pre x r h' hp
 del := fun _ _ _ _ _ _ _ _ _ h' => by cases (AB h')
noncomputable def cxl (l : List (Nat × Sm)) (n : List Nat) : Ctx := ⟨Try.prog, tt, fi, fun f => lq l f, fun _ _ _ => False, fun r => nP [] r, fun d => aF d n, fun _ _ _ _ => none, fun _ _ _ => none, fun _ => false⟩
theorem u9 {l : List (Nat × Sm)} {n : List Nat} (h : lN l) : bJ (cxl l n) where
 ti := oB
 mt := fun _ _ _ h => h.elim
 hm := pF
 gam := fun f args sg pre x r h' hp => nR h args sg pre x r h' hp
 del := fun _ _ _ _ _ _ _ _ _ h' => by cases (AB h')
def nQ : List (Nat × eD) → Nat → eD
 | [], _ => psm0
 | (k, s) :: r, f => cond (Nat.beq k f) s (nQ r f)
def OKp : List (Nat × eD) → Prop
 | [] => True
 | (k, s) :: r => qt Try.prog fi k s ∧ OKp r
theorem rI : ∀ {l : List (Nat × eD)} {f : Nat}, OKp l → qt Try.prog fi f (nQ l f)
 | [], _, _ => Iv
 | (k, s) :: r, f, h => by
   simp only [nQ]
   cases hb : Nat.beq k f with
   | true =>
     have := Nat.eq_of_beq_eq_true hb
     subst this
     exact h.1
   | false => exact rI h.2
noncomputable def lW (l : List (Nat × Sm)) (p : List (Nat × eD)) : Ctx := ⟨Try.prog, tt, fi, fun f => lq l f, fun _ _ _ => False, fun r => nP [] r, fun _ => false, fun _ _ _ _ => none, fun f => nQ p f, fun _ => false⟩
theorem nF {l : List (Nat × Sm)} {p : List (Nat × eD)} (h : lN l) (hp : OKp p) : bJ (lW l p) where
 ti := oB
 mt := fun _ _ _ h => h.elim
 hm := pF
 gam := fun f args sg pre x r h' hp => nR h args sg pre x r h' hp
 del := fun f args sg pre c u r x r2 h' hq => rI hp args sg pre c u r x r2 h' hq
noncomputable def cxq (l : List (Nat × Sm)) (p : List (Nat × eD)) (n : List Nat) : Ctx := ⟨Try.prog, tt, fi, fun f => lq l f, fun _ _ _ => False, fun r => nP [] r, fun _ => false, fun _ _ _ _ => none, fun f => nQ p f, fun d => aF d n⟩
theorem zm {l : List (Nat × Sm)} {p : List (Nat × eD)} {n : List Nat} (h : lN l) (hp : OKp p) : bJ (cxq l p n) where
 ti := oB
 mt := fun _ _ _ h => h.elim
 hm := pF
 gam := fun f args sg pre x r h' hp => nR h args sg pre x r h' hp
 del := fun f args sg pre c u r x r2 h' hq => rI hp args sg pre c u r x r2 h' hq
abbrev lO (f : FuncId) (args : List V) (σ : List O) (u : Value) (r : Option (List O)) : Prop := mU Try.prog fi f args σ u r
abbrev eO (f : FuncId) (s : eD) : Prop := qt Try.prog fi f s
abbrev OK (f : FuncId) (args : List V) (σ : List O) (x : V) (r : Option (List O)) : Prop := eB Try.prog fi f args σ x r
abbrev aD (f : FuncId) (s : Sm) : Prop := qw Try.prog fi f s
end Go.Proofs.Ytllncocibkgjkaa
