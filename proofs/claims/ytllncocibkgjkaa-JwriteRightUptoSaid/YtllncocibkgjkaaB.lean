/-
  A part of the proof.
-/
import Derived.Test.YtllncocibkgjkaaVgTy
import Derived.Test.YtllncocibkgjkaaVgZ
set_option linter.unusedSimpArgs false
set_option linter.unusedVariables false
set_option maxHeartbeats 4000000
namespace Go.Proofs.Ytllncocibkgjkaa
open Go Go.VG
set_option maxRecDepth 100000
theorem qT : Try.prog.follows .mixedOrders = true := by kernel_rfl
def fu : Nat → Option (List V) := fun _ => none
def lN : List (Nat × Sm) → Nat → Sm
 | [], _ => sm0
 | (k, s) :: r, f => cond (Nat.beq k f) s (lN r f)
def lkH : List (Nat × List du) → Nat → List du
 | [], _ => []
 | (k, s) :: r, f => cond (Nat.beq k f) s (lkH r f)
noncomputable def cxh (l : List (Nat × Sm)) (h : List (Nat × List du)) : Ctx := ⟨Try.prog, tt, fu, fun f => lN l f, fun _ _ _ => False, fun r => lkH h r, fun _ => false, fun _ _ _ _ => none, fun _ _ _ => none, fun _ => false⟩
noncomputable abbrev cx (l : List (Nat × Sm)) : Ctx := cxh l []
def mj : List (Nat × Sm) → Prop
 | [] => True
 | (k, s) :: r => pN Try.prog fu k s ∧ mj r
theorem oY : ∀ {l : List (Nat × Sm)} {f : Nat}, mj l → pN Try.prog fu f (lN l f)
 | [], _, _ => I1
 | (k, s) :: r, f, h => by
   simp only [lN]
   cases hb : Nat.beq k f with
   | true =>
     have := Nat.eq_of_beq_eq_true hb
     subst this
     exact h.1
   | false => exact oY h.2
theorem G2 {α : Type} {a : α} (h : (none : Option α) = some a) : (none : Option α) = some a := h
theorem ax {l : List (Nat × Sm)} {hs : List (Nat × List du)} (h : mj l) : bp (cxh l hs) where
 ti := pG
 mt := fun _ _ _ h => h.elim
 hm := qT
 gam := fun f args sg pre x r h' hp => oY h args sg pre x r h' hp
 del := fun _ _ _ _ _ _ _ _ _ h' => by cases (G2 h')
def nk : List (Nat × dC) → Nat → dC
 | [], _ => psm0
 | (k, s) :: r, f => cond (Nat.beq k f) s (nk r f)
def OKp : List (Nat × dC) → Prop
 | [] => True
 | (k, s) :: r => pL Try.prog fu k s ∧ OKp r
theorem qP : ∀ {l : List (Nat × dC)} {f : Nat}, OKp l → pL Try.prog fu f (nk l f)
 | [], _, _ => GI
 | (k, s) :: r, f, h => by
   simp only [nk]
   cases hb : Nat.beq k f with
   | true =>
     have := Nat.eq_of_beq_eq_true hb
     subst this
     exact h.1
   | false => exact qP h.2
noncomputable def lq (l : List (Nat × Sm)) (p : List (Nat × dC)) : Ctx := ⟨Try.prog, tt, fu, fun f => lN l f, fun _ _ _ => False, fun r => lkH [] r, fun _ => false, fun _ _ _ _ => none, fun f => nk p f, fun _ => false⟩
theorem n6 {l : List (Nat × Sm)} {p : List (Nat × dC)} (h : mj l) (hp : OKp p) : bp (lq l p) where
 ti := pG
 mt := fun _ _ _ h => h.elim
 hm := qT
 gam := fun f args sg pre x r h' hp => oY h args sg pre x r h' hp
 del := fun f args sg pre c u r x r2 h' hq => qP hp args sg pre c u r x r2 h' hq
noncomputable def cxq (l : List (Nat × Sm)) (p : List (Nat × dC)) (n : List Nat) : Ctx := ⟨Try.prog, tt, fu, fun f => lN l f, fun _ _ _ => False, fun r => lkH [] r, fun _ => false, fun _ _ _ _ => none, fun f => nk p f, fun d => au d n⟩
theorem xT {l : List (Nat × Sm)} {p : List (Nat × dC)} {n : List Nat} (h : mj l) (hp : OKp p) : bp (cxq l p n) where
 ti := pG
 mt := fun _ _ _ h => h.elim
 hm := qT
 gam := fun f args sg pre x r h' hp => oY h args sg pre x r h' hp
 del := fun f args sg pre c u r x r2 h' hq => qP hp args sg pre c u r x r2 h' hq
abbrev la (f : FuncId) (args : List V) (σ : List O) (u : Value) (r : Option (List O)) : Prop := ml Try.prog fu f args σ u r
abbrev dP (f : FuncId) (s : dC) : Prop := pL Try.prog fu f s
abbrev OK (f : FuncId) (args : List V) (σ : List O) (x : V) (r : Option (List O)) : Prop := ez Try.prog fu f args σ x r
abbrev aI (f : FuncId) (s : Sm) : Prop := pN Try.prog fu f s
end Go.Proofs.Ytllncocibkgjkaa
