/-
  A part of the proof.
-/
import Derived.Test.YtllncocibkgjkaaGreatVgTy
import Derived.Test.YtllncocibkgjkaaGreatVgZ
set_option linter.unusedSimpArgs false
set_option linter.unusedVariables false
set_option maxHeartbeats 4000000
namespace Go.Proofs.YtllncocibkgjkaaGreat
open Go Go.VG
set_option maxRecDepth 100000
theorem qt : Tryz.prog.follows .mixedOrders = true := by kernel_rfl
def eG : Nat → Option (List V) := fun _ => none
def lU : List (Nat × Sm) → Nat → Sm
 | [], _ => sm0
 | (k, s) :: r, f => cond (Nat.beq k f) s (lU r f)
def oD : List (Nat × List eo) → Nat → List eo
 | [], _ => []
 | (k, s) :: r, f => cond (Nat.beq k f) s (oD r f)
noncomputable def la (l : List (Nat × Sm)) (h : List (Nat × List eo)) : Ctx := ⟨Tryz.prog, tt, eG, fun f => lU l f, fun _ _ _ => False, fun r => oD h r, fun _ => false, fun _ _ _ _ => none, fun _ _ _ => none, fun _ => false⟩
noncomputable abbrev cx (l : List (Nat × Sm)) : Ctx := la l []
def mn : List (Nat × Sm) → Prop
 | [] => True
 | (k, s) :: r => rf Tryz.prog eG k s ∧ mn r
theorem oF : ∀ {l : List (Nat × Sm)} {f : Nat}, mn l → rf Tryz.prog eG f (lU l f)
 | [], _, _ => LK
 | (k, s) :: r, f, h => by
   simp only [lU]
   cases hb : Nat.beq k f with
   | true =>
     have := Nat.eq_of_beq_eq_true hb
     subst this
     exact h.1
   | false => exact oF h.2
theorem BF {α : Type} {a : α} (h : (none : Option α) = some a) : (none : Option α) = some a := h
theorem aq {l : List (Nat × Sm)} {hs : List (Nat × List eo)} (h : mn l) : bP (la l hs) where
 ti := pc
 mt := fun _ _ _ h => h.elim
 hm := qt
 gam := fun f args sg pre x r h' hp => oF h args sg pre x r h' hp
 del := fun _ _ _ _ _ _ _ _ _ h' => by cases (BF h')
noncomputable def cxl (l : List (Nat × Sm)) (n : List Nat) : Ctx := ⟨Tryz.prog, tt, eG, fun f => lU l f, fun _ _ _ => False, fun r => oD [] r, fun d => aH d n, fun _ _ _ _ => none, fun _ _ _ => none, fun _ => false⟩
theorem uV {l : List (Nat × Sm)} {n : List Nat} (h : mn l) : bP (cxl l n) where
 ti := pc
 mt := fun _ _ _ h => h.elim
 hm := qt
 gam := fun f args sg pre x r h' hp => oF h args sg pre x r h' hp
 del := fun _ _ _ _ _ _ _ _ _ h' => by cases (BF h')
def oE : List (Nat × eF) → Nat → eF
 | [], _ => psm0
 | (k, s) :: r, f => cond (Nat.beq k f) s (oE r f)
def OKp : List (Nat × eF) → Prop
 | [] => True
 | (k, s) :: r => ra Tryz.prog eG k s ∧ OKp r
theorem sr : ∀ {l : List (Nat × eF)} {f : Nat}, OKp l → ra Tryz.prog eG f (oE l f)
 | [], _, _ => Kj
 | (k, s) :: r, f, h => by
   simp only [oE]
   cases hb : Nat.beq k f with
   | true =>
     have := Nat.eq_of_beq_eq_true hb
     subst this
     exact h.1
   | false => exact sr h.2
noncomputable def mC (l : List (Nat × Sm)) (p : List (Nat × eF)) : Ctx := ⟨Tryz.prog, tt, eG, fun f => lU l f, fun _ _ _ => False, fun r => oD [] r, fun _ => false, fun _ _ _ _ => none, fun f => oE p f, fun _ => false⟩
theorem oh {l : List (Nat × Sm)} {p : List (Nat × eF)} (h : mn l) (hp : OKp p) : bP (mC l p) where
 ti := pc
 mt := fun _ _ _ h => h.elim
 hm := qt
 gam := fun f args sg pre x r h' hp => oF h args sg pre x r h' hp
 del := fun f args sg pre c u r x r2 h' hq => sr hp args sg pre c u r x r2 h' hq
noncomputable def cxq (l : List (Nat × Sm)) (p : List (Nat × eF)) (n : List Nat) : Ctx := ⟨Tryz.prog, tt, eG, fun f => lU l f, fun _ _ _ => False, fun r => oD [] r, fun _ => false, fun _ _ _ _ => none, fun f => oE p f, fun d => aH d n⟩
theorem Al {l : List (Nat × Sm)} {p : List (Nat × eF)} {n : List Nat} (h : mn l) (hp : OKp p) : bP (cxq l p n) where
 ti := pc
 mt := fun _ _ _ h => h.elim
 hm := qt
 gam := fun f args sg pre x r h' hp => oF h args sg pre x r h' hp
 del := fun f args sg pre c u r x r2 h' hq => sr hp args sg pre c u r x r2 h' hq
abbrev mq (f : FuncId) (args : List V) (σ : List O) (u : Value) (r : Option (List O)) : Prop := nq Tryz.prog eG f args σ u r
abbrev eX (f : FuncId) (s : eF) : Prop := ra Tryz.prog eG f s
abbrev OK (f : FuncId) (args : List V) (σ : List O) (x : V) (r : Option (List O)) : Prop := jd Tryz.prog eG f args σ x r
abbrev aw (f : FuncId) (s : Sm) : Prop := rf Tryz.prog eG f s
end Go.Proofs.YtllncocibkgjkaaGreat
