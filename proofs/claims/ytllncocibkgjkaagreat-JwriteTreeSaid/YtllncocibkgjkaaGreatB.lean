/-
  A part of the proof.
-/
import Derived.Test.YtllncocibkgjkaaGreatVgTy
import Derived.Test.YtllncocibkgjkaaGreatVgZ
set_option linter.unusedSimpArgs false
set_option linter.unusedVariables false
set_option maxHeartbeats 4000000
namespace Go.Proofs.YtllncocibkgjkaaGreat
open Go Go.VG
set_option maxRecDepth 100000
theorem q9 : Tryz.prog.follows .mixedOrders = true := by kernel_rfl
def fL : Nat → Option (List V) := fun _ => none
def lP : List (Nat × Sm) → Nat → Sm
 | [], _ => sm0
 | (k, s) :: r, f => cond (Nat.beq k f) s (lP r f)
def oc : List (Nat × List e9) → Nat → List e9
 | [], _ => []
 | (k, s) :: r, f => cond (Nat.beq k f) s (oc r f)
noncomputable def cxh (l : List (Nat × Sm)) (h : List (Nat × List e9)) : Ctx := ⟨Tryz.prog, tt, fL, fun f => lP l f, fun _ _ _ => False, fun r => oc h r, fun _ => false, fun _ _ _ _ => none, fun _ _ _ => none, fun _ => false⟩
noncomputable abbrev cx (l : List (Nat × Sm)) : Ctx := cxh l []
def me : List (Nat × Sm) → Prop
 | [] => True
 | (k, s) :: r => qK Tryz.prog fL k s ∧ me r
theorem oe : ∀ {l : List (Nat × Sm)} {f : Nat}, me l → qK Tryz.prog fL f (lP l f)
 | [], _, _ => Ld
 | (k, s) :: r, f, h => by
   simp only [lP]
   cases hb : Nat.beq k f with
   | true =>
     have := Nat.eq_of_beq_eq_true hb
     subst this
     exact h.1
   | false => exact oe h.2
theorem Bi {α : Type} {a : α} (h : (none : Option α) = some a) : (none : Option α) = some a := h
theorem ar {l : List (Nat × Sm)} {hs : List (Nat × List e9)} (h : me l) : bK (cxh l hs) where
 ti := oT
 mt := fun _ _ _ h => h.elim
 hm := q9
 gam := fun f args sg pre x r h' hp => oe h args sg pre x r h' hp
 del := fun _ _ _ _ _ _ _ _ _ h' => by cases (Bi h')
noncomputable def cxl (l : List (Nat × Sm)) (n : List Nat) : Ctx := ⟨Tryz.prog, tt, fL, fun f => lP l f, fun _ _ _ => False, fun r => oc [] r, fun d => aH d n, fun _ _ _ _ => none, fun _ _ _ => none, fun _ => false⟩
theorem rC {l : List (Nat × Sm)} {n : List Nat} (h : me l) : bK (cxl l n) where
 ti := oT
 mt := fun _ _ _ h => h.elim
 hm := q9
 gam := fun f args sg pre x r h' hp => oe h args sg pre x r h' hp
 del := fun _ _ _ _ _ _ _ _ _ h' => by cases (Bi h')
def od : List (Nat × eD) → Nat → eD
 | [], _ => psm0
 | (k, s) :: r, f => cond (Nat.beq k f) s (od r f)
def OKp : List (Nat × eD) → Prop
 | [] => True
 | (k, s) :: r => qI Tryz.prog fL k s ∧ OKp r
theorem rX : ∀ {l : List (Nat × eD)} {f : Nat}, OKp l → qI Tryz.prog fL f (od l f)
 | [], _, _ => JL
 | (k, s) :: r, f, h => by
   simp only [od]
   cases hb : Nat.beq k f with
   | true =>
     have := Nat.eq_of_beq_eq_true hb
     subst this
     exact h.1
   | false => exact rX h.2
noncomputable def mn (l : List (Nat × Sm)) (p : List (Nat × eD)) : Ctx := ⟨Tryz.prog, tt, fL, fun f => lP l f, fun _ _ _ => False, fun r => oc [] r, fun _ => false, fun _ _ _ _ => none, fun f => od p f, fun _ => false⟩
theorem nU {l : List (Nat × Sm)} {p : List (Nat × eD)} (h : me l) (hp : OKp p) : bK (mn l p) where
 ti := oT
 mt := fun _ _ _ h => h.elim
 hm := q9
 gam := fun f args sg pre x r h' hp => oe h args sg pre x r h' hp
 del := fun f args sg pre c u r x r2 h' hq => rX hp args sg pre c u r x r2 h' hq
noncomputable def cxq (l : List (Nat × Sm)) (p : List (Nat × eD)) (n : List Nat) : Ctx := ⟨Tryz.prog, tt, fL, fun f => lP l f, fun _ _ _ => False, fun r => oc [] r, fun _ => false, fun _ _ _ _ => none, fun f => od p f, fun d => aH d n⟩
theorem zL {l : List (Nat × Sm)} {p : List (Nat × eD)} {n : List Nat} (h : me l) (hp : OKp p) : bK (cxq l p n) where
 ti := oT
 mt := fun _ _ _ h => h.elim
 hm := q9
 gam := fun f args sg pre x r h' hp => oe h args sg pre x r h' hp
 del := fun f args sg pre c u r x r2 h' hq => rX hp args sg pre c u r x r2 h' hq
abbrev mf (f : FuncId) (args : List V) (σ : List O) (u : Value) (r : Option (List O)) : Prop := nf Tryz.prog fL f args σ u r
abbrev eP (f : FuncId) (s : eD) : Prop := qI Tryz.prog fL f s
abbrev OK (f : FuncId) (args : List V) (σ : List O) (x : V) (r : Option (List O)) : Prop := fq Tryz.prog fL f args σ x r
abbrev ay (f : FuncId) (s : Sm) : Prop := qK Tryz.prog fL f s
end Go.Proofs.YtllncocibkgjkaaGreat
