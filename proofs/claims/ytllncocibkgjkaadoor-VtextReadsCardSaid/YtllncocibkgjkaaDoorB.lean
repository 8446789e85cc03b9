/-
  A part of the proof.
-/
import Derived.Test.YtllncocibkgjkaaDoorVgTy
import Derived.Test.YtllncocibkgjkaaDoorVgZ
set_option linter.unusedSimpArgs false
set_option linter.unusedVariables false
set_option maxHeartbeats 4000000
namespace Go.Proofs.YtllncocibkgjkaaDoor
open Go Go.VG
set_option maxRecDepth 100000
theorem sr : Tryd.prog.follows .mixedOrders = true := by kernel_rfl
def fZ : Nat → Option (List V) := fun b => match b with
 | 0 => some [.int .u8 (56), .int .u8 (48), .int .u8 (40), .int .u8 (32), .int .u8 (24), .int .u8 (16), .int .u8 (8), .int .u8 (0)]
 | _ => none
def mV : List (Nat × Sm) → Nat → Sm
 | [], _ => sm0
 | (k, s) :: r, f => cond (Nat.beq k f) s (mV r f)
def lkH : List (Nat × List eH) → Nat → List eH
 | [], _ => []
 | (k, s) :: r, f => cond (Nat.beq k f) s (lkH r f)
noncomputable def cxh (l : List (Nat × Sm)) (h : List (Nat × List eH)) : Ctx := ⟨Tryd.prog, tt, fZ, fun f => mV l f, fun _ _ _ => False, fun r => lkH h r, fun _ => false, fun _ _ _ _ => none, fun _ _ _ => none, fun _ => false⟩
noncomputable abbrev cx (l : List (Nat × Sm)) : Ctx := cxh l []
def nv : List (Nat × Sm) → Prop
 | [] => True
 | (k, s) :: r => qZ Tryd.prog fZ k s ∧ nv r
theorem qf : ∀ {l : List (Nat × Sm)} {f : Nat}, nv l → qZ Tryd.prog fZ f (mV l f)
 | [], _, _ => K5
 | (k, s) :: r, f, h => by
   simp only [mV]
   cases hb : Nat.beq k f with
   | true =>
     have := Nat.eq_of_beq_eq_true hb
     subst this
     exact h.1
   | false => exact qf h.2
theorem HR {α : Type} {a : α} (h : (none : Option α) = some a) : (none : Option α) = some a := h
theorem aG {l : List (Nat × Sm)} {hs : List (Nat × List eH)} (h : nv l) : ct (cxh l hs) where
 ti := qQ
 mt := fun _ _ _ h => h.elim
 hm := sr
 gam := fun f args sg pre x r h' hp => qf h args sg pre x r h' hp
 del := fun _ _ _ _ _ _ _ _ _ h' => by cases (HR h')
def oA : List (Nat × eS) → Nat → eS
 | [], _ => psm0
 | (k, s) :: r, f => cond (Nat.beq k f) s (oA r f)
def OKp : List (Nat × eS) → Prop
 | [] => True
 | (k, s) :: r => qX Tryd.prog fZ k s ∧ OKp r
theorem sl : ∀ {l : List (Nat × eS)} {f : Nat}, OKp l → qX Tryd.prog fZ f (oA l f)
 | [], _, _ => IG
 | (k, s) :: r, f, h => by
   simp only [oA]
   cases hb : Nat.beq k f with
   | true =>
     have := Nat.eq_of_beq_eq_true hb
     subst this
     exact h.1
   | false => exact sl h.2
noncomputable def mA (l : List (Nat × Sm)) (p : List (Nat × eS)) : Ctx := ⟨Tryd.prog, tt, fZ, fun f => mV l f, fun _ _ _ => False, fun r => lkH [] r, fun _ => false, fun _ _ _ _ => none, fun f => oA p f, fun _ => false⟩
theorem og {l : List (Nat × Sm)} {p : List (Nat × eS)} (h : nv l) (hp : OKp p) : ct (mA l p) where
 ti := qQ
 mt := fun _ _ _ h => h.elim
 hm := sr
 gam := fun f args sg pre x r h' hp => qf h args sg pre x r h' hp
 del := fun f args sg pre c u r x r2 h' hq => sl hp args sg pre c u r x r2 h' hq
noncomputable def cxq (l : List (Nat × Sm)) (p : List (Nat × eS)) (n : List Nat) : Ctx := ⟨Tryd.prog, tt, fZ, fun f => mV l f, fun _ _ _ => False, fun r => lkH [] r, fun _ => false, fun _ _ _ _ => none, fun f => oA p f, fun d => aC d n⟩
theorem zt {l : List (Nat × Sm)} {p : List (Nat × eS)} {n : List Nat} (h : nv l) (hp : OKp p) : ct (cxq l p n) where
 ti := qQ
 mt := fun _ _ _ h => h.elim
 hm := sr
 gam := fun f args sg pre x r h' hp => qf h args sg pre x r h' hp
 del := fun f args sg pre c u r x r2 h' hq => sl hp args sg pre c u r x r2 h' hq
abbrev mj (f : FuncId) (args : List V) (σ : List O) (u : Value) (r : Option (List O)) : Prop := nx Tryd.prog fZ f args σ u r
abbrev fu (f : FuncId) (s : eS) : Prop := qX Tryd.prog fZ f s
abbrev OK (f : FuncId) (args : List V) (σ : List O) (x : V) (r : Option (List O)) : Prop := dv Tryd.prog fZ f args σ x r
abbrev aE (f : FuncId) (s : Sm) : Prop := qZ Tryd.prog fZ f s
end Go.Proofs.YtllncocibkgjkaaDoor
