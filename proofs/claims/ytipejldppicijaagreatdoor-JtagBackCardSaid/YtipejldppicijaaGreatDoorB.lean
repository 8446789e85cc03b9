/-
  A part of the proof.
-/
import Derived.Test.YtipejldppicijaaGreatDoorVgTy
import Derived.Test.YtipejldppicijaaGreatDoorVgZ
set_option linter.unusedSimpArgs false
set_option linter.unusedVariables false
set_option maxHeartbeats 4000000
namespace Go.Proofs.YtipejldppicijaaGreatDoor
open Go Go.VG
set_option maxRecDepth 100000
theorem Bs : Tryz.prog.follows .mixedOrders = true := by kernel_rfl
def jG : Nat → Option (List V) := fun b => match b with
 | 0 => some [.int .u8 (56), .int .u8 (48), .int .u8 (40), .int .u8 (32), .int .u8 (24), .int .u8 (16), .int .u8 (8), .int .u8 (0)]
 | _ => none
def lkS : List (Nat × Sm) → Nat → Sm
 | [], _ => sm0
 | (k, s) :: r, f => cond (Nat.beq k f) s (lkS r f)
def lkH : List (Nat × List dQ) → Nat → List dQ
 | [], _ => []
 | (k, s) :: r, f => cond (Nat.beq k f) s (lkH r f)
noncomputable def cxh (l : List (Nat × Sm)) (h : List (Nat × List dQ)) : Ctx := ⟨Tryz.prog, tt, jG, fun f => lkS l f, fun _ _ _ => False, fun r => lkH h r, fun _ => false, fun _ _ _ _ => none, fun _ _ _ => none, fun _ => false⟩
noncomputable abbrev cx (l : List (Nat × Sm)) : Ctx := cxh l []
def OKs : List (Nat × Sm) → Prop
 | [] => True
 | (k, s) :: r => rl Tryz.prog jG k s ∧ OKs r
theorem vG : ∀ {l : List (Nat × Sm)} {f : Nat}, OKs l → rl Tryz.prog jG f (lkS l f)
 | [], _, _ => Mr
 | (k, s) :: r, f, h => by
   simp only [lkS]
   cases hb : Nat.beq k f with
   | true =>
     have := Nat.eq_of_beq_eq_true hb
     subst this
     exact h.1
   | false => exact vG h.2
theorem Bz {α : Type} {a : α} (h : (none : Option α) = some a) : (none : Option α) = some a := h
theorem ah {l : List (Nat × Sm)} {hs : List (Nat × List dQ)} (h : OKs l) : cj (cxh l hs) where
 ti := xY
 mt := fun _ _ _ h => h.elim
 hm := Bs
 gam := fun f args sg pre x r h' hp => vG h args sg pre x r h' hp
 del := fun _ _ _ _ _ _ _ _ _ h' => by cases (Bz h')
abbrev OK (f : FuncId) (args : List V) (σ : List O) (x : V) (r : Option (List O)) : Prop := cW Tryz.prog jG f args σ x r
abbrev aa (f : FuncId) (s : Sm) : Prop := rl Tryz.prog jG f s
end Go.Proofs.YtipejldppicijaaGreatDoor
