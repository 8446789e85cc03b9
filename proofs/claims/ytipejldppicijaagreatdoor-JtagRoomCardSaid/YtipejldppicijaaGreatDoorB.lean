/-
  A part of the proof.
-/
import Derived.Test.YtipejldppicijaaGreatDoorVgTy
import Derived.Test.YtipejldppicijaaGreatDoorVgZ
set_option linter.unusedSimpArgs false
set_option linter.unusedVariables false
set_option maxHeartbeats 4000000
namespace Go.Proofs.YtipejldppicijaaGreatDoor
open Go Go.VG
set_option maxRecDepth 100000
theorem yx : Tryz.prog.follows .mixedOrders = true := by kernel_rfl
def iU : Nat → Option (List V) := fun b => match b with
 | 0 => some [.int .u8 (56), .int .u8 (48), .int .u8 (40), .int .u8 (32), .int .u8 (24), .int .u8 (16), .int .u8 (8), .int .u8 (0)]
 | _ => none
def lkS : List (Nat × Sm) → Nat → Sm
 | [], _ => sm0
 | (k, s) :: r, f => cond (Nat.beq k f) s (lkS r f)
def lkH : List (Nat × List dp) → Nat → List dp
 | [], _ => []
 | (k, s) :: r, f => cond (Nat.beq k f) s (lkH r f)
noncomputable def cxh (l : List (Nat × Sm)) (h : List (Nat × List dp)) : Ctx := ⟨Tryz.prog, tt, iU, fun f => lkS l f, fun _ _ _ => False, fun r => lkH h r, fun _ => false, fun _ _ _ _ => none, fun _ _ _ => none, fun _ => false⟩
noncomputable abbrev cx (l : List (Nat × Sm)) : Ctx := cxh l []
def OKs : List (Nat × Sm) → Prop
 | [] => True
 | (k, s) :: r => pP Tryz.prog iU k s ∧ OKs r
theorem tq : ∀ {l : List (Nat × Sm)} {f : Nat}, OKs l → pP Tryz.prog iU f (lkS l f)
 | [], _, _ => Ib
 | (k, s) :: r, f, h => by
   simp only [lkS]
   cases hb : Nat.beq k f with
   | true =>
     have := Nat.eq_of_beq_eq_true hb
     subst this
     exact h.1
   | false => exact tq h.2
theorem yD {α : Type} {a : α} (h : (none : Option α) = some a) : (none : Option α) = some a := h
theorem aj {l : List (Nat × Sm)} {hs : List (Nat × List dp)} (h : OKs l) : bN (cxh l hs) where
 ti := vo
 mt := fun _ _ _ h => h.elim
 hm := yx
 gam := fun f args sg pre x r h' hp => tq h args sg pre x r h' hp
 del := fun _ _ _ _ _ _ _ _ _ h' => by cases (yD h')
abbrev OK (f : FuncId) (args : List V) (σ : List O) (x : V) (r : Option (List O)) : Prop := cI Tryz.prog iU f args σ x r
abbrev aa (f : FuncId) (s : Sm) : Prop := pP Tryz.prog iU f s
end Go.Proofs.YtipejldppicijaaGreatDoor
