/-
  A part of the proof.
-/
import Derived.Test.YtdjolnjlhbfnmaaGreatDoorVgTy
import Derived.Test.YtdjolnjlhbfnmaaGreatDoorVgZ
set_option linter.unusedSimpArgs false
set_option linter.unusedVariables false
set_option maxHeartbeats 4000000
namespace Go.Proofs.YtdjolnjlhbfnmaaGreatDoor
open Go Go.VG
set_option maxRecDepth 100000
theorem u9 : Tryz.prog.follows .mixedOrders = true := by kernel_rfl
def jc : Nat → Option (List V) := fun b => match b with
 | 0 => some [.int .i64 (0), .int .i64 (1), .int .i64 (2), .int .i64 (3), .int .i64 (4), .int .i64 (7), .int .i64 (5), .int .i64 (6)]
 | 1 => some [.int .i64 (0), .int .i64 (2), .int .i64 (0), .int .i64 (0), .int .i64 (1), .int .i64 (2), .int .i64 (2), .int .i64 (2)]
 | 2 => some [.int .i64 (0), .int .i64 (0)]
 | _ => none
def mX : List (Nat × Sm) → Nat → Sm
 | [], _ => sm0
 | (k, s) :: r, f => cond (Nat.beq k f) s (mX r f)
def lkH : List (Nat × List dR) → Nat → List dR
 | [], _ => []
 | (k, s) :: r, f => cond (Nat.beq k f) s (lkH r f)
noncomputable def nR (l : List (Nat × Sm)) (h : List (Nat × List dR)) : Ctx := ⟨Tryz.prog, tt, jc, fun f => mX l f, fun _ _ _ => False, fun r => lkH h r, fun _ => false, fun _ _ _ _ => none, fun _ _ _ => none, fun _ => false, fun _ => none⟩
noncomputable abbrev cx (l : List (Nat × Sm)) : Ctx := nR l []
def oS : List (Nat × Sm) → Prop
 | [] => True
 | (k, s) :: r => sV Tryz.prog jc k s ∧ oS r
theorem rR : ∀ {l : List (Nat × Sm)} {f : Nat}, oS l → sV Tryz.prog jc f (mX l f)
 | [], _, _ => Ep
 | (k, s) :: r, f, h => by
   simp only [mX]
   cases hb : Nat.beq k f with
   | true =>
     have := Nat.eq_of_beq_eq_true hb
     subst this
     exact h.1
   | false => exact rR h.2
theorem ud {α : Type} {a : α} (h : (none : Option α) = some a) : (none : Option α) = some a := h
theorem aq {l : List (Nat × Sm)} {hs : List (Nat × List dR)} (h : oS l) : cH (nR l hs) where
 ti := sM
 mt := fun _ _ _ h => h.elim
 hm := u9
 gam := fun f args sg pre x r h' hp => rR h args sg pre x r h' hp
 del := fun _ _ _ _ _ _ _ _ _ h' => by cases (ud h')
noncomputable def cxy (l : List (Nat × Sm)) (y : Nat → List V → List O → List Nat → Option (Prop × V × List O × List Nat)) : Ctx := ⟨Tryz.prog, tt, jc, fun f => mX l f, fun _ _ _ => False, fun r => lkH [] r, fun _ => false, y, fun _ _ _ => none, fun _ => false, fun _ => none⟩
theorem goody {l : List (Nat × Sm)} {y : Nat → List V → List O → List Nat → Option (Prop × V × List O × List Nat)} (h : oS l) : cH (cxy l y) where
 ti := sM
 mt := fun _ _ _ h => h.elim
 hm := u9
 gam := fun f args sg pre x r h' hp => rR h args sg pre x r h' hp
 del := fun _ _ _ _ _ _ _ _ _ h' => by cases (ud h')
def lkR : List (Nat × Nat) → Nat → Option Nat
 | [], _ => none
 | (k, s) :: r, d => cond (Nat.beq k d) (some s) (lkR r d)
noncomputable def cxv (l : List (Nat × Sm)) (h : List (Nat × List dR)) (rs : List (Nat × Nat)) : Ctx := ⟨Tryz.prog, tt, jc, fun f => mX l f, fun _ _ _ => False, fun r => lkH h r, fun _ => false, fun _ _ _ _ => none, fun _ _ _ => none, fun _ => false, fun d => lkR rs d⟩
theorem wq {l : List (Nat × Sm)} {hs : List (Nat × List dR)} {rs : List (Nat × Nat)} (h : oS l) : cH (cxv l hs rs) where
 ti := sM
 mt := fun _ _ _ h => h.elim
 hm := u9
 gam := fun f args sg pre x r h' hp => rR h args sg pre x r h' hp
 del := fun _ _ _ _ _ _ _ _ _ h' => by cases (ud h')
abbrev OK (f : FuncId) (args : List V) (σ : List O) (x : V) (r : Option (List O)) : Prop := ey Tryz.prog jc f args σ x r
abbrev au (f : FuncId) (s : Sm) : Prop := sV Tryz.prog jc f s
end Go.Proofs.YtdjolnjlhbfnmaaGreatDoor
