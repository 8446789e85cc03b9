/-
  DERIVED. GIVEN WITH THE SEED: THE CARDS: each row of YtafgmmfbhpbogaaGreatDoorRows.lean that lists a variable, with what it lists TIED to the program's text (the seventh form; the later family's looks); each row that meets fmt, with fmt's text TOLD by the authors' own Lean function (tested against real Go, not proved from fmt's source: count such statements apart). THE CARD IS WHAT COUNTS. Prove the row's statement (the work); the ties are given (YtafgmmfbhpbogaaGreatDoorTie.lean); close each card by the builder's one call (the guide's Derived/Test/ToyasCard.lean, 'card_holds'). Laid BY PROGRAM, IN A SANDBOX (cutbox-door.mjs). By AI agents, Wed Nov 11 2026. No macro, syntax, notation, axiom, sorry.
-/
import Derived.Test.YtafgmmfbhpbogaaGreatDoorRows
import GoSem.ClaimSeven
namespace Go.Proofs.YtafgmmfbhpbogaaGreatDoor
namespace Rows

/-- THE TIED CARD OF 'truchmanlaw48.PolicyOver'. -/
def policyOverCard : Claim7 := { stood := { row := policyOverRow, standIns := [], harness := (true, "ef89cd0ec49b8485d65dd9ebcb5de75d34fa11789d610c5fed7e134aacd4dc24"), looks := true }, kinds := [], alts := [], laidByText := true, laidKinds := [.data, .data, .handle, .data, .data, .data], laidTests := true, laidLooks := .later }
def PolicyOverCardSaid : Prop := Claim7.holds Tryz.pinned (.plain (OpenSpec.ofChange policyOverSpec)) policyOverCard

/-- THE SECOND FORM's CARD OF 'truchmanlaw48.PolicyOver'. -/
def policyOverUptoCard : Claim7 := { stood := { row := policyOverUptoRow, standIns := [], harness := (true, "ef89cd0ec49b8485d65dd9ebcb5de75d34fa11789d610c5fed7e134aacd4dc24"), looks := true }, kinds := [], alts := [], laidByText := true, laidKinds := [.data, .data, .handle, .data, .data, .data], laidTests := true, laidLooks := .later }
def PolicyOverUptoCardSaid : Prop := Claim7.holds Tryz.pinned (.plain (OpenSpec.upto policyOverSpec)) policyOverUptoCard
end Rows
end Go.Proofs.YtafgmmfbhpbogaaGreatDoor
