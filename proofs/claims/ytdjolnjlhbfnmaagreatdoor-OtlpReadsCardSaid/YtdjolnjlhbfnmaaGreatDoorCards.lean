/-
  DERIVED. GIVEN WITH THE SEED: THE CARDS: each row of YtdjolnjlhbfnmaaGreatDoorRows.lean that lists a variable, with what it lists TIED to the program's text (the seventh form; the later family's looks); each row that meets fmt, with fmt's text TOLD by the authors' own Lean function (tested against real Go, not proved from fmt's source: count such statements apart). THE CARD IS WHAT COUNTS. Prove the row's statement (the work); the ties are given (YtdjolnjlhbfnmaaGreatDoorTie.lean); close each card by the builder's one call (the guide's Derived/Test/ToyasCard.lean, 'card_holds'). Laid BY PROGRAM, IN A SANDBOX (cutbox-door.mjs). By AI agents, Wed Nov 11 2026. No macro, syntax, notation, axiom, sorry.
-/
import Derived.Test.YtdjolnjlhbfnmaaGreatDoorRows
import GoSem.ClaimSeven
namespace Go.Proofs.YtdjolnjlhbfnmaaGreatDoor
namespace Rows

/-- THE TIED CARD OF 'truchmanlaw37.OtlpReads'. -/
def otlpReadsCard : Claim7 := { stood := { row := otlpReadsRow, standIns := [], harness := (true, "bb9d574f90968a6ae8c39fb21e84da3ab01912bb5a68a6ade89d20980856c254"), looks := false }, kinds := [], alts := [], laidByText := true, laidKinds := [.data, .data, .data], laidTests := true, laidLooks := .later }
def OtlpReadsCardSaid : Prop := Claim7.holds Tryz.pinned (.plain (OpenSpec.ofChange otlpReadsSpec)) otlpReadsCard

/-- THE SECOND FORM's CARD OF 'truchmanlaw37.OtlpReads'. -/
def otlpReadsUptoCard : Claim7 := { stood := { row := otlpReadsUptoRow, standIns := [], harness := (true, "bb9d574f90968a6ae8c39fb21e84da3ab01912bb5a68a6ade89d20980856c254"), looks := false }, kinds := [], alts := [], laidByText := true, laidKinds := [.data, .data, .data], laidTests := true, laidLooks := .later }
def OtlpReadsUptoCardSaid : Prop := Claim7.holds Tryz.pinned (.plain (OpenSpec.upto otlpReadsSpec)) otlpReadsUptoCard
end Rows
end Go.Proofs.YtdjolnjlhbfnmaaGreatDoor
