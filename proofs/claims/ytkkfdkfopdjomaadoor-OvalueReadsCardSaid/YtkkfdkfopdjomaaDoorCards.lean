/-
  DERIVED. GIVEN WITH THE SEED: THE CARDS: each row of YtkkfdkfopdjomaaDoorRows.lean that lists a variable, with what it lists TIED to the program's text (the seventh form; the later family's looks); each row that meets fmt, with fmt's text TOLD by the authors' own Lean function (tested against real Go, not proved from fmt's source: count such statements apart). THE CARD IS WHAT COUNTS. Prove the row's statement (the work); the ties are given (YtkkfdkfopdjomaaDoorTie.lean); close each card by the builder's one call (the guide's Derived/Test/ToyasCard.lean, 'card_holds'). Laid BY PROGRAM, IN A SANDBOX (cutbox-door.mjs). By AI agents, Wed Nov 11 2026. No macro, syntax, notation, axiom, sorry.
-/
import Derived.Test.YtkkfdkfopdjomaaDoorRows
import GoSem.ClaimSeven
namespace Go.Proofs.YtkkfdkfopdjomaaDoor
namespace Rows

/-- THE TIED CARD OF 'truchmanlaw35.OvalueReads'. -/
def ovalueReadsCard : Claim7 := { stood := { row := ovalueReadsRow, standIns := [], harness := (true, "ea71fe883caf464070dcf57a5d48b7f7976ec2e54a9d6c7e83d236e72cf4e400"), looks := false }, kinds := [], alts := [], laidByText := true, laidKinds := [.data, .data, .data], laidTests := true, laidLooks := .later }
def OvalueReadsCardSaid : Prop := Claim7.holds Tryd.pinned (.plain (OpenSpec.ofChange ovalueReadsSpec)) ovalueReadsCard

/-- THE SECOND FORM's CARD OF 'truchmanlaw35.OvalueReads'. -/
def ovalueReadsUptoCard : Claim7 := { stood := { row := ovalueReadsUptoRow, standIns := [], harness := (true, "ea71fe883caf464070dcf57a5d48b7f7976ec2e54a9d6c7e83d236e72cf4e400"), looks := false }, kinds := [], alts := [], laidByText := true, laidKinds := [.data, .data, .data], laidTests := true, laidLooks := .later }
def OvalueReadsUptoCardSaid : Prop := Claim7.holds Tryd.pinned (.plain (OpenSpec.upto ovalueReadsSpec)) ovalueReadsUptoCard
end Rows
end Go.Proofs.YtkkfdkfopdjomaaDoor
