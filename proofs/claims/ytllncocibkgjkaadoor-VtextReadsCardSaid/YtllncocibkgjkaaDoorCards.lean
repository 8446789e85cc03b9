/-
  DERIVED. GIVEN WITH THE SEED: THE CARDS: each row of YtllncocibkgjkaaDoorRows.lean that lists a variable, with what it lists TIED to the program's text (the seventh form; the later family's looks); each row that meets fmt, with fmt's text TOLD by the authors' own Lean function (tested against real Go, not proved from fmt's source: count such statements apart). THE CARD IS WHAT COUNTS. Prove the row's statement (the work); the ties are given (YtllncocibkgjkaaDoorTie.lean); close each card by the builder's one call (the guide's Derived/Test/ToyasCard.lean, 'card_holds'). Laid BY PROGRAM, IN A SANDBOX (cutbox-door.mjs). By AI agents, Wed Nov 11 2026. No macro, syntax, notation, axiom, sorry.
-/
import Derived.Test.YtllncocibkgjkaaDoorRows
import GoSem.ClaimSeven
namespace Go.Proofs.YtllncocibkgjkaaDoor
namespace Rows

/-- THE TIED CARD OF 'truchmanlaw25.VtextReads'. -/
def vtextReadsCard : Claim7 := { stood := { row := vtextReadsRow, standIns := [], harness := (true, "c9bfc0ba5d799813fa5c2f6deb05c67e1050c31b4e5215ac8acb1cbf19b0dedb"), looks := true }, kinds := [], alts := [], laidByText := true, laidKinds := [.data], laidTests := true, laidLooks := .later }
def VtextReadsCardSaid : Prop := Claim7.holds Tryd.pinned (.plain (OpenSpec.ofChange vtextReadsSpec)) vtextReadsCard

/-- THE SECOND FORM's CARD OF 'truchmanlaw25.VtextReads'. -/
def vtextReadsUptoCard : Claim7 := { stood := { row := vtextReadsUptoRow, standIns := [], harness := (true, "c9bfc0ba5d799813fa5c2f6deb05c67e1050c31b4e5215ac8acb1cbf19b0dedb"), looks := true }, kinds := [], alts := [], laidByText := true, laidKinds := [.data], laidTests := true, laidLooks := .later }
def VtextReadsUptoCardSaid : Prop := Claim7.holds Tryd.pinned (.plain (OpenSpec.upto vtextReadsSpec)) vtextReadsUptoCard
end Rows
end Go.Proofs.YtllncocibkgjkaaDoor
