/-
  DERIVED. GIVEN WITH THE SEED: THE CARDS: each row of YtgiocgghmlmgfaaDoorRows.lean that lists a variable, with what it lists TIED to the program's text (the seventh form; the later family's looks); each row that meets fmt, with fmt's text TOLD by the authors' own Lean function (tested against real Go, not proved from fmt's source: count such statements apart). THE CARD IS WHAT COUNTS. Prove the row's statement (the work); the ties are given (YtgiocgghmlmgfaaDoorTie.lean); close each card by the builder's one call (the guide's Derived/Test/ToyasCard.lean, 'card_holds'). Laid BY PROGRAM, IN A SANDBOX (cutbox-door.mjs). By AI agents, Wed Nov 11 2026. No macro, syntax, notation, axiom, sorry.
-/
import Derived.Test.YtgiocgghmlmgfaaDoorRows
import GoSem.ClaimSeven
namespace Go.Proofs.YtgiocgghmlmgfaaDoor
namespace Rows

/-- THE TIED CARD OF 'truchmanlaw19.PwriteReads'. -/
def pwriteReadsCard : Claim7 := { stood := { row := pwriteReadsRow, standIns := [], harness := (true, "c35180dad19c0f6f1800b1d2f5992f6d45a7ca2f7d3bcf956c615b8be51e3872"), looks := false }, kinds := [], alts := [], laidByText := true, laidKinds := [.data, .data], laidTests := true, laidLooks := .later }
def PwriteReadsCardSaid : Prop := Claim7.holds Tryd.pinned (.plain (OpenSpec.ofChange pwriteReadsSpec)) pwriteReadsCard

/-- THE SECOND FORM's CARD OF 'truchmanlaw19.PwriteReads'. -/
def pwriteReadsUptoCard : Claim7 := { stood := { row := pwriteReadsUptoRow, standIns := [], harness := (true, "c35180dad19c0f6f1800b1d2f5992f6d45a7ca2f7d3bcf956c615b8be51e3872"), looks := false }, kinds := [], alts := [], laidByText := true, laidKinds := [.data, .data], laidTests := true, laidLooks := .later }
def PwriteReadsUptoCardSaid : Prop := Claim7.holds Tryd.pinned (.plain (OpenSpec.upto pwriteReadsSpec)) pwriteReadsUptoCard
end Rows
end Go.Proofs.YtgiocgghmlmgfaaDoor
