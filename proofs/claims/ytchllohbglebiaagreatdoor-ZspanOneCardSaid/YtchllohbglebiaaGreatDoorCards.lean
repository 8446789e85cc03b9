/-
  DERIVED. GIVEN WITH THE SEED: THE CARDS: each row of YtchllohbglebiaaGreatDoorRows.lean that lists a variable, with what it lists TIED to the program's text (the seventh form; the later family's looks); each row that meets fmt, with fmt's text TOLD by the authors' own Lean function (tested against real Go, not proved from fmt's source: count such statements apart). THE CARD IS WHAT COUNTS. Prove the row's statement (the work); the ties are given (YtchllohbglebiaaGreatDoorTie.lean); close each card by the builder's one call (the guide's Derived/Test/ToyasCard.lean, 'card_holds'). Laid BY PROGRAM, IN A SANDBOX (cutbox-door.mjs). By AI agents, Wed Nov 11 2026. No macro, syntax, notation, axiom, sorry.
-/
import Derived.Test.YtchllohbglebiaaGreatDoorRows
import GoSem.ClaimSeven
namespace Go.Proofs.YtchllohbglebiaaGreatDoor
namespace Rows

/-- THE TIED CARD OF 'truchmanlaw41.ZspanOne'. -/
def zspanOneCard : Claim7 := { stood := { row := zspanOneRow, standIns := [], harness := (true, "7ac1a0bb75f85b680011b6f6f28f6b47155bff9480976f5d77e4af86bb1b063f"), looks := true }, kinds := [], alts := [], laidByText := true, laidKinds := [.data], laidTests := true, laidLooks := .later }
def ZspanOneCardSaid : Prop := Claim7.holds Tryz.pinned (.plain (OpenSpec.ofChange zspanOneSpec)) zspanOneCard

/-- THE SECOND FORM's CARD OF 'truchmanlaw41.ZspanOne'. -/
def zspanOneUptoCard : Claim7 := { stood := { row := zspanOneUptoRow, standIns := [], harness := (true, "7ac1a0bb75f85b680011b6f6f28f6b47155bff9480976f5d77e4af86bb1b063f"), looks := true }, kinds := [], alts := [], laidByText := true, laidKinds := [.data], laidTests := true, laidLooks := .later }
def ZspanOneUptoCardSaid : Prop := Claim7.holds Tryz.pinned (.plain (OpenSpec.upto zspanOneSpec)) zspanOneUptoCard
end Rows
end Go.Proofs.YtchllohbglebiaaGreatDoor
