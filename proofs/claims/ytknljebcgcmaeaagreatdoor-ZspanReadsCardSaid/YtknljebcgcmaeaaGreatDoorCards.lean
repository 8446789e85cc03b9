/-
  DERIVED. GIVEN WITH THE SEED: THE CARDS: each row of YtknljebcgcmaeaaGreatDoorRows.lean that lists a variable, with what it lists TIED to the program's text (the seventh form; the later family's looks); each row that meets fmt, with fmt's text TOLD by the authors' own Lean function (tested against real Go, not proved from fmt's source: count such statements apart). THE CARD IS WHAT COUNTS. Prove the row's statement (the work); the ties are given (YtknljebcgcmaeaaGreatDoorTie.lean); close each card by the builder's one call (the guide's Derived/Test/ToyasCard.lean, 'card_holds'). Laid BY PROGRAM, IN A SANDBOX (cutbox-door.mjs). By AI agents, Wed Nov 11 2026. No macro, syntax, notation, axiom, sorry.
-/
import Derived.Test.YtknljebcgcmaeaaGreatDoorRows
import GoSem.ClaimSeven
namespace Go.Proofs.YtknljebcgcmaeaaGreatDoor
namespace Rows

/-- THE TIED CARD OF 'truchmanlaw41.ZspanReads'. -/
def zspanReadsCard : Claim7 := { stood := { row := zspanReadsRow, standIns := [], harness := (true, "9b90f9105f60da76dbff64c735db23c67d089ef979a0235aa91669b92e818824"), looks := true }, kinds := [], alts := [], laidByText := true, laidKinds := [.data], laidTests := true, laidLooks := .later }
def ZspanReadsCardSaid : Prop := Claim7.holds Tryz.pinned (.plain (OpenSpec.ofChange zspanReadsSpec)) zspanReadsCard

/-- THE SECOND FORM's CARD OF 'truchmanlaw41.ZspanReads'. -/
def zspanReadsUptoCard : Claim7 := { stood := { row := zspanReadsUptoRow, standIns := [], harness := (true, "9b90f9105f60da76dbff64c735db23c67d089ef979a0235aa91669b92e818824"), looks := true }, kinds := [], alts := [], laidByText := true, laidKinds := [.data], laidTests := true, laidLooks := .later }
def ZspanReadsUptoCardSaid : Prop := Claim7.holds Tryz.pinned (.plain (OpenSpec.upto zspanReadsSpec)) zspanReadsUptoCard
end Rows
end Go.Proofs.YtknljebcgcmaeaaGreatDoor
