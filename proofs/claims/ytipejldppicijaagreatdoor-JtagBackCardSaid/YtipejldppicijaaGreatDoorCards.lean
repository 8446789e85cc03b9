/-
  DERIVED. GIVEN WITH THE SEED: THE CARDS: each row of YtipejldppicijaaGreatDoorRows.lean that lists a variable, with what it lists TIED to the program's text (the seventh form; the later family's looks); each row that meets fmt, with fmt's text TOLD by the authors' own Lean function (tested against real Go, not proved from fmt's source: count such statements apart). THE CARD IS WHAT COUNTS. Prove the row's statement (the work); the ties are given (YtipejldppicijaaGreatDoorTie.lean); close each card by the builder's one call (the guide's Derived/Test/ToyasCard.lean, 'card_holds'). Laid BY PROGRAM, IN A SANDBOX (cutbox-door.mjs). By AI agents, Wed Nov 11 2026. No macro, syntax, notation, axiom, sorry.
-/
import Derived.Test.YtipejldppicijaaGreatDoorRows
import GoSem.ClaimSeven
namespace Go.Proofs.YtipejldppicijaaGreatDoor
namespace Rows

/-- THE TIED CARD OF 'truchmanlaw38.JtagReads'. -/
def jtagReadsCard : Claim7 := { stood := { row := jtagReadsRow, standIns := [], harness := (true, "01cfc063c0f0fb8e45b1fddded626ad5a758264363e1c17e8f6ff7b9dfac028f"), looks := true }, kinds := [], alts := [], laidByText := true, laidKinds := [.data], laidTests := true, laidLooks := .later }
def JtagReadsCardSaid : Prop := Claim7.holds Tryz.pinned (.plain (OpenSpec.ofChange jtagReadsSpec)) jtagReadsCard

/-- THE TIED CARD OF 'truchmanlaw38.JtagBack'. -/
def jtagBackCard : Claim7 := { stood := { row := jtagBackRow, standIns := [], harness := (true, "01cfc063c0f0fb8e45b1fddded626ad5a758264363e1c17e8f6ff7b9dfac028f"), looks := true }, kinds := [], alts := [], laidByText := true, laidKinds := [.data], laidTests := true, laidLooks := .later }
def JtagBackCardSaid : Prop := Claim7.holds Tryz.pinned (.plain (OpenSpec.ofChange jtagBackSpec)) jtagBackCard

/-- THE TIED CARD OF 'truchmanlaw38.JtagRoom'. -/
def jtagRoomCard : Claim7 := { stood := { row := jtagRoomRow, standIns := [], harness := (true, "01cfc063c0f0fb8e45b1fddded626ad5a758264363e1c17e8f6ff7b9dfac028f"), looks := true }, kinds := [], alts := [], laidByText := true, laidKinds := [.data], laidTests := true, laidLooks := .later }
def JtagRoomCardSaid : Prop := Claim7.holds Tryz.pinned (.plain (OpenSpec.ofChange jtagRoomSpec)) jtagRoomCard

/-- THE SECOND FORM's CARD OF 'truchmanlaw38.JtagReads'. -/
def jtagReadsUptoCard : Claim7 := { stood := { row := jtagReadsUptoRow, standIns := [], harness := (true, "01cfc063c0f0fb8e45b1fddded626ad5a758264363e1c17e8f6ff7b9dfac028f"), looks := true }, kinds := [], alts := [], laidByText := true, laidKinds := [.data], laidTests := true, laidLooks := .later }
def JtagReadsUptoCardSaid : Prop := Claim7.holds Tryz.pinned (.plain (OpenSpec.upto jtagReadsSpec)) jtagReadsUptoCard

/-- THE SECOND FORM's CARD OF 'truchmanlaw38.JtagBack'. -/
def jtagBackUptoCard : Claim7 := { stood := { row := jtagBackUptoRow, standIns := [], harness := (true, "01cfc063c0f0fb8e45b1fddded626ad5a758264363e1c17e8f6ff7b9dfac028f"), looks := true }, kinds := [], alts := [], laidByText := true, laidKinds := [.data], laidTests := true, laidLooks := .later }
def JtagBackUptoCardSaid : Prop := Claim7.holds Tryz.pinned (.plain (OpenSpec.upto jtagBackSpec)) jtagBackUptoCard

/-- THE SECOND FORM's CARD OF 'truchmanlaw38.JtagRoom'. -/
def jtagRoomUptoCard : Claim7 := { stood := { row := jtagRoomUptoRow, standIns := [], harness := (true, "01cfc063c0f0fb8e45b1fddded626ad5a758264363e1c17e8f6ff7b9dfac028f"), looks := true }, kinds := [], alts := [], laidByText := true, laidKinds := [.data], laidTests := true, laidLooks := .later }
def JtagRoomUptoCardSaid : Prop := Claim7.holds Tryz.pinned (.plain (OpenSpec.upto jtagRoomSpec)) jtagRoomUptoCard
end Rows
end Go.Proofs.YtipejldppicijaaGreatDoor
