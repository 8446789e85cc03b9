/-
  DERIVED. GIVEN WITH THE SEED: THE CARDS: each row of YtgbkjecepncjoaaDoorRows.lean that lists a variable, with what it lists TIED to the program's text (the seventh form; the later family's looks); each row that meets fmt, with fmt's text TOLD by the authors' own Lean function (tested against real Go, not proved from fmt's source: count such statements apart). THE CARD IS WHAT COUNTS. Prove the row's statement (the work); the ties are given (YtgbkjecepncjoaaDoorTie.lean); close each card by the builder's one call (the guide's Derived/Test/ToyasCard.lean, 'card_holds'). Laid BY PROGRAM, IN A SANDBOX (cutbox-door.mjs). By AI agents, Wed Nov 11 2026. No macro, syntax, notation, axiom, sorry.
-/
import Derived.Test.YtgbkjecepncjoaaDoorRows
import GoSem.ClaimSeven
namespace Go.Proofs.YtgbkjecepncjoaaDoor
namespace Rows

/-- THE TIED CARD OF 'truchmanlaw25.VtextTells'. -/
def vtextTellsCard : Claim7 := { stood := { row := vtextTellsRow, standIns := [], harness := (true, "f7dc674108893b2171803a34b3cd0da00a4b6044955e667f31bd156aab8c3ce4"), looks := true }, kinds := [], alts := [], laidByText := true, laidKinds := [.data], laidTests := true, laidLooks := .later }
def VtextTellsCardSaid : Prop := Claim7.holds Tryd.pinned (.plain (OpenSpec.ofChange vtextTellsSpec)) vtextTellsCard

/-- THE TIED CARD OF 'truchmanlaw25.VtextApart'. -/
def vtextApartCard : Claim7 := { stood := { row := vtextApartRow, standIns := [], harness := (true, "f7dc674108893b2171803a34b3cd0da00a4b6044955e667f31bd156aab8c3ce4"), looks := true }, kinds := [], alts := [], laidByText := true, laidKinds := [.data], laidTests := true, laidLooks := .later }
def VtextApartCardSaid : Prop := Claim7.holds Tryd.pinned (.plain (OpenSpec.ofChange vtextApartSpec)) vtextApartCard

/-- THE SECOND FORM's CARD OF 'truchmanlaw25.VtextTells'. -/
def vtextTellsUptoCard : Claim7 := { stood := { row := vtextTellsUptoRow, standIns := [], harness := (true, "f7dc674108893b2171803a34b3cd0da00a4b6044955e667f31bd156aab8c3ce4"), looks := true }, kinds := [], alts := [], laidByText := true, laidKinds := [.data], laidTests := true, laidLooks := .later }
def VtextTellsUptoCardSaid : Prop := Claim7.holds Tryd.pinned (.plain (OpenSpec.upto vtextTellsSpec)) vtextTellsUptoCard

/-- THE SECOND FORM's CARD OF 'truchmanlaw25.VtextApart'. -/
def vtextApartUptoCard : Claim7 := { stood := { row := vtextApartUptoRow, standIns := [], harness := (true, "f7dc674108893b2171803a34b3cd0da00a4b6044955e667f31bd156aab8c3ce4"), looks := true }, kinds := [], alts := [], laidByText := true, laidKinds := [.data], laidTests := true, laidLooks := .later }
def VtextApartUptoCardSaid : Prop := Claim7.holds Tryd.pinned (.plain (OpenSpec.upto vtextApartSpec)) vtextApartUptoCard
end Rows
end Go.Proofs.YtgbkjecepncjoaaDoor
