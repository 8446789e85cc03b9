/-
  DERIVED. GIVEN WITH THE SEED: THE CARDS: each row of YtbeejnmeakcpjaaDoorRows.lean that lists a variable, with what it lists TIED to the program's text (the seventh form; the later family's looks); each row that meets fmt, with fmt's text TOLD by the authors' own Lean function (tested against real Go, not proved from fmt's source: count such statements apart). THE CARD IS WHAT COUNTS. Prove the row's statement (the work); the ties are given (YtbeejnmeakcpjaaDoorTie.lean); close each card by the builder's one call (the guide's Derived/Test/ToyasCard.lean, 'card_holds'). Laid BY PROGRAM, IN A SANDBOX (cutbox-door.mjs). By AI agents, Wed Nov 11 2026. No macro, syntax, notation, axiom, sorry.
-/
import Derived.Test.YtbeejnmeakcpjaaDoorRows
import GoSem.ClaimSeven
namespace Go.Proofs.YtbeejnmeakcpjaaDoor
namespace Rows

/-- THE TIED CARD OF 'truchmanlaw18.PmsgTells'. -/
def pmsgTellsCard : Claim7 := { stood := { row := pmsgTellsRow, standIns := [], harness := (true, "f98be1ba4779de0f7bc5bd00f1a397a800acb7481ff9d53da940c15970c2f8fb"), looks := false }, kinds := [], alts := [], laidByText := true, laidKinds := [.data], laidTests := true, laidLooks := .later }
def PmsgTellsCardSaid : Prop := Claim7.holds Tryd.pinned (.plain (OpenSpec.ofChange pmsgTellsSpec)) pmsgTellsCard

/-- THE TIED CARD OF 'truchmanlaw17.PreadBack'. -/
def preadBackCard : Claim7 := { stood := { row := preadBackRow, standIns := [], harness := (true, "f98be1ba4779de0f7bc5bd00f1a397a800acb7481ff9d53da940c15970c2f8fb"), looks := false }, kinds := [], alts := [], laidByText := true, laidKinds := [.data, .data], laidTests := true, laidLooks := .later }
def PreadBackCardSaid : Prop := Claim7.holds Tryd.pinned (.plain (OpenSpec.ofChange preadBackSpec)) preadBackCard

/-- THE TIED CARD OF 'truchmanlaw17.PreadJoins'. -/
def preadJoinsCard : Claim7 := { stood := { row := preadJoinsRow, standIns := [], harness := (true, "f98be1ba4779de0f7bc5bd00f1a397a800acb7481ff9d53da940c15970c2f8fb"), looks := false }, kinds := [], alts := [], laidByText := true, laidKinds := [.data, .data], laidTests := true, laidLooks := .later }
def PreadJoinsCardSaid : Prop := Claim7.holds Tryd.pinned (.plain (OpenSpec.ofChange preadJoinsSpec)) preadJoinsCard

/-- THE TIED CARD OF 'truchmanlaw17.PreadAll'. -/
def preadAllCard : Claim7 := { stood := { row := preadAllRow, standIns := [], harness := (true, "f98be1ba4779de0f7bc5bd00f1a397a800acb7481ff9d53da940c15970c2f8fb"), looks := false }, kinds := [], alts := [], laidByText := true, laidKinds := [.data, .data], laidTests := true, laidLooks := .later }
def PreadAllCardSaid : Prop := Claim7.holds Tryd.pinned (.plain (OpenSpec.ofChange preadAllSpec)) preadAllCard

/-- THE TIED CARD OF 'truchmanlaw18.PmsgLast'. -/
def pmsgLastCard : Claim7 := { stood := { row := pmsgLastRow, standIns := [], harness := (true, "f98be1ba4779de0f7bc5bd00f1a397a800acb7481ff9d53da940c15970c2f8fb"), looks := false }, kinds := [], alts := [], laidByText := true, laidKinds := [.data, .data], laidTests := true, laidLooks := .later }
def PmsgLastCardSaid : Prop := Claim7.holds Tryd.pinned (.plain (OpenSpec.ofChange pmsgLastSpec)) pmsgLastCard

/-- THE TIED CARD OF 'truchmanlaw18.PmsgJoins'. -/
def pmsgJoinsCard : Claim7 := { stood := { row := pmsgJoinsRow, standIns := [], harness := (true, "f98be1ba4779de0f7bc5bd00f1a397a800acb7481ff9d53da940c15970c2f8fb"), looks := false }, kinds := [], alts := [], laidByText := true, laidKinds := [.data, .data], laidTests := true, laidLooks := .later }
def PmsgJoinsCardSaid : Prop := Claim7.holds Tryd.pinned (.plain (OpenSpec.ofChange pmsgJoinsSpec)) pmsgJoinsCard

/-- THE TIED CARD OF 'truchmanlaw19.PwriteReads'. -/
def pwriteReadsCard : Claim7 := { stood := { row := pwriteReadsRow, standIns := [], harness := (true, "f98be1ba4779de0f7bc5bd00f1a397a800acb7481ff9d53da940c15970c2f8fb"), looks := false }, kinds := [], alts := [], laidByText := true, laidKinds := [.data, .data], laidTests := true, laidLooks := .later }
def PwriteReadsCardSaid : Prop := Claim7.holds Tryd.pinned (.plain (OpenSpec.ofChange pwriteReadsSpec)) pwriteReadsCard

/-- THE SECOND FORM's CARD OF 'truchmanlaw18.PmsgTells'. -/
def pmsgTellsUptoCard : Claim7 := { stood := { row := pmsgTellsUptoRow, standIns := [], harness := (true, "f98be1ba4779de0f7bc5bd00f1a397a800acb7481ff9d53da940c15970c2f8fb"), looks := false }, kinds := [], alts := [], laidByText := true, laidKinds := [.data], laidTests := true, laidLooks := .later }
def PmsgTellsUptoCardSaid : Prop := Claim7.holds Tryd.pinned (.plain (OpenSpec.upto pmsgTellsSpec)) pmsgTellsUptoCard

/-- THE SECOND FORM's CARD OF 'truchmanlaw17.PreadBack'. -/
def preadBackUptoCard : Claim7 := { stood := { row := preadBackUptoRow, standIns := [], harness := (true, "f98be1ba4779de0f7bc5bd00f1a397a800acb7481ff9d53da940c15970c2f8fb"), looks := false }, kinds := [], alts := [], laidByText := true, laidKinds := [.data, .data], laidTests := true, laidLooks := .later }
def PreadBackUptoCardSaid : Prop := Claim7.holds Tryd.pinned (.plain (OpenSpec.upto preadBackSpec)) preadBackUptoCard

/-- THE SECOND FORM's CARD OF 'truchmanlaw17.PreadJoins'. -/
def preadJoinsUptoCard : Claim7 := { stood := { row := preadJoinsUptoRow, standIns := [], harness := (true, "f98be1ba4779de0f7bc5bd00f1a397a800acb7481ff9d53da940c15970c2f8fb"), looks := false }, kinds := [], alts := [], laidByText := true, laidKinds := [.data, .data], laidTests := true, laidLooks := .later }
def PreadJoinsUptoCardSaid : Prop := Claim7.holds Tryd.pinned (.plain (OpenSpec.upto preadJoinsSpec)) preadJoinsUptoCard

/-- THE SECOND FORM's CARD OF 'truchmanlaw17.PreadAll'. -/
def preadAllUptoCard : Claim7 := { stood := { row := preadAllUptoRow, standIns := [], harness := (true, "f98be1ba4779de0f7bc5bd00f1a397a800acb7481ff9d53da940c15970c2f8fb"), looks := false }, kinds := [], alts := [], laidByText := true, laidKinds := [.data, .data], laidTests := true, laidLooks := .later }
def PreadAllUptoCardSaid : Prop := Claim7.holds Tryd.pinned (.plain (OpenSpec.upto preadAllSpec)) preadAllUptoCard

/-- THE SECOND FORM's CARD OF 'truchmanlaw18.PmsgLast'. -/
def pmsgLastUptoCard : Claim7 := { stood := { row := pmsgLastUptoRow, standIns := [], harness := (true, "f98be1ba4779de0f7bc5bd00f1a397a800acb7481ff9d53da940c15970c2f8fb"), looks := false }, kinds := [], alts := [], laidByText := true, laidKinds := [.data, .data], laidTests := true, laidLooks := .later }
def PmsgLastUptoCardSaid : Prop := Claim7.holds Tryd.pinned (.plain (OpenSpec.upto pmsgLastSpec)) pmsgLastUptoCard

/-- THE SECOND FORM's CARD OF 'truchmanlaw18.PmsgJoins'. -/
def pmsgJoinsUptoCard : Claim7 := { stood := { row := pmsgJoinsUptoRow, standIns := [], harness := (true, "f98be1ba4779de0f7bc5bd00f1a397a800acb7481ff9d53da940c15970c2f8fb"), looks := false }, kinds := [], alts := [], laidByText := true, laidKinds := [.data, .data], laidTests := true, laidLooks := .later }
def PmsgJoinsUptoCardSaid : Prop := Claim7.holds Tryd.pinned (.plain (OpenSpec.upto pmsgJoinsSpec)) pmsgJoinsUptoCard

/-- THE SECOND FORM's CARD OF 'truchmanlaw19.PwriteReads'. -/
def pwriteReadsUptoCard : Claim7 := { stood := { row := pwriteReadsUptoRow, standIns := [], harness := (true, "f98be1ba4779de0f7bc5bd00f1a397a800acb7481ff9d53da940c15970c2f8fb"), looks := false }, kinds := [], alts := [], laidByText := true, laidKinds := [.data, .data], laidTests := true, laidLooks := .later }
def PwriteReadsUptoCardSaid : Prop := Claim7.holds Tryd.pinned (.plain (OpenSpec.upto pwriteReadsSpec)) pwriteReadsUptoCard
end Rows
end Go.Proofs.YtbeejnmeakcpjaaDoor
