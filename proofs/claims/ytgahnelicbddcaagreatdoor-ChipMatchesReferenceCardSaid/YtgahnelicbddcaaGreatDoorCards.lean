/-
  DERIVED. GIVEN WITH THE SEED: THE CARDS: each row of YtgahnelicbddcaaGreatDoorRows.lean that lists a variable, with what it lists TIED to the program's text (the seventh form; the later family's looks); each row that meets fmt, with fmt's text TOLD by the authors' own Lean function (tested against real Go, not proved from fmt's source: count such statements apart). THE CARD IS WHAT COUNTS. Prove the row's statement (the work); the ties are given (YtgahnelicbddcaaGreatDoorTie.lean); close each card by the builder's one call (the guide's Derived/Test/ToyasCard.lean, 'card_holds'). Laid BY PROGRAM, IN A SANDBOX (cutbox-door.mjs). By AI agents, Wed Nov 11 2026. No macro, syntax, notation, axiom, sorry.
-/
import Derived.Test.YtgahnelicbddcaaGreatDoorRows
import GoSem.ClaimSeven
namespace Go.Proofs.YtgahnelicbddcaaGreatDoor
namespace Rows

/-- THE TIED CARD OF 'wireloomlaw28.ChipNumbers'. -/
def chipNumbersCard : Claim7 := { stood := { row := chipNumbersRow, standIns := [], harness := (true, "852957a0fd3a95ff81f08367dbb2fe76ca4ada6cce9636746d3b1b7e667c6a4c"), looks := true }, kinds := [], alts := [], laidByText := true, laidKinds := [.data, .data, .data, .data, .sentinel, .sentinel, .pinned], laidTests := true, laidLooks := .later }
def ChipNumbersCardSaid : Prop := Claim7.holds Tryz.pinned (.plain (OpenSpec.ofChange chipNumbersSpec)) chipNumbersCard

/-- THE TIED CARD OF 'wireloomlaw28.ChipTexts'. -/
def chipTextsCard : Claim7 := { stood := { row := chipTextsRow, standIns := [], harness := (true, "852957a0fd3a95ff81f08367dbb2fe76ca4ada6cce9636746d3b1b7e667c6a4c"), looks := true }, kinds := [], alts := [], laidByText := true, laidKinds := [.data, .data, .data, .data, .sentinel, .sentinel, .pinned], laidTests := true, laidLooks := .later }
def ChipTextsCardSaid : Prop := Claim7.holds Tryz.pinned (.plain (OpenSpec.ofChange chipTextsSpec)) chipTextsCard

/-- THE TIED CARD OF 'wireloomlaw28.ChipMatchesReference'. -/
def chipMatchesReferenceCard : Claim7 := { stood := { row := chipMatchesReferenceRow, standIns := [], harness := (true, "852957a0fd3a95ff81f08367dbb2fe76ca4ada6cce9636746d3b1b7e667c6a4c"), looks := true }, kinds := [], alts := [], laidByText := true, laidKinds := [.data, .data, .data, .data, .sentinel, .sentinel, .pinned], laidTests := true, laidLooks := .later }
def ChipMatchesReferenceCardSaid : Prop := Claim7.holds Tryz.pinned (.plain (OpenSpec.ofChange chipMatchesReferenceSpec)) chipMatchesReferenceCard

/-- THE TIED CARD OF 'wireloomlaw28.ChipDirections'. -/
def chipDirectionsCard : Claim7 := { stood := { row := chipDirectionsRow, standIns := [], harness := (true, "852957a0fd3a95ff81f08367dbb2fe76ca4ada6cce9636746d3b1b7e667c6a4c"), looks := true }, kinds := [], alts := [], laidByText := true, laidKinds := [.data, .data, .data, .data, .sentinel, .sentinel, .pinned], laidTests := true, laidLooks := .later }
def ChipDirectionsCardSaid : Prop := Claim7.holds Tryz.pinned (.plain (OpenSpec.ofChange chipDirectionsSpec)) chipDirectionsCard

/-- THE TIED CARD OF 'wireloomlaw28.ChipTracks'. -/
def chipTracksCard : Claim7 := { stood := { row := chipTracksRow, standIns := [], harness := (true, "852957a0fd3a95ff81f08367dbb2fe76ca4ada6cce9636746d3b1b7e667c6a4c"), looks := true }, kinds := [], alts := [], laidByText := true, laidKinds := [.data, .data, .data, .data, .sentinel, .sentinel, .pinned], laidTests := true, laidLooks := .later }
def ChipTracksCardSaid : Prop := Claim7.holds Tryz.pinned (.plain (OpenSpec.ofChange chipTracksSpec)) chipTracksCard

/-- THE TIED CARD OF 'wireloomlaw28.ChipReach'. -/
def chipReachCard : Claim7 := { stood := { row := chipReachRow, standIns := [], harness := (true, "852957a0fd3a95ff81f08367dbb2fe76ca4ada6cce9636746d3b1b7e667c6a4c"), looks := true }, kinds := [], alts := [], laidByText := true, laidKinds := [.data, .data, .data, .data, .sentinel, .sentinel, .pinned], laidTests := true, laidLooks := .later }
def ChipReachCardSaid : Prop := Claim7.holds Tryz.pinned (.plain (OpenSpec.ofChange chipReachSpec)) chipReachCard

/-- THE SECOND FORM's CARD OF 'wireloomlaw28.ChipNumbers'. -/
def chipNumbersUptoCard : Claim7 := { stood := { row := chipNumbersUptoRow, standIns := [], harness := (true, "852957a0fd3a95ff81f08367dbb2fe76ca4ada6cce9636746d3b1b7e667c6a4c"), looks := true }, kinds := [], alts := [], laidByText := true, laidKinds := [.data, .data, .data, .data, .sentinel, .sentinel, .pinned], laidTests := true, laidLooks := .later }
def ChipNumbersUptoCardSaid : Prop := Claim7.holds Tryz.pinned (.plain (OpenSpec.upto chipNumbersSpec)) chipNumbersUptoCard

/-- THE SECOND FORM's CARD OF 'wireloomlaw28.ChipTexts'. -/
def chipTextsUptoCard : Claim7 := { stood := { row := chipTextsUptoRow, standIns := [], harness := (true, "852957a0fd3a95ff81f08367dbb2fe76ca4ada6cce9636746d3b1b7e667c6a4c"), looks := true }, kinds := [], alts := [], laidByText := true, laidKinds := [.data, .data, .data, .data, .sentinel, .sentinel, .pinned], laidTests := true, laidLooks := .later }
def ChipTextsUptoCardSaid : Prop := Claim7.holds Tryz.pinned (.plain (OpenSpec.upto chipTextsSpec)) chipTextsUptoCard

/-- THE SECOND FORM's CARD OF 'wireloomlaw28.ChipMatchesReference'. -/
def chipMatchesReferenceUptoCard : Claim7 := { stood := { row := chipMatchesReferenceUptoRow, standIns := [], harness := (true, "852957a0fd3a95ff81f08367dbb2fe76ca4ada6cce9636746d3b1b7e667c6a4c"), looks := true }, kinds := [], alts := [], laidByText := true, laidKinds := [.data, .data, .data, .data, .sentinel, .sentinel, .pinned], laidTests := true, laidLooks := .later }
def ChipMatchesReferenceUptoCardSaid : Prop := Claim7.holds Tryz.pinned (.plain (OpenSpec.upto chipMatchesReferenceSpec)) chipMatchesReferenceUptoCard

/-- THE SECOND FORM's CARD OF 'wireloomlaw28.ChipDirections'. -/
def chipDirectionsUptoCard : Claim7 := { stood := { row := chipDirectionsUptoRow, standIns := [], harness := (true, "852957a0fd3a95ff81f08367dbb2fe76ca4ada6cce9636746d3b1b7e667c6a4c"), looks := true }, kinds := [], alts := [], laidByText := true, laidKinds := [.data, .data, .data, .data, .sentinel, .sentinel, .pinned], laidTests := true, laidLooks := .later }
def ChipDirectionsUptoCardSaid : Prop := Claim7.holds Tryz.pinned (.plain (OpenSpec.upto chipDirectionsSpec)) chipDirectionsUptoCard

/-- THE SECOND FORM's CARD OF 'wireloomlaw28.ChipTracks'. -/
def chipTracksUptoCard : Claim7 := { stood := { row := chipTracksUptoRow, standIns := [], harness := (true, "852957a0fd3a95ff81f08367dbb2fe76ca4ada6cce9636746d3b1b7e667c6a4c"), looks := true }, kinds := [], alts := [], laidByText := true, laidKinds := [.data, .data, .data, .data, .sentinel, .sentinel, .pinned], laidTests := true, laidLooks := .later }
def ChipTracksUptoCardSaid : Prop := Claim7.holds Tryz.pinned (.plain (OpenSpec.upto chipTracksSpec)) chipTracksUptoCard

/-- THE SECOND FORM's CARD OF 'wireloomlaw28.ChipReach'. -/
def chipReachUptoCard : Claim7 := { stood := { row := chipReachUptoRow, standIns := [], harness := (true, "852957a0fd3a95ff81f08367dbb2fe76ca4ada6cce9636746d3b1b7e667c6a4c"), looks := true }, kinds := [], alts := [], laidByText := true, laidKinds := [.data, .data, .data, .data, .sentinel, .sentinel, .pinned], laidTests := true, laidLooks := .later }
def ChipReachUptoCardSaid : Prop := Claim7.holds Tryz.pinned (.plain (OpenSpec.upto chipReachSpec)) chipReachUptoCard
end Rows
end Go.Proofs.YtgahnelicbddcaaGreatDoor
