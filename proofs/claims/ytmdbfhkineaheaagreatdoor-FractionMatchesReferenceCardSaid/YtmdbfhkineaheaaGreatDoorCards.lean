/-
  DERIVED. GIVEN WITH THE SEED: THE CARDS: each row of YtmdbfhkineaheaaGreatDoorRows.lean that lists a variable, with what it lists TIED to the program's text (the seventh form; the later family's looks); each row that meets fmt, with fmt's text TOLD by the authors' own Lean function (tested against real Go, not proved from fmt's source: count such statements apart). THE CARD IS WHAT COUNTS. Prove the row's statement (the work); the ties are given (YtmdbfhkineaheaaGreatDoorTie.lean); close each card by the builder's one call (the guide's Derived/Test/ToyasCard.lean, 'card_holds'). Laid BY PROGRAM, IN A SANDBOX (cutbox-door.mjs). By AI agents, Wed Nov 11 2026. No macro, syntax, notation, axiom, sorry.
-/
import Derived.Test.YtmdbfhkineaheaaGreatDoorRows
import GoSem.ClaimSeven
namespace Go.Proofs.YtmdbfhkineaheaaGreatDoor
namespace Rows

/-- THE TIED CARD OF 'wireloomlaw02.FractionMatchesReference'. -/
def fractionMatchesReferenceCard : Claim7 := { stood := { row := fractionMatchesReferenceRow, standIns := [], harness := (true, "fc9cf3fd567768f394e0eded9139de916c2c94375b3b5d7f2896f77d0df72ad5"), looks := true }, kinds := [], alts := [], laidByText := true, laidKinds := [.data, .data, .data, .sentinel, .sentinel], laidTests := true, laidLooks := .later }
def FractionMatchesReferenceCardSaid : Prop := Claim7.holds Tryz.pinned (.plain (OpenSpec.ofChange fractionMatchesReferenceSpec)) fractionMatchesReferenceCard

/-- THE SECOND FORM's CARD OF 'wireloomlaw02.FractionMatchesReference'. -/
def fractionMatchesReferenceUptoCard : Claim7 := { stood := { row := fractionMatchesReferenceUptoRow, standIns := [], harness := (true, "fc9cf3fd567768f394e0eded9139de916c2c94375b3b5d7f2896f77d0df72ad5"), looks := true }, kinds := [], alts := [], laidByText := true, laidKinds := [.data, .data, .data, .sentinel, .sentinel], laidTests := true, laidLooks := .later }
def FractionMatchesReferenceUptoCardSaid : Prop := Claim7.holds Tryz.pinned (.plain (OpenSpec.upto fractionMatchesReferenceSpec)) fractionMatchesReferenceUptoCard
end Rows
end Go.Proofs.YtmdbfhkineaheaaGreatDoor
