/-
  DERIVED. GIVEN WITH THE SEED: THE CARDS: each row of YtmdbfhkineaheaaDoorRows.lean that lists a variable, with what it lists TIED to the program's text (the seventh form; the later family's looks); each row that meets fmt, with fmt's text TOLD by the authors' own Lean function (tested against real Go, not proved from fmt's source: count such statements apart). THE CARD IS WHAT COUNTS. Prove the row's statement (the work); the ties are given (YtmdbfhkineaheaaDoorTie.lean); close each card by the builder's one call (the guide's Derived/Test/ToyasCard.lean, 'card_holds'). Laid BY PROGRAM, IN A SANDBOX (cutbox-door.mjs). By AI agents, Wed Nov 11 2026. No macro, syntax, notation, axiom, sorry.
-/
import Derived.Test.YtmdbfhkineaheaaDoorRows
import GoSem.ClaimSeven
namespace Go.Proofs.YtmdbfhkineaheaaDoor
namespace Rows

/-- THE TIED CARD OF 'wireloomlaw02.FractionRounds'. -/
def fractionRoundsCard : Claim7 := { stood := { row := fractionRoundsRow, standIns := [], harness := (true, "6d02be5a01351df019767fbefeb9d3f06b73233ad493a98c11bdba6b4cb22437"), looks := true }, kinds := [], alts := [], laidByText := true, laidKinds := [.data, .data, .data, .sentinel, .sentinel], laidTests := true, laidLooks := .later }
def FractionRoundsCardSaid : Prop := Claim7.holds Tryd.pinned (.plain (OpenSpec.ofChange fractionRoundsSpec)) fractionRoundsCard

/-- THE TIED CARD OF 'wireloomlaw02.FractionTexts'. -/
def fractionTextsCard : Claim7 := { stood := { row := fractionTextsRow, standIns := [], harness := (true, "6d02be5a01351df019767fbefeb9d3f06b73233ad493a98c11bdba6b4cb22437"), looks := true }, kinds := [], alts := [], laidByText := true, laidKinds := [.data, .data, .data, .sentinel, .sentinel], laidTests := true, laidLooks := .later }
def FractionTextsCardSaid : Prop := Claim7.holds Tryd.pinned (.plain (OpenSpec.ofChange fractionTextsSpec)) fractionTextsCard

/-- THE TIED CARD OF 'wireloomlaw02.FractionField'. -/
def fractionFieldCard : Claim7 := { stood := { row := fractionFieldRow, standIns := [], harness := (true, "6d02be5a01351df019767fbefeb9d3f06b73233ad493a98c11bdba6b4cb22437"), looks := true }, kinds := [], alts := [], laidByText := true, laidKinds := [.data, .data, .data, .sentinel, .sentinel], laidTests := true, laidLooks := .later }
def FractionFieldCardSaid : Prop := Claim7.holds Tryd.pinned (.plain (OpenSpec.ofChange fractionFieldSpec)) fractionFieldCard

/-- THE TIED CARD OF 'wireloomlaw02.FractionOrder'. -/
def fractionOrderCard : Claim7 := { stood := { row := fractionOrderRow, standIns := [], harness := (true, "6d02be5a01351df019767fbefeb9d3f06b73233ad493a98c11bdba6b4cb22437"), looks := true }, kinds := [], alts := [], laidByText := true, laidKinds := [.data, .data, .data, .sentinel, .sentinel], laidTests := true, laidLooks := .later }
def FractionOrderCardSaid : Prop := Claim7.holds Tryd.pinned (.plain (OpenSpec.ofChange fractionOrderSpec)) fractionOrderCard

/-- THE TIED CARD OF 'wireloomlaw02.FractionCanonical'. -/
def fractionCanonicalCard : Claim7 := { stood := { row := fractionCanonicalRow, standIns := [], harness := (true, "6d02be5a01351df019767fbefeb9d3f06b73233ad493a98c11bdba6b4cb22437"), looks := true }, kinds := [], alts := [], laidByText := true, laidKinds := [.data, .data, .data, .sentinel, .sentinel], laidTests := true, laidLooks := .later }
def FractionCanonicalCardSaid : Prop := Claim7.holds Tryd.pinned (.plain (OpenSpec.ofChange fractionCanonicalSpec)) fractionCanonicalCard

/-- THE TIED CARD OF 'wireloomlaw02.FractionLimits'. -/
def fractionLimitsCard : Claim7 := { stood := { row := fractionLimitsRow, standIns := [], harness := (true, "6d02be5a01351df019767fbefeb9d3f06b73233ad493a98c11bdba6b4cb22437"), looks := true }, kinds := [], alts := [], laidByText := true, laidKinds := [.data, .data, .data, .sentinel, .sentinel], laidTests := true, laidLooks := .later }
def FractionLimitsCardSaid : Prop := Claim7.holds Tryd.pinned (.plain (OpenSpec.ofChange fractionLimitsSpec)) fractionLimitsCard

/-- THE SECOND FORM's CARD OF 'wireloomlaw02.FractionRounds'. -/
def fractionRoundsUptoCard : Claim7 := { stood := { row := fractionRoundsUptoRow, standIns := [], harness := (true, "6d02be5a01351df019767fbefeb9d3f06b73233ad493a98c11bdba6b4cb22437"), looks := true }, kinds := [], alts := [], laidByText := true, laidKinds := [.data, .data, .data, .sentinel, .sentinel], laidTests := true, laidLooks := .later }
def FractionRoundsUptoCardSaid : Prop := Claim7.holds Tryd.pinned (.plain (OpenSpec.upto fractionRoundsSpec)) fractionRoundsUptoCard

/-- THE SECOND FORM's CARD OF 'wireloomlaw02.FractionTexts'. -/
def fractionTextsUptoCard : Claim7 := { stood := { row := fractionTextsUptoRow, standIns := [], harness := (true, "6d02be5a01351df019767fbefeb9d3f06b73233ad493a98c11bdba6b4cb22437"), looks := true }, kinds := [], alts := [], laidByText := true, laidKinds := [.data, .data, .data, .sentinel, .sentinel], laidTests := true, laidLooks := .later }
def FractionTextsUptoCardSaid : Prop := Claim7.holds Tryd.pinned (.plain (OpenSpec.upto fractionTextsSpec)) fractionTextsUptoCard

/-- THE SECOND FORM's CARD OF 'wireloomlaw02.FractionField'. -/
def fractionFieldUptoCard : Claim7 := { stood := { row := fractionFieldUptoRow, standIns := [], harness := (true, "6d02be5a01351df019767fbefeb9d3f06b73233ad493a98c11bdba6b4cb22437"), looks := true }, kinds := [], alts := [], laidByText := true, laidKinds := [.data, .data, .data, .sentinel, .sentinel], laidTests := true, laidLooks := .later }
def FractionFieldUptoCardSaid : Prop := Claim7.holds Tryd.pinned (.plain (OpenSpec.upto fractionFieldSpec)) fractionFieldUptoCard

/-- THE SECOND FORM's CARD OF 'wireloomlaw02.FractionOrder'. -/
def fractionOrderUptoCard : Claim7 := { stood := { row := fractionOrderUptoRow, standIns := [], harness := (true, "6d02be5a01351df019767fbefeb9d3f06b73233ad493a98c11bdba6b4cb22437"), looks := true }, kinds := [], alts := [], laidByText := true, laidKinds := [.data, .data, .data, .sentinel, .sentinel], laidTests := true, laidLooks := .later }
def FractionOrderUptoCardSaid : Prop := Claim7.holds Tryd.pinned (.plain (OpenSpec.upto fractionOrderSpec)) fractionOrderUptoCard

/-- THE SECOND FORM's CARD OF 'wireloomlaw02.FractionCanonical'. -/
def fractionCanonicalUptoCard : Claim7 := { stood := { row := fractionCanonicalUptoRow, standIns := [], harness := (true, "6d02be5a01351df019767fbefeb9d3f06b73233ad493a98c11bdba6b4cb22437"), looks := true }, kinds := [], alts := [], laidByText := true, laidKinds := [.data, .data, .data, .sentinel, .sentinel], laidTests := true, laidLooks := .later }
def FractionCanonicalUptoCardSaid : Prop := Claim7.holds Tryd.pinned (.plain (OpenSpec.upto fractionCanonicalSpec)) fractionCanonicalUptoCard

/-- THE SECOND FORM's CARD OF 'wireloomlaw02.FractionLimits'. -/
def fractionLimitsUptoCard : Claim7 := { stood := { row := fractionLimitsUptoRow, standIns := [], harness := (true, "6d02be5a01351df019767fbefeb9d3f06b73233ad493a98c11bdba6b4cb22437"), looks := true }, kinds := [], alts := [], laidByText := true, laidKinds := [.data, .data, .data, .sentinel, .sentinel], laidTests := true, laidLooks := .later }
def FractionLimitsUptoCardSaid : Prop := Claim7.holds Tryd.pinned (.plain (OpenSpec.upto fractionLimitsSpec)) fractionLimitsUptoCard
end Rows
end Go.Proofs.YtmdbfhkineaheaaDoor
