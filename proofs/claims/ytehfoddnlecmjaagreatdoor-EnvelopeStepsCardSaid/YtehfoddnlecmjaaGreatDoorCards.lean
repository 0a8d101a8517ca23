/-
  DERIVED. GIVEN WITH THE SEED: THE CARDS: each row of YtehfoddnlecmjaaGreatDoorRows.lean that lists a variable, with what it lists TIED to the program's text (the seventh form; the later family's looks); each row that meets fmt, with fmt's text TOLD by the authors' own Lean function (tested against real Go, not proved from fmt's source: count such statements apart). THE CARD IS WHAT COUNTS. Prove the row's statement (the work); the ties are given (YtehfoddnlecmjaaGreatDoorTie.lean); close each card by the builder's one call (the guide's Derived/Test/ToyasCard.lean, 'card_holds'). Laid BY PROGRAM, IN A SANDBOX (cutbox-door.mjs). By AI agents, Wed Nov 11 2026. No macro, syntax, notation, axiom, sorry.
-/
import Derived.Test.YtehfoddnlecmjaaGreatDoorRows
import GoSem.ClaimSeven
namespace Go.Proofs.YtehfoddnlecmjaaGreatDoor
namespace Rows

/-- THE TIED CARD OF 'pawllaw10.EnvelopeParses'. -/
def envelopeParsesCard : Claim7 := { stood := { row := envelopeParsesRow, standIns := [], harness := (true, "fa73fb49796fe001965a883f2c19e0df2b27ea32853d91d1d3c664ae365436c1"), looks := true }, kinds := [], alts := [], laidByText := true, laidKinds := [.data, .handle, .pinned], laidTests := true, laidLooks := .later }
def EnvelopeParsesCardSaid : Prop := Claim7.holds Tryz.pinned (.plain (OpenSpec.ofChange envelopeParsesSpec)) envelopeParsesCard

/-- THE TIED CARD OF 'pawllaw10.EnvelopePadded'. -/
def envelopePaddedCard : Claim7 := { stood := { row := envelopePaddedRow, standIns := [], harness := (true, "fa73fb49796fe001965a883f2c19e0df2b27ea32853d91d1d3c664ae365436c1"), looks := true }, kinds := [], alts := [], laidByText := true, laidKinds := [.data, .handle, .pinned], laidTests := true, laidLooks := .later }
def EnvelopePaddedCardSaid : Prop := Claim7.holds Tryz.pinned (.plain (OpenSpec.ofChange envelopePaddedSpec)) envelopePaddedCard

/-- THE TIED CARD OF 'pawllaw10.EnvelopeUnpadded'. -/
def envelopeUnpaddedCard : Claim7 := { stood := { row := envelopeUnpaddedRow, standIns := [], harness := (true, "fa73fb49796fe001965a883f2c19e0df2b27ea32853d91d1d3c664ae365436c1"), looks := true }, kinds := [], alts := [], laidByText := true, laidKinds := [.data, .handle, .pinned], laidTests := true, laidLooks := .later }
def EnvelopeUnpaddedCardSaid : Prop := Claim7.holds Tryz.pinned (.plain (OpenSpec.ofChange envelopeUnpaddedSpec)) envelopeUnpaddedCard

/-- THE TIED CARD OF 'pawllaw10.EnvelopeFills'. -/
def envelopeFillsCard : Claim7 := { stood := { row := envelopeFillsRow, standIns := [], harness := (true, "fa73fb49796fe001965a883f2c19e0df2b27ea32853d91d1d3c664ae365436c1"), looks := true }, kinds := [], alts := [], laidByText := true, laidKinds := [.data, .handle, .pinned], laidTests := true, laidLooks := .later }
def EnvelopeFillsCardSaid : Prop := Claim7.holds Tryz.pinned (.plain (OpenSpec.ofChange envelopeFillsSpec)) envelopeFillsCard

/-- THE TIED CARD OF 'pawllaw10.EnvelopeSteps'. -/
def envelopeStepsCard : Claim7 := { stood := { row := envelopeStepsRow, standIns := [], harness := (true, "fa73fb49796fe001965a883f2c19e0df2b27ea32853d91d1d3c664ae365436c1"), looks := true }, kinds := [], alts := [], laidByText := true, laidKinds := [.data, .handle, .pinned], laidTests := true, laidLooks := .later }
def EnvelopeStepsCardSaid : Prop := Claim7.holds Tryz.pinned (.plain (OpenSpec.ofChange envelopeStepsSpec)) envelopeStepsCard

/-- THE TIED CARD OF 'pawllaw10.EnvelopeThere'. -/
def envelopeThereCard : Claim7 := { stood := { row := envelopeThereRow, standIns := [], harness := (true, "fa73fb49796fe001965a883f2c19e0df2b27ea32853d91d1d3c664ae365436c1"), looks := true }, kinds := [], alts := [], laidByText := true, laidKinds := [.data, .handle, .pinned], laidTests := true, laidLooks := .later }
def EnvelopeThereCardSaid : Prop := Claim7.holds Tryz.pinned (.plain (OpenSpec.ofChange envelopeThereSpec)) envelopeThereCard

/-- THE TIED CARD OF 'pawllaw10.EnvelopeBack'. -/
def envelopeBackCard : Claim7 := { stood := { row := envelopeBackRow, standIns := [], harness := (true, "fa73fb49796fe001965a883f2c19e0df2b27ea32853d91d1d3c664ae365436c1"), looks := true }, kinds := [], alts := [], laidByText := true, laidKinds := [.data, .handle, .pinned], laidTests := true, laidLooks := .later }
def EnvelopeBackCardSaid : Prop := Claim7.holds Tryz.pinned (.plain (OpenSpec.ofChange envelopeBackSpec)) envelopeBackCard

/-- THE TIED CARD OF 'pawllaw10.EnvelopeVersions'. -/
def envelopeVersionsCard : Claim7 := { stood := { row := envelopeVersionsRow, standIns := [], harness := (true, "fa73fb49796fe001965a883f2c19e0df2b27ea32853d91d1d3c664ae365436c1"), looks := true }, kinds := [], alts := [], laidByText := true, laidKinds := [.data, .handle, .pinned], laidTests := true, laidLooks := .later }
def EnvelopeVersionsCardSaid : Prop := Claim7.holds Tryz.pinned (.plain (OpenSpec.ofChange envelopeVersionsSpec)) envelopeVersionsCard

/-- THE TIED CARD OF 'pawllaw10.EnvelopeLengths'. -/
def envelopeLengthsCard : Claim7 := { stood := { row := envelopeLengthsRow, standIns := [], harness := (true, "fa73fb49796fe001965a883f2c19e0df2b27ea32853d91d1d3c664ae365436c1"), looks := true }, kinds := [], alts := [], laidByText := true, laidKinds := [.data, .handle, .pinned], laidTests := true, laidLooks := .later }
def EnvelopeLengthsCardSaid : Prop := Claim7.holds Tryz.pinned (.plain (OpenSpec.ofChange envelopeLengthsSpec)) envelopeLengthsCard

/-- THE TIED CARD OF 'pawllaw10.EnvelopeHeaded'. -/
def envelopeHeadedCard : Claim7 := { stood := { row := envelopeHeadedRow, standIns := [], harness := (true, "fa73fb49796fe001965a883f2c19e0df2b27ea32853d91d1d3c664ae365436c1"), looks := true }, kinds := [], alts := [], laidByText := true, laidKinds := [.data, .handle, .pinned], laidTests := true, laidLooks := .later }
def EnvelopeHeadedCardSaid : Prop := Claim7.holds Tryz.pinned (.plain (OpenSpec.ofChange envelopeHeadedSpec)) envelopeHeadedCard

/-- THE TIED CARD OF 'pawllaw10.EnvelopeHeadOnly'. -/
def envelopeHeadOnlyCard : Claim7 := { stood := { row := envelopeHeadOnlyRow, standIns := [], harness := (true, "fa73fb49796fe001965a883f2c19e0df2b27ea32853d91d1d3c664ae365436c1"), looks := true }, kinds := [], alts := [], laidByText := true, laidKinds := [.data, .handle, .pinned], laidTests := true, laidLooks := .later }
def EnvelopeHeadOnlyCardSaid : Prop := Claim7.holds Tryz.pinned (.plain (OpenSpec.ofChange envelopeHeadOnlySpec)) envelopeHeadOnlyCard

/-- THE SECOND FORM's CARD OF 'pawllaw10.EnvelopeParses'. -/
def envelopeParsesUptoCard : Claim7 := { stood := { row := envelopeParsesUptoRow, standIns := [], harness := (true, "fa73fb49796fe001965a883f2c19e0df2b27ea32853d91d1d3c664ae365436c1"), looks := true }, kinds := [], alts := [], laidByText := true, laidKinds := [.data, .handle, .pinned], laidTests := true, laidLooks := .later }
def EnvelopeParsesUptoCardSaid : Prop := Claim7.holds Tryz.pinned (.plain (OpenSpec.upto envelopeParsesSpec)) envelopeParsesUptoCard

/-- THE SECOND FORM's CARD OF 'pawllaw10.EnvelopePadded'. -/
def envelopePaddedUptoCard : Claim7 := { stood := { row := envelopePaddedUptoRow, standIns := [], harness := (true, "fa73fb49796fe001965a883f2c19e0df2b27ea32853d91d1d3c664ae365436c1"), looks := true }, kinds := [], alts := [], laidByText := true, laidKinds := [.data, .handle, .pinned], laidTests := true, laidLooks := .later }
def EnvelopePaddedUptoCardSaid : Prop := Claim7.holds Tryz.pinned (.plain (OpenSpec.upto envelopePaddedSpec)) envelopePaddedUptoCard

/-- THE SECOND FORM's CARD OF 'pawllaw10.EnvelopeUnpadded'. -/
def envelopeUnpaddedUptoCard : Claim7 := { stood := { row := envelopeUnpaddedUptoRow, standIns := [], harness := (true, "fa73fb49796fe001965a883f2c19e0df2b27ea32853d91d1d3c664ae365436c1"), looks := true }, kinds := [], alts := [], laidByText := true, laidKinds := [.data, .handle, .pinned], laidTests := true, laidLooks := .later }
def EnvelopeUnpaddedUptoCardSaid : Prop := Claim7.holds Tryz.pinned (.plain (OpenSpec.upto envelopeUnpaddedSpec)) envelopeUnpaddedUptoCard

/-- THE SECOND FORM's CARD OF 'pawllaw10.EnvelopeFills'. -/
def envelopeFillsUptoCard : Claim7 := { stood := { row := envelopeFillsUptoRow, standIns := [], harness := (true, "fa73fb49796fe001965a883f2c19e0df2b27ea32853d91d1d3c664ae365436c1"), looks := true }, kinds := [], alts := [], laidByText := true, laidKinds := [.data, .handle, .pinned], laidTests := true, laidLooks := .later }
def EnvelopeFillsUptoCardSaid : Prop := Claim7.holds Tryz.pinned (.plain (OpenSpec.upto envelopeFillsSpec)) envelopeFillsUptoCard

/-- THE SECOND FORM's CARD OF 'pawllaw10.EnvelopeSteps'. -/
def envelopeStepsUptoCard : Claim7 := { stood := { row := envelopeStepsUptoRow, standIns := [], harness := (true, "fa73fb49796fe001965a883f2c19e0df2b27ea32853d91d1d3c664ae365436c1"), looks := true }, kinds := [], alts := [], laidByText := true, laidKinds := [.data, .handle, .pinned], laidTests := true, laidLooks := .later }
def EnvelopeStepsUptoCardSaid : Prop := Claim7.holds Tryz.pinned (.plain (OpenSpec.upto envelopeStepsSpec)) envelopeStepsUptoCard

/-- THE SECOND FORM's CARD OF 'pawllaw10.EnvelopeThere'. -/
def envelopeThereUptoCard : Claim7 := { stood := { row := envelopeThereUptoRow, standIns := [], harness := (true, "fa73fb49796fe001965a883f2c19e0df2b27ea32853d91d1d3c664ae365436c1"), looks := true }, kinds := [], alts := [], laidByText := true, laidKinds := [.data, .handle, .pinned], laidTests := true, laidLooks := .later }
def EnvelopeThereUptoCardSaid : Prop := Claim7.holds Tryz.pinned (.plain (OpenSpec.upto envelopeThereSpec)) envelopeThereUptoCard

/-- THE SECOND FORM's CARD OF 'pawllaw10.EnvelopeBack'. -/
def envelopeBackUptoCard : Claim7 := { stood := { row := envelopeBackUptoRow, standIns := [], harness := (true, "fa73fb49796fe001965a883f2c19e0df2b27ea32853d91d1d3c664ae365436c1"), looks := true }, kinds := [], alts := [], laidByText := true, laidKinds := [.data, .handle, .pinned], laidTests := true, laidLooks := .later }
def EnvelopeBackUptoCardSaid : Prop := Claim7.holds Tryz.pinned (.plain (OpenSpec.upto envelopeBackSpec)) envelopeBackUptoCard

/-- THE SECOND FORM's CARD OF 'pawllaw10.EnvelopeVersions'. -/
def envelopeVersionsUptoCard : Claim7 := { stood := { row := envelopeVersionsUptoRow, standIns := [], harness := (true, "fa73fb49796fe001965a883f2c19e0df2b27ea32853d91d1d3c664ae365436c1"), looks := true }, kinds := [], alts := [], laidByText := true, laidKinds := [.data, .handle, .pinned], laidTests := true, laidLooks := .later }
def EnvelopeVersionsUptoCardSaid : Prop := Claim7.holds Tryz.pinned (.plain (OpenSpec.upto envelopeVersionsSpec)) envelopeVersionsUptoCard

/-- THE SECOND FORM's CARD OF 'pawllaw10.EnvelopeLengths'. -/
def envelopeLengthsUptoCard : Claim7 := { stood := { row := envelopeLengthsUptoRow, standIns := [], harness := (true, "fa73fb49796fe001965a883f2c19e0df2b27ea32853d91d1d3c664ae365436c1"), looks := true }, kinds := [], alts := [], laidByText := true, laidKinds := [.data, .handle, .pinned], laidTests := true, laidLooks := .later }
def EnvelopeLengthsUptoCardSaid : Prop := Claim7.holds Tryz.pinned (.plain (OpenSpec.upto envelopeLengthsSpec)) envelopeLengthsUptoCard

/-- THE SECOND FORM's CARD OF 'pawllaw10.EnvelopeHeaded'. -/
def envelopeHeadedUptoCard : Claim7 := { stood := { row := envelopeHeadedUptoRow, standIns := [], harness := (true, "fa73fb49796fe001965a883f2c19e0df2b27ea32853d91d1d3c664ae365436c1"), looks := true }, kinds := [], alts := [], laidByText := true, laidKinds := [.data, .handle, .pinned], laidTests := true, laidLooks := .later }
def EnvelopeHeadedUptoCardSaid : Prop := Claim7.holds Tryz.pinned (.plain (OpenSpec.upto envelopeHeadedSpec)) envelopeHeadedUptoCard

/-- THE SECOND FORM's CARD OF 'pawllaw10.EnvelopeHeadOnly'. -/
def envelopeHeadOnlyUptoCard : Claim7 := { stood := { row := envelopeHeadOnlyUptoRow, standIns := [], harness := (true, "fa73fb49796fe001965a883f2c19e0df2b27ea32853d91d1d3c664ae365436c1"), looks := true }, kinds := [], alts := [], laidByText := true, laidKinds := [.data, .handle, .pinned], laidTests := true, laidLooks := .later }
def EnvelopeHeadOnlyUptoCardSaid : Prop := Claim7.holds Tryz.pinned (.plain (OpenSpec.upto envelopeHeadOnlySpec)) envelopeHeadOnlyUptoCard
end Rows
end Go.Proofs.YtehfoddnlecmjaaGreatDoor
