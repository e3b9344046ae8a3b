/-
  DERIVED. GIVEN WITH THE SEED: THE CARDS: each row of YtefjhehgpkljcaaGreatDoorRows.lean that lists a variable, with what it lists TIED to the program's text (the seventh form; the later family's looks); each row that meets fmt, with fmt's text TOLD by the authors' own Lean function (tested against real Go, not proved from fmt's source: count such statements apart). THE CARD IS WHAT COUNTS. Prove the row's statement (the work); the ties are given (YtefjhehgpkljcaaGreatDoorTie.lean); close each card by the builder's one call (the guide's Derived/Test/ToyasCard.lean, 'card_holds'). Laid BY PROGRAM, IN A SANDBOX (cutbox-door.mjs). By AI agents, Wed Nov 11 2026. No macro, syntax, notation, axiom, sorry.
-/
import Derived.Test.YtefjhehgpkljcaaGreatDoorRows
import GoSem.ClaimSeven
namespace Go.Proofs.YtefjhehgpkljcaaGreatDoor
namespace Rows

/-- THE TIED CARD OF 'ossuarylaw25.FilterSmall'. -/
def filterSmallCard : Claim7 := { stood := { row := filterSmallRow, standIns := [], harness := (true, "578cb852db44d97facef5c7bde57545150e2f17fff0a35186d359e0a35f39acd"), looks := false }, kinds := [], alts := [], laidByText := true, laidKinds := [.data, .pinned], laidTests := true, laidLooks := .later }
def FilterSmallCardSaid : Prop := Claim7.holds Tryz.pinned (.plain (OpenSpec.ofChange filterSmallSpec)) filterSmallCard

/-- THE TIED CARD OF 'ossuarylaw24.CheckTells'. -/
def checkTellsCard : Claim7 := { stood := { row := checkTellsRow, standIns := [], harness := (true, "578cb852db44d97facef5c7bde57545150e2f17fff0a35186d359e0a35f39acd"), looks := false }, kinds := [], alts := [], laidByText := true, laidKinds := [.data, .pinned], laidTests := true, laidLooks := .later }
def CheckTellsCardSaid : Prop := Claim7.holds Tryz.pinned (.plain (OpenSpec.ofChange checkTellsSpec)) checkTellsCard

/-- THE TIED CARD OF 'ossuarylaw24.CheckSmall'. -/
def checkSmallCard : Claim7 := { stood := { row := checkSmallRow, standIns := [], harness := (true, "578cb852db44d97facef5c7bde57545150e2f17fff0a35186d359e0a35f39acd"), looks := false }, kinds := [], alts := [], laidByText := true, laidKinds := [.data, .pinned], laidTests := true, laidLooks := .later }
def CheckSmallCardSaid : Prop := Claim7.holds Tryz.pinned (.plain (OpenSpec.ofChange checkSmallSpec)) checkSmallCard

/-- THE SECOND FORM's CARD OF 'ossuarylaw25.FilterSmall'. -/
def filterSmallUptoCard : Claim7 := { stood := { row := filterSmallUptoRow, standIns := [], harness := (true, "578cb852db44d97facef5c7bde57545150e2f17fff0a35186d359e0a35f39acd"), looks := false }, kinds := [], alts := [], laidByText := true, laidKinds := [.data, .pinned], laidTests := true, laidLooks := .later }
def FilterSmallUptoCardSaid : Prop := Claim7.holds Tryz.pinned (.plain (OpenSpec.upto filterSmallSpec)) filterSmallUptoCard

/-- THE SECOND FORM's CARD OF 'ossuarylaw24.CheckTells'. -/
def checkTellsUptoCard : Claim7 := { stood := { row := checkTellsUptoRow, standIns := [], harness := (true, "578cb852db44d97facef5c7bde57545150e2f17fff0a35186d359e0a35f39acd"), looks := false }, kinds := [], alts := [], laidByText := true, laidKinds := [.data, .pinned], laidTests := true, laidLooks := .later }
def CheckTellsUptoCardSaid : Prop := Claim7.holds Tryz.pinned (.plain (OpenSpec.upto checkTellsSpec)) checkTellsUptoCard

/-- THE SECOND FORM's CARD OF 'ossuarylaw24.CheckSmall'. -/
def checkSmallUptoCard : Claim7 := { stood := { row := checkSmallUptoRow, standIns := [], harness := (true, "578cb852db44d97facef5c7bde57545150e2f17fff0a35186d359e0a35f39acd"), looks := false }, kinds := [], alts := [], laidByText := true, laidKinds := [.data, .pinned], laidTests := true, laidLooks := .later }
def CheckSmallUptoCardSaid : Prop := Claim7.holds Tryz.pinned (.plain (OpenSpec.upto checkSmallSpec)) checkSmallUptoCard
end Rows
end Go.Proofs.YtefjhehgpkljcaaGreatDoor
