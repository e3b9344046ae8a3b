/-
  DERIVED. GIVEN WITH THE SEED: THE CARDS: each row of YtoejnneknpoanaaGreatDoorRows.lean that lists a variable, with what it lists TIED to the program's text (the seventh form; the later family's looks); each row that meets fmt, with fmt's text TOLD by the authors' own Lean function (tested against real Go, not proved from fmt's source: count such statements apart). THE CARD IS WHAT COUNTS. Prove the row's statement (the work); the ties are given (YtoejnneknpoanaaGreatDoorTie.lean); close each card by the builder's one call (the guide's Derived/Test/ToyasCard.lean, 'card_holds'). Laid BY PROGRAM, IN A SANDBOX (cutbox-door.mjs). By AI agents, Wed Nov 11 2026. No macro, syntax, notation, axiom, sorry.
-/
import Derived.Test.YtoejnneknpoanaaGreatDoorRows
import GoSem.ClaimSeven
namespace Go.Proofs.YtoejnneknpoanaaGreatDoor
namespace Rows

/-- THE TIED CARD OF 'ossuarylaw29.OrderDoes'. -/
def orderDoesCard : Claim7 := { stood := { row := orderDoesRow, standIns := [], harness := (true, "d8e2bdeff38f3d5c8d7f86c7e9d5dfe33aff544bc608e16b2498fc605536bc17"), looks := true }, kinds := [], alts := [], laidByText := true, laidKinds := [.data, .data, .data, .data, .pinned, .pinned], laidTests := true, laidLooks := .later }
def OrderDoesCardSaid : Prop := Claim7.holds Tryz.pinned (.plain (OpenSpec.ofChange orderDoesSpec)) orderDoesCard

/-- THE TIED CARD OF 'ossuarylaw29.OrderRows'. -/
def orderRowsCard : Claim7 := { stood := { row := orderRowsRow, standIns := [], harness := (true, "d8e2bdeff38f3d5c8d7f86c7e9d5dfe33aff544bc608e16b2498fc605536bc17"), looks := true }, kinds := [], alts := [], laidByText := true, laidKinds := [.data, .data, .data, .data, .pinned, .pinned], laidTests := true, laidLooks := .later }
def OrderRowsCardSaid : Prop := Claim7.holds Tryz.pinned (.plain (OpenSpec.ofChange orderRowsSpec)) orderRowsCard

/-- THE TIED CARD OF 'ossuarylaw29.OrderAnswers'. -/
def orderAnswersCard : Claim7 := { stood := { row := orderAnswersRow, standIns := [], harness := (true, "d8e2bdeff38f3d5c8d7f86c7e9d5dfe33aff544bc608e16b2498fc605536bc17"), looks := true }, kinds := [], alts := [], laidByText := true, laidKinds := [.data, .data, .data, .data, .pinned, .pinned], laidTests := true, laidLooks := .later }
def OrderAnswersCardSaid : Prop := Claim7.holds Tryz.pinned (.plain (OpenSpec.ofChange orderAnswersSpec)) orderAnswersCard

/-- THE TIED CARD OF 'ossuarylaw29.OrderSmall'. -/
def orderSmallCard : Claim7 := { stood := { row := orderSmallRow, standIns := [], harness := (true, "d8e2bdeff38f3d5c8d7f86c7e9d5dfe33aff544bc608e16b2498fc605536bc17"), looks := true }, kinds := [], alts := [], laidByText := true, laidKinds := [.data, .data, .data, .data, .pinned, .pinned], laidTests := true, laidLooks := .later }
def OrderSmallCardSaid : Prop := Claim7.holds Tryz.pinned (.plain (OpenSpec.ofChange orderSmallSpec)) orderSmallCard

/-- THE TIED CARD OF 'ossuarylaw29.OrderMeans'. -/
def orderMeansCard : Claim7 := { stood := { row := orderMeansRow, standIns := [], harness := (true, "d8e2bdeff38f3d5c8d7f86c7e9d5dfe33aff544bc608e16b2498fc605536bc17"), looks := true }, kinds := [], alts := [], laidByText := true, laidKinds := [.data, .data, .data, .data, .pinned, .pinned], laidTests := true, laidLooks := .later }
def OrderMeansCardSaid : Prop := Claim7.holds Tryz.pinned (.plain (OpenSpec.ofChange orderMeansSpec)) orderMeansCard

/-- THE SECOND FORM's CARD OF 'ossuarylaw29.OrderDoes'. -/
def orderDoesUptoCard : Claim7 := { stood := { row := orderDoesUptoRow, standIns := [], harness := (true, "d8e2bdeff38f3d5c8d7f86c7e9d5dfe33aff544bc608e16b2498fc605536bc17"), looks := true }, kinds := [], alts := [], laidByText := true, laidKinds := [.data, .data, .data, .data, .pinned, .pinned], laidTests := true, laidLooks := .later }
def OrderDoesUptoCardSaid : Prop := Claim7.holds Tryz.pinned (.plain (OpenSpec.upto orderDoesSpec)) orderDoesUptoCard

/-- THE SECOND FORM's CARD OF 'ossuarylaw29.OrderRows'. -/
def orderRowsUptoCard : Claim7 := { stood := { row := orderRowsUptoRow, standIns := [], harness := (true, "d8e2bdeff38f3d5c8d7f86c7e9d5dfe33aff544bc608e16b2498fc605536bc17"), looks := true }, kinds := [], alts := [], laidByText := true, laidKinds := [.data, .data, .data, .data, .pinned, .pinned], laidTests := true, laidLooks := .later }
def OrderRowsUptoCardSaid : Prop := Claim7.holds Tryz.pinned (.plain (OpenSpec.upto orderRowsSpec)) orderRowsUptoCard

/-- THE SECOND FORM's CARD OF 'ossuarylaw29.OrderAnswers'. -/
def orderAnswersUptoCard : Claim7 := { stood := { row := orderAnswersUptoRow, standIns := [], harness := (true, "d8e2bdeff38f3d5c8d7f86c7e9d5dfe33aff544bc608e16b2498fc605536bc17"), looks := true }, kinds := [], alts := [], laidByText := true, laidKinds := [.data, .data, .data, .data, .pinned, .pinned], laidTests := true, laidLooks := .later }
def OrderAnswersUptoCardSaid : Prop := Claim7.holds Tryz.pinned (.plain (OpenSpec.upto orderAnswersSpec)) orderAnswersUptoCard

/-- THE SECOND FORM's CARD OF 'ossuarylaw29.OrderSmall'. -/
def orderSmallUptoCard : Claim7 := { stood := { row := orderSmallUptoRow, standIns := [], harness := (true, "d8e2bdeff38f3d5c8d7f86c7e9d5dfe33aff544bc608e16b2498fc605536bc17"), looks := true }, kinds := [], alts := [], laidByText := true, laidKinds := [.data, .data, .data, .data, .pinned, .pinned], laidTests := true, laidLooks := .later }
def OrderSmallUptoCardSaid : Prop := Claim7.holds Tryz.pinned (.plain (OpenSpec.upto orderSmallSpec)) orderSmallUptoCard

/-- THE SECOND FORM's CARD OF 'ossuarylaw29.OrderMeans'. -/
def orderMeansUptoCard : Claim7 := { stood := { row := orderMeansUptoRow, standIns := [], harness := (true, "d8e2bdeff38f3d5c8d7f86c7e9d5dfe33aff544bc608e16b2498fc605536bc17"), looks := true }, kinds := [], alts := [], laidByText := true, laidKinds := [.data, .data, .data, .data, .pinned, .pinned], laidTests := true, laidLooks := .later }
def OrderMeansUptoCardSaid : Prop := Claim7.holds Tryz.pinned (.plain (OpenSpec.upto orderMeansSpec)) orderMeansUptoCard
end Rows
end Go.Proofs.YtoejnneknpoanaaGreatDoor
