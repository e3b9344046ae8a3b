/-
  DERIVED. GIVEN WITH THE SEED: THE CARDS: each row of YtfcbghmbbjolcaaGreatDoorRows.lean that lists a variable, with what it lists TIED to the program's text (the seventh form; the later family's looks); each row that meets fmt, with fmt's text TOLD by the authors' own Lean function (tested against real Go, not proved from fmt's source: count such statements apart). THE CARD IS WHAT COUNTS. Prove the row's statement (the work); the ties are given (YtfcbghmbbjolcaaGreatDoorTie.lean); close each card by the builder's one call (the guide's Derived/Test/ToyasCard.lean, 'card_holds'). Laid BY PROGRAM, IN A SANDBOX (cutbox-door.mjs). By AI agents, Wed Nov 11 2026. No macro, syntax, notation, axiom, sorry.
-/
import Derived.Test.YtfcbghmbbjolcaaGreatDoorRows
import GoSem.ClaimSeven
namespace Go.Proofs.YtfcbghmbbjolcaaGreatDoor
namespace Rows

/-- THE TIED CARD OF 'ossuarylaw26.MeanTells'. -/
def meanTellsCard : Claim7 := { stood := { row := meanTellsRow, standIns := [], harness := (true, "130bb971e3b3de40d04bd931c2b53a2e163e301a8f444f9dedf33d3be6efa4c8"), looks := true }, kinds := [], alts := [], laidByText := true, laidKinds := [.data, .data, .data, .data, .pinned, .pinned], laidTests := true, laidLooks := .later }
def MeanTellsCardSaid : Prop := Claim7.holds Tryz.pinned (.plain (OpenSpec.ofChange meanTellsSpec)) meanTellsCard

/-- THE TIED CARD OF 'ossuarylaw26.MeanSolves'. -/
def meanSolvesCard : Claim7 := { stood := { row := meanSolvesRow, standIns := [], harness := (true, "130bb971e3b3de40d04bd931c2b53a2e163e301a8f444f9dedf33d3be6efa4c8"), looks := true }, kinds := [], alts := [], laidByText := true, laidKinds := [.data, .data, .data, .data, .pinned, .pinned], laidTests := true, laidLooks := .later }
def MeanSolvesCardSaid : Prop := Claim7.holds Tryz.pinned (.plain (OpenSpec.ofChange meanSolvesSpec)) meanSolvesCard

/-- THE SECOND FORM's CARD OF 'ossuarylaw26.MeanTells'. -/
def meanTellsUptoCard : Claim7 := { stood := { row := meanTellsUptoRow, standIns := [], harness := (true, "130bb971e3b3de40d04bd931c2b53a2e163e301a8f444f9dedf33d3be6efa4c8"), looks := true }, kinds := [], alts := [], laidByText := true, laidKinds := [.data, .data, .data, .data, .pinned, .pinned], laidTests := true, laidLooks := .later }
def MeanTellsUptoCardSaid : Prop := Claim7.holds Tryz.pinned (.plain (OpenSpec.upto meanTellsSpec)) meanTellsUptoCard

/-- THE SECOND FORM's CARD OF 'ossuarylaw26.MeanSolves'. -/
def meanSolvesUptoCard : Claim7 := { stood := { row := meanSolvesUptoRow, standIns := [], harness := (true, "130bb971e3b3de40d04bd931c2b53a2e163e301a8f444f9dedf33d3be6efa4c8"), looks := true }, kinds := [], alts := [], laidByText := true, laidKinds := [.data, .data, .data, .data, .pinned, .pinned], laidTests := true, laidLooks := .later }
def MeanSolvesUptoCardSaid : Prop := Claim7.holds Tryz.pinned (.plain (OpenSpec.upto meanSolvesSpec)) meanSolvesUptoCard
end Rows
end Go.Proofs.YtfcbghmbbjolcaaGreatDoor
