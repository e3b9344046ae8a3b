/-
  DERIVED. GIVEN WITH THE SEED: THE CARDS: each row of YtoaemihcbmlkgaaGreatDoorRows.lean that lists a variable, with what it lists TIED to the program's text (the seventh form; the later family's looks); each row that meets fmt, with fmt's text TOLD by the authors' own Lean function (tested against real Go, not proved from fmt's source: count such statements apart). THE CARD IS WHAT COUNTS. Prove the row's statement (the work); the ties are given (YtoaemihcbmlkgaaGreatDoorTie.lean); close each card by the builder's one call (the guide's Derived/Test/ToyasCard.lean, 'card_holds'). Laid BY PROGRAM, IN A SANDBOX (cutbox-door.mjs). By AI agents, Wed Nov 11 2026. No macro, syntax, notation, axiom, sorry.
-/
import Derived.Test.YtoaemihcbmlkgaaGreatDoorRows
import GoSem.ClaimSeven
namespace Go.Proofs.YtoaemihcbmlkgaaGreatDoor
namespace Rows

/-- THE TIED CARD OF 'ossuarylaw26.MeanSound'. -/
def meanSoundCard : Claim7 := { stood := { row := meanSoundRow, standIns := [], harness := (true, "fddb39fcc88b4c92f5b6ab5658a50a6287cf643e3180faf674037bf8aee35039"), looks := true }, kinds := [], alts := [], laidByText := true, laidKinds := [.data, .data, .data, .data, .pinned, .pinned], laidTests := true, laidLooks := .later }
def MeanSoundCardSaid : Prop := Claim7.holds Tryz.pinned (.plain (OpenSpec.ofChange meanSoundSpec)) meanSoundCard

/-- THE TIED CARD OF 'ossuarylaw26.MeanAnswers'. -/
def meanAnswersCard : Claim7 := { stood := { row := meanAnswersRow, standIns := [], harness := (true, "fddb39fcc88b4c92f5b6ab5658a50a6287cf643e3180faf674037bf8aee35039"), looks := true }, kinds := [], alts := [], laidByText := true, laidKinds := [.data, .data, .data, .data, .pinned, .pinned], laidTests := true, laidLooks := .later }
def MeanAnswersCardSaid : Prop := Claim7.holds Tryz.pinned (.plain (OpenSpec.ofChange meanAnswersSpec)) meanAnswersCard

/-- THE SECOND FORM's CARD OF 'ossuarylaw26.MeanSound'. -/
def meanSoundUptoCard : Claim7 := { stood := { row := meanSoundUptoRow, standIns := [], harness := (true, "fddb39fcc88b4c92f5b6ab5658a50a6287cf643e3180faf674037bf8aee35039"), looks := true }, kinds := [], alts := [], laidByText := true, laidKinds := [.data, .data, .data, .data, .pinned, .pinned], laidTests := true, laidLooks := .later }
def MeanSoundUptoCardSaid : Prop := Claim7.holds Tryz.pinned (.plain (OpenSpec.upto meanSoundSpec)) meanSoundUptoCard

/-- THE SECOND FORM's CARD OF 'ossuarylaw26.MeanAnswers'. -/
def meanAnswersUptoCard : Claim7 := { stood := { row := meanAnswersUptoRow, standIns := [], harness := (true, "fddb39fcc88b4c92f5b6ab5658a50a6287cf643e3180faf674037bf8aee35039"), looks := true }, kinds := [], alts := [], laidByText := true, laidKinds := [.data, .data, .data, .data, .pinned, .pinned], laidTests := true, laidLooks := .later }
def MeanAnswersUptoCardSaid : Prop := Claim7.holds Tryz.pinned (.plain (OpenSpec.upto meanAnswersSpec)) meanAnswersUptoCard
end Rows
end Go.Proofs.YtoaemihcbmlkgaaGreatDoor
