/-
  DERIVED. GIVEN WITH THE SEED: THE CARDS: each row of YthdlepalglgmoaaGreatDoorRows.lean that lists a variable, with what it lists TIED to the program's text (the seventh form; the later family's looks); each row that meets fmt, with fmt's text TOLD by the authors' own Lean function (tested against real Go, not proved from fmt's source: count such statements apart). THE CARD IS WHAT COUNTS. Prove the row's statement (the work); the ties are given (YthdlepalglgmoaaGreatDoorTie.lean); close each card by the builder's one call (the guide's Derived/Test/ToyasCard.lean, 'card_holds'). Laid BY PROGRAM, IN A SANDBOX (cutbox-door.mjs). By AI agents, Wed Nov 11 2026. No macro, syntax, notation, axiom, sorry.
-/
import Derived.Test.YthdlepalglgmoaaGreatDoorRows
import GoSem.ClaimSeven
namespace Go.Proofs.YthdlepalglgmoaaGreatDoor
namespace Rows

/-- THE TIED CARD OF 'ossuarylaw11.ShowEnds'. -/
def showEndsCard : Claim7 := { stood := { row := showEndsRow, standIns := [], harness := (true, "8eb881b237da99562803f3057c0048a2f2304cf3d94abc905ee4d7f03e85be9c"), looks := true }, kinds := [], alts := [], laidByText := true, laidKinds := [.data, .data, .data, .data, .pinned, .pinned], laidTests := true, laidLooks := .later }
def ShowEndsCardSaid : Prop := Claim7.holds Tryz.pinned (.plain (OpenSpec.ofChange showEndsSpec)) showEndsCard

/-- THE SECOND FORM's CARD OF 'ossuarylaw11.ShowEnds'. -/
def showEndsUptoCard : Claim7 := { stood := { row := showEndsUptoRow, standIns := [], harness := (true, "8eb881b237da99562803f3057c0048a2f2304cf3d94abc905ee4d7f03e85be9c"), looks := true }, kinds := [], alts := [], laidByText := true, laidKinds := [.data, .data, .data, .data, .pinned, .pinned], laidTests := true, laidLooks := .later }
def ShowEndsUptoCardSaid : Prop := Claim7.holds Tryz.pinned (.plain (OpenSpec.upto showEndsSpec)) showEndsUptoCard
end Rows
end Go.Proofs.YthdlepalglgmoaaGreatDoor
