/-
  DERIVED. GIVEN WITH THE SEED: THE CARDS: each row of YtfijpdmkdoccjaaGreatDoorRows.lean that lists a variable, with what it lists TIED to the program's text (the seventh form; the later family's looks); each row that meets fmt, with fmt's text TOLD by the authors' own Lean function (tested against real Go, not proved from fmt's source: count such statements apart). THE CARD IS WHAT COUNTS. Prove the row's statement (the work); the ties are given (YtfijpdmkdoccjaaGreatDoorTie.lean); close each card by the builder's one call (the guide's Derived/Test/ToyasCard.lean, 'card_holds'). Laid BY PROGRAM, IN A SANDBOX (cutbox-door.mjs). By AI agents, Wed Nov 11 2026. No macro, syntax, notation, axiom, sorry.
-/
import Derived.Test.YtfijpdmkdoccjaaGreatDoorRows
import GoSem.ClaimSeven
namespace Go.Proofs.YtfijpdmkdoccjaaGreatDoor
namespace Rows

/-- THE TIED CARD OF 'ossuarylaw25.FilterSmall'. -/
def filterSmallCard : Claim7 := { stood := { row := filterSmallRow, standIns := [], harness := (true, "2ca56983a0019cc935923629a1ffa0abc96e7d8715c6aba280989988361ea2f9"), looks := false }, kinds := [], alts := [], laidByText := true, laidKinds := [.data, .pinned], laidTests := true, laidLooks := .later }
def FilterSmallCardSaid : Prop := Claim7.holds Tryz.pinned (.plain (OpenSpec.ofChange filterSmallSpec)) filterSmallCard

/-- THE SECOND FORM's CARD OF 'ossuarylaw25.FilterSmall'. -/
def filterSmallUptoCard : Claim7 := { stood := { row := filterSmallUptoRow, standIns := [], harness := (true, "2ca56983a0019cc935923629a1ffa0abc96e7d8715c6aba280989988361ea2f9"), looks := false }, kinds := [], alts := [], laidByText := true, laidKinds := [.data, .pinned], laidTests := true, laidLooks := .later }
def FilterSmallUptoCardSaid : Prop := Claim7.holds Tryz.pinned (.plain (OpenSpec.upto filterSmallSpec)) filterSmallUptoCard
end Rows
end Go.Proofs.YtfijpdmkdoccjaaGreatDoor
