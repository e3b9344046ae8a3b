/-
  DERIVED. GIVEN WITH THE SEED: THE CARDS: each row of YtffpgandgajihaaGreatDoorRows.lean that lists a variable, with what it lists TIED to the program's text (the seventh form; the later family's looks); each row that meets fmt, with fmt's text TOLD by the authors' own Lean function (tested against real Go, not proved from fmt's source: count such statements apart). THE CARD IS WHAT COUNTS. Prove the row's statement (the work); the ties are given (YtffpgandgajihaaGreatDoorTie.lean); close each card by the builder's one call (the guide's Derived/Test/ToyasCard.lean, 'card_holds'). Laid BY PROGRAM, IN A SANDBOX (cutbox-door.mjs). By AI agents, Wed Nov 11 2026. No macro, syntax, notation, axiom, sorry.
-/
import Derived.Test.YtffpgandgajihaaGreatDoorRows
import GoSem.ClaimSeven
namespace Go.Proofs.YtffpgandgajihaaGreatDoor
namespace Rows

/-- THE TIED CARD OF 'ossuarylaw10.LinesRight'. -/
def linesRightCard : Claim7 := { stood := { row := linesRightRow, standIns := [], harness := (true, "3e287f9248baef2766e2bd2617480627148f5c62cd8a845bd9c1485d258db523"), looks := true }, kinds := [], alts := [], laidByText := true, laidKinds := [.data, .data, .data, .data, .sentinel, .sentinel, .pinned, .pinned], laidTests := true, laidLooks := .later }
def LinesRightCardSaid : Prop := Claim7.holds Tryz.pinned (.plain (OpenSpec.ofChange linesRightSpec)) linesRightCard

/-- THE TIED CARD OF 'ossuarylaw10.LinesTerm'. -/
def linesTermCard : Claim7 := { stood := { row := linesTermRow, standIns := [], harness := (true, "3e287f9248baef2766e2bd2617480627148f5c62cd8a845bd9c1485d258db523"), looks := true }, kinds := [], alts := [], laidByText := true, laidKinds := [.data, .data, .data, .data, .sentinel, .sentinel, .pinned, .pinned], laidTests := true, laidLooks := .later }
def LinesTermCardSaid : Prop := Claim7.holds Tryz.pinned (.plain (OpenSpec.ofChange linesTermSpec)) linesTermCard

/-- THE TIED CARD OF 'ossuarylaw10.LinesShow'. -/
def linesShowCard : Claim7 := { stood := { row := linesShowRow, standIns := [], harness := (true, "3e287f9248baef2766e2bd2617480627148f5c62cd8a845bd9c1485d258db523"), looks := true }, kinds := [], alts := [], laidByText := true, laidKinds := [.data, .data, .data, .data, .sentinel, .sentinel, .pinned, .pinned], laidTests := true, laidLooks := .later }
def LinesShowCardSaid : Prop := Claim7.holds Tryz.pinned (.plain (OpenSpec.ofChange linesShowSpec)) linesShowCard

/-- THE TIED CARD OF 'ossuarylaw10.LinesJoin'. -/
def linesJoinCard : Claim7 := { stood := { row := linesJoinRow, standIns := [], harness := (true, "3e287f9248baef2766e2bd2617480627148f5c62cd8a845bd9c1485d258db523"), looks := true }, kinds := [], alts := [], laidByText := true, laidKinds := [.data, .data, .data, .data, .sentinel, .sentinel, .pinned, .pinned], laidTests := true, laidLooks := .later }
def LinesJoinCardSaid : Prop := Claim7.holds Tryz.pinned (.plain (OpenSpec.ofChange linesJoinSpec)) linesJoinCard

/-- THE SECOND FORM's CARD OF 'ossuarylaw10.LinesRight'. -/
def linesRightUptoCard : Claim7 := { stood := { row := linesRightUptoRow, standIns := [], harness := (true, "3e287f9248baef2766e2bd2617480627148f5c62cd8a845bd9c1485d258db523"), looks := true }, kinds := [], alts := [], laidByText := true, laidKinds := [.data, .data, .data, .data, .sentinel, .sentinel, .pinned, .pinned], laidTests := true, laidLooks := .later }
def LinesRightUptoCardSaid : Prop := Claim7.holds Tryz.pinned (.plain (OpenSpec.upto linesRightSpec)) linesRightUptoCard

/-- THE SECOND FORM's CARD OF 'ossuarylaw10.LinesTerm'. -/
def linesTermUptoCard : Claim7 := { stood := { row := linesTermUptoRow, standIns := [], harness := (true, "3e287f9248baef2766e2bd2617480627148f5c62cd8a845bd9c1485d258db523"), looks := true }, kinds := [], alts := [], laidByText := true, laidKinds := [.data, .data, .data, .data, .sentinel, .sentinel, .pinned, .pinned], laidTests := true, laidLooks := .later }
def LinesTermUptoCardSaid : Prop := Claim7.holds Tryz.pinned (.plain (OpenSpec.upto linesTermSpec)) linesTermUptoCard

/-- THE SECOND FORM's CARD OF 'ossuarylaw10.LinesShow'. -/
def linesShowUptoCard : Claim7 := { stood := { row := linesShowUptoRow, standIns := [], harness := (true, "3e287f9248baef2766e2bd2617480627148f5c62cd8a845bd9c1485d258db523"), looks := true }, kinds := [], alts := [], laidByText := true, laidKinds := [.data, .data, .data, .data, .sentinel, .sentinel, .pinned, .pinned], laidTests := true, laidLooks := .later }
def LinesShowUptoCardSaid : Prop := Claim7.holds Tryz.pinned (.plain (OpenSpec.upto linesShowSpec)) linesShowUptoCard

/-- THE SECOND FORM's CARD OF 'ossuarylaw10.LinesJoin'. -/
def linesJoinUptoCard : Claim7 := { stood := { row := linesJoinUptoRow, standIns := [], harness := (true, "3e287f9248baef2766e2bd2617480627148f5c62cd8a845bd9c1485d258db523"), looks := true }, kinds := [], alts := [], laidByText := true, laidKinds := [.data, .data, .data, .data, .sentinel, .sentinel, .pinned, .pinned], laidTests := true, laidLooks := .later }
def LinesJoinUptoCardSaid : Prop := Claim7.holds Tryz.pinned (.plain (OpenSpec.upto linesJoinSpec)) linesJoinUptoCard
end Rows
end Go.Proofs.YtffpgandgajihaaGreatDoor
