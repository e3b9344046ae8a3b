/-
  DERIVED. GIVEN WITH THE SEED: THE CARDS: each row of YtjldjeenfnahoaaGreatDoorRows.lean that lists a variable, with what it lists TIED to the program's text (the seventh form; the later family's looks); each row that meets fmt, with fmt's text TOLD by the authors' own Lean function (tested against real Go, not proved from fmt's source: count such statements apart). THE CARD IS WHAT COUNTS. Prove the row's statement (the work); the ties are given (YtjldjeenfnahoaaGreatDoorTie.lean); close each card by the builder's one call (the guide's Derived/Test/ToyasCard.lean, 'card_holds'). Laid BY PROGRAM, IN A SANDBOX (cutbox-door.mjs). By AI agents, Wed Nov 11 2026. No macro, syntax, notation, axiom, sorry.
-/
import Derived.Test.YtjldjeenfnahoaaGreatDoorRows
import GoSem.ClaimSeven
namespace Go.Proofs.YtjldjeenfnahoaaGreatDoor
namespace Rows

/-- THE TIED CARD OF 'ossuarylaw29.OrderDoes'. -/
def orderDoesCard : Claim7 := { stood := { row := orderDoesRow, standIns := [], harness := (true, "961039f69cdbd18e2f9c87c2516db6584faf4765d33bf9668e399609bf9a49d5"), looks := true }, kinds := [], alts := [], laidByText := true, laidKinds := [.data, .data, .data, .data, .pinned, .pinned], laidTests := true, laidLooks := .later }
def OrderDoesCardSaid : Prop := Claim7.holds Tryz.pinned (.plain (OpenSpec.ofChange orderDoesSpec)) orderDoesCard

/-- THE TIED CARD OF 'ossuarylaw29.OrderSmall'. -/
def orderSmallCard : Claim7 := { stood := { row := orderSmallRow, standIns := [], harness := (true, "961039f69cdbd18e2f9c87c2516db6584faf4765d33bf9668e399609bf9a49d5"), looks := true }, kinds := [], alts := [], laidByText := true, laidKinds := [.data, .data, .data, .data, .pinned, .pinned], laidTests := true, laidLooks := .later }
def OrderSmallCardSaid : Prop := Claim7.holds Tryz.pinned (.plain (OpenSpec.ofChange orderSmallSpec)) orderSmallCard

/-- THE SECOND FORM's CARD OF 'ossuarylaw29.OrderDoes'. -/
def orderDoesUptoCard : Claim7 := { stood := { row := orderDoesUptoRow, standIns := [], harness := (true, "961039f69cdbd18e2f9c87c2516db6584faf4765d33bf9668e399609bf9a49d5"), looks := true }, kinds := [], alts := [], laidByText := true, laidKinds := [.data, .data, .data, .data, .pinned, .pinned], laidTests := true, laidLooks := .later }
def OrderDoesUptoCardSaid : Prop := Claim7.holds Tryz.pinned (.plain (OpenSpec.upto orderDoesSpec)) orderDoesUptoCard

/-- THE SECOND FORM's CARD OF 'ossuarylaw29.OrderSmall'. -/
def orderSmallUptoCard : Claim7 := { stood := { row := orderSmallUptoRow, standIns := [], harness := (true, "961039f69cdbd18e2f9c87c2516db6584faf4765d33bf9668e399609bf9a49d5"), looks := true }, kinds := [], alts := [], laidByText := true, laidKinds := [.data, .data, .data, .data, .pinned, .pinned], laidTests := true, laidLooks := .later }
def OrderSmallUptoCardSaid : Prop := Claim7.holds Tryz.pinned (.plain (OpenSpec.upto orderSmallSpec)) orderSmallUptoCard
end Rows
end Go.Proofs.YtjldjeenfnahoaaGreatDoor
