/-
  DERIVED. GIVEN WITH THE SEED: THE CARDS: each row of YtheeklkcaapkbaaGreatDoorRows.lean that lists a variable, with what it lists TIED to the program's text (the seventh form; the later family's looks); each row that meets fmt, with fmt's text TOLD by the authors' own Lean function (tested against real Go, not proved from fmt's source: count such statements apart). THE CARD IS WHAT COUNTS. Prove the row's statement (the work); the ties are given (YtheeklkcaapkbaaGreatDoorTie.lean); close each card by the builder's one call (the guide's Derived/Test/ToyasCard.lean, 'card_holds'). Laid BY PROGRAM, IN A SANDBOX (cutbox-door.mjs). By AI agents, Wed Nov 11 2026. No macro, syntax, notation, axiom, sorry.
-/
import Derived.Test.YtheeklkcaapkbaaGreatDoorRows
import GoSem.ClaimSeven
namespace Go.Proofs.YtheeklkcaapkbaaGreatDoor
namespace Rows

/-- THE TIED CARD OF 'ossuarylaw08.TermOrder'. -/
def termOrderCard : Claim7 := { stood := { row := termOrderRow, standIns := [], harness := (true, "0f0ac57f6c2076208af48816a5936a89462c4f55f39ccea6cf307cd924754214"), looks := true }, kinds := [], alts := [], laidByText := true, laidKinds := [.data, .data, .data, .data, .pinned, .pinned], laidTests := true, laidLooks := .later }
def TermOrderCardSaid : Prop := Claim7.holds Tryz.pinned (.plain (OpenSpec.ofChange termOrderSpec)) termOrderCard

/-- THE TIED CARD OF 'ossuarylaw08.TermTriples'. -/
def termTriplesCard : Claim7 := { stood := { row := termTriplesRow, standIns := [], harness := (true, "0f0ac57f6c2076208af48816a5936a89462c4f55f39ccea6cf307cd924754214"), looks := true }, kinds := [], alts := [], laidByText := true, laidKinds := [.data, .data, .data, .data, .pinned, .pinned], laidTests := true, laidLooks := .later }
def TermTriplesCardSaid : Prop := Claim7.holds Tryz.pinned (.plain (OpenSpec.ofChange termTriplesSpec)) termTriplesCard

/-- THE TIED CARD OF 'ossuarylaw08.TermTells'. -/
def termTellsCard : Claim7 := { stood := { row := termTellsRow, standIns := [], harness := (true, "0f0ac57f6c2076208af48816a5936a89462c4f55f39ccea6cf307cd924754214"), looks := true }, kinds := [], alts := [], laidByText := true, laidKinds := [.data, .data, .data, .data, .pinned, .pinned], laidTests := true, laidLooks := .later }
def TermTellsCardSaid : Prop := Claim7.holds Tryz.pinned (.plain (OpenSpec.ofChange termTellsSpec)) termTellsCard

/-- THE TIED CARD OF 'ossuarylaw08.TermReads'. -/
def termReadsCard : Claim7 := { stood := { row := termReadsRow, standIns := [], harness := (true, "0f0ac57f6c2076208af48816a5936a89462c4f55f39ccea6cf307cd924754214"), looks := true }, kinds := [], alts := [], laidByText := true, laidKinds := [.data, .data, .data, .data, .sentinel, .sentinel, .pinned, .pinned], laidTests := true, laidLooks := .later }
def TermReadsCardSaid : Prop := Claim7.holds Tryz.pinned (.plain (OpenSpec.ofChange termReadsSpec)) termReadsCard

/-- THE TIED CARD OF 'ossuarylaw08.TermBack'. -/
def termBackCard : Claim7 := { stood := { row := termBackRow, standIns := [], harness := (true, "0f0ac57f6c2076208af48816a5936a89462c4f55f39ccea6cf307cd924754214"), looks := true }, kinds := [], alts := [], laidByText := true, laidKinds := [.data, .data, .data, .data, .sentinel, .sentinel, .pinned, .pinned], laidTests := true, laidLooks := .later }
def TermBackCardSaid : Prop := Claim7.holds Tryz.pinned (.plain (OpenSpec.ofChange termBackSpec)) termBackCard

/-- THE TIED CARD OF 'ossuarylaw08.TermEnds'. -/
def termEndsCard : Claim7 := { stood := { row := termEndsRow, standIns := [], harness := (true, "0f0ac57f6c2076208af48816a5936a89462c4f55f39ccea6cf307cd924754214"), looks := true }, kinds := [], alts := [], laidByText := true, laidKinds := [.data, .data, .data, .data, .sentinel, .sentinel, .pinned, .pinned], laidTests := true, laidLooks := .later }
def TermEndsCardSaid : Prop := Claim7.holds Tryz.pinned (.plain (OpenSpec.ofChange termEndsSpec)) termEndsCard

/-- THE SECOND FORM's CARD OF 'ossuarylaw08.TermOrder'. -/
def termOrderUptoCard : Claim7 := { stood := { row := termOrderUptoRow, standIns := [], harness := (true, "0f0ac57f6c2076208af48816a5936a89462c4f55f39ccea6cf307cd924754214"), looks := true }, kinds := [], alts := [], laidByText := true, laidKinds := [.data, .data, .data, .data, .pinned, .pinned], laidTests := true, laidLooks := .later }
def TermOrderUptoCardSaid : Prop := Claim7.holds Tryz.pinned (.plain (OpenSpec.upto termOrderSpec)) termOrderUptoCard

/-- THE SECOND FORM's CARD OF 'ossuarylaw08.TermTriples'. -/
def termTriplesUptoCard : Claim7 := { stood := { row := termTriplesUptoRow, standIns := [], harness := (true, "0f0ac57f6c2076208af48816a5936a89462c4f55f39ccea6cf307cd924754214"), looks := true }, kinds := [], alts := [], laidByText := true, laidKinds := [.data, .data, .data, .data, .pinned, .pinned], laidTests := true, laidLooks := .later }
def TermTriplesUptoCardSaid : Prop := Claim7.holds Tryz.pinned (.plain (OpenSpec.upto termTriplesSpec)) termTriplesUptoCard

/-- THE SECOND FORM's CARD OF 'ossuarylaw08.TermTells'. -/
def termTellsUptoCard : Claim7 := { stood := { row := termTellsUptoRow, standIns := [], harness := (true, "0f0ac57f6c2076208af48816a5936a89462c4f55f39ccea6cf307cd924754214"), looks := true }, kinds := [], alts := [], laidByText := true, laidKinds := [.data, .data, .data, .data, .pinned, .pinned], laidTests := true, laidLooks := .later }
def TermTellsUptoCardSaid : Prop := Claim7.holds Tryz.pinned (.plain (OpenSpec.upto termTellsSpec)) termTellsUptoCard

/-- THE SECOND FORM's CARD OF 'ossuarylaw08.TermReads'. -/
def termReadsUptoCard : Claim7 := { stood := { row := termReadsUptoRow, standIns := [], harness := (true, "0f0ac57f6c2076208af48816a5936a89462c4f55f39ccea6cf307cd924754214"), looks := true }, kinds := [], alts := [], laidByText := true, laidKinds := [.data, .data, .data, .data, .sentinel, .sentinel, .pinned, .pinned], laidTests := true, laidLooks := .later }
def TermReadsUptoCardSaid : Prop := Claim7.holds Tryz.pinned (.plain (OpenSpec.upto termReadsSpec)) termReadsUptoCard

/-- THE SECOND FORM's CARD OF 'ossuarylaw08.TermBack'. -/
def termBackUptoCard : Claim7 := { stood := { row := termBackUptoRow, standIns := [], harness := (true, "0f0ac57f6c2076208af48816a5936a89462c4f55f39ccea6cf307cd924754214"), looks := true }, kinds := [], alts := [], laidByText := true, laidKinds := [.data, .data, .data, .data, .sentinel, .sentinel, .pinned, .pinned], laidTests := true, laidLooks := .later }
def TermBackUptoCardSaid : Prop := Claim7.holds Tryz.pinned (.plain (OpenSpec.upto termBackSpec)) termBackUptoCard

/-- THE SECOND FORM's CARD OF 'ossuarylaw08.TermEnds'. -/
def termEndsUptoCard : Claim7 := { stood := { row := termEndsUptoRow, standIns := [], harness := (true, "0f0ac57f6c2076208af48816a5936a89462c4f55f39ccea6cf307cd924754214"), looks := true }, kinds := [], alts := [], laidByText := true, laidKinds := [.data, .data, .data, .data, .sentinel, .sentinel, .pinned, .pinned], laidTests := true, laidLooks := .later }
def TermEndsUptoCardSaid : Prop := Claim7.holds Tryz.pinned (.plain (OpenSpec.upto termEndsSpec)) termEndsUptoCard
end Rows
end Go.Proofs.YtheeklkcaapkbaaGreatDoor
