/-
  DERIVED. GIVEN WITH THE SEED: THE CARDS: each row of YtdplnlbplgmijaaDoorRows.lean that lists a variable, with what it lists TIED to the program's text (the seventh form; the later family's looks); each row that meets fmt, with fmt's text TOLD by the authors' own Lean function (tested against real Go, not proved from fmt's source: count such statements apart). THE CARD IS WHAT COUNTS. Prove the row's statement (the work); the ties are given (YtdplnlbplgmijaaDoorTie.lean); close each card by the builder's one call (the guide's Derived/Test/ToyasCard.lean, 'card_holds'). Laid BY PROGRAM, IN A SANDBOX (cutbox-door.mjs). By AI agents, Wed Nov 11 2026. No macro, syntax, notation, axiom, sorry.
-/
import Derived.Test.YtdplnlbplgmijaaDoorRows
import GoSem.ClaimSeven
namespace Go.Proofs.YtdplnlbplgmijaaDoor
namespace Rows

/-- THE TIED CARD OF 'ossuarylaw07.UtfWrites'. -/
def utfWritesCard : Claim7 := { stood := { row := utfWritesRow, standIns := [], harness := (true, "3d04893ee95ed8dd678117c515302039d7c2842b6161fd655f3583eaa29b7093"), looks := false }, kinds := [], alts := [], laidByText := true, laidKinds := [.data, .pinned], laidTests := true, laidLooks := .later }
def UtfWritesCardSaid : Prop := Claim7.holds Tryd.pinned (.plain (OpenSpec.ofChange utfWritesSpec)) utfWritesCard

/-- THE TIED CARD OF 'ossuarylaw07.UtfSpans'. -/
def utfSpansCard : Claim7 := { stood := { row := utfSpansRow, standIns := [], harness := (true, "3d04893ee95ed8dd678117c515302039d7c2842b6161fd655f3583eaa29b7093"), looks := false }, kinds := [], alts := [], laidByText := true, laidKinds := [.data, .pinned], laidTests := true, laidLooks := .later }
def UtfSpansCardSaid : Prop := Claim7.holds Tryd.pinned (.plain (OpenSpec.ofChange utfSpansSpec)) utfSpansCard

/-- THE TIED CARD OF 'ossuarylaw07.UtfReads'. -/
def utfReadsCard : Claim7 := { stood := { row := utfReadsRow, standIns := [], harness := (true, "3d04893ee95ed8dd678117c515302039d7c2842b6161fd655f3583eaa29b7093"), looks := false }, kinds := [], alts := [], laidByText := true, laidKinds := [.data, .pinned], laidTests := true, laidLooks := .later }
def UtfReadsCardSaid : Prop := Claim7.holds Tryd.pinned (.plain (OpenSpec.ofChange utfReadsSpec)) utfReadsCard

/-- THE TIED CARD OF 'ossuarylaw07.UtfEnds'. -/
def utfEndsCard : Claim7 := { stood := { row := utfEndsRow, standIns := [], harness := (true, "3d04893ee95ed8dd678117c515302039d7c2842b6161fd655f3583eaa29b7093"), looks := false }, kinds := [], alts := [], laidByText := true, laidKinds := [.data, .pinned], laidTests := true, laidLooks := .later }
def UtfEndsCardSaid : Prop := Claim7.holds Tryd.pinned (.plain (OpenSpec.ofChange utfEndsSpec)) utfEndsCard

/-- THE TIED CARD OF 'ossuarylaw07.UtfBack'. -/
def utfBackCard : Claim7 := { stood := { row := utfBackRow, standIns := [], harness := (true, "3d04893ee95ed8dd678117c515302039d7c2842b6161fd655f3583eaa29b7093"), looks := false }, kinds := [], alts := [], laidByText := true, laidKinds := [.data, .pinned], laidTests := true, laidLooks := .later }
def UtfBackCardSaid : Prop := Claim7.holds Tryd.pinned (.plain (OpenSpec.ofChange utfBackSpec)) utfBackCard

/-- THE SECOND FORM's CARD OF 'ossuarylaw07.UtfWrites'. -/
def utfWritesUptoCard : Claim7 := { stood := { row := utfWritesUptoRow, standIns := [], harness := (true, "3d04893ee95ed8dd678117c515302039d7c2842b6161fd655f3583eaa29b7093"), looks := false }, kinds := [], alts := [], laidByText := true, laidKinds := [.data, .pinned], laidTests := true, laidLooks := .later }
def UtfWritesUptoCardSaid : Prop := Claim7.holds Tryd.pinned (.plain (OpenSpec.upto utfWritesSpec)) utfWritesUptoCard

/-- THE SECOND FORM's CARD OF 'ossuarylaw07.UtfSpans'. -/
def utfSpansUptoCard : Claim7 := { stood := { row := utfSpansUptoRow, standIns := [], harness := (true, "3d04893ee95ed8dd678117c515302039d7c2842b6161fd655f3583eaa29b7093"), looks := false }, kinds := [], alts := [], laidByText := true, laidKinds := [.data, .pinned], laidTests := true, laidLooks := .later }
def UtfSpansUptoCardSaid : Prop := Claim7.holds Tryd.pinned (.plain (OpenSpec.upto utfSpansSpec)) utfSpansUptoCard

/-- THE SECOND FORM's CARD OF 'ossuarylaw07.UtfReads'. -/
def utfReadsUptoCard : Claim7 := { stood := { row := utfReadsUptoRow, standIns := [], harness := (true, "3d04893ee95ed8dd678117c515302039d7c2842b6161fd655f3583eaa29b7093"), looks := false }, kinds := [], alts := [], laidByText := true, laidKinds := [.data, .pinned], laidTests := true, laidLooks := .later }
def UtfReadsUptoCardSaid : Prop := Claim7.holds Tryd.pinned (.plain (OpenSpec.upto utfReadsSpec)) utfReadsUptoCard

/-- THE SECOND FORM's CARD OF 'ossuarylaw07.UtfEnds'. -/
def utfEndsUptoCard : Claim7 := { stood := { row := utfEndsUptoRow, standIns := [], harness := (true, "3d04893ee95ed8dd678117c515302039d7c2842b6161fd655f3583eaa29b7093"), looks := false }, kinds := [], alts := [], laidByText := true, laidKinds := [.data, .pinned], laidTests := true, laidLooks := .later }
def UtfEndsUptoCardSaid : Prop := Claim7.holds Tryd.pinned (.plain (OpenSpec.upto utfEndsSpec)) utfEndsUptoCard

/-- THE SECOND FORM's CARD OF 'ossuarylaw07.UtfBack'. -/
def utfBackUptoCard : Claim7 := { stood := { row := utfBackUptoRow, standIns := [], harness := (true, "3d04893ee95ed8dd678117c515302039d7c2842b6161fd655f3583eaa29b7093"), looks := false }, kinds := [], alts := [], laidByText := true, laidKinds := [.data, .pinned], laidTests := true, laidLooks := .later }
def UtfBackUptoCardSaid : Prop := Claim7.holds Tryd.pinned (.plain (OpenSpec.upto utfBackSpec)) utfBackUptoCard
end Rows
end Go.Proofs.YtdplnlbplgmijaaDoor
