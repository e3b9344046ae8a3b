/-
  DERIVED. GIVEN WITH THE SEED: THE CARDS: each row of YtpnlabjgmdhicaaGreatDoorRows.lean that lists a variable, with what it lists TIED to the program's text (the seventh form; the later family's looks); each row that meets fmt, with fmt's text TOLD by the authors' own Lean function (tested against real Go, not proved from fmt's source: count such statements apart). THE CARD IS WHAT COUNTS. Prove the row's statement (the work); the ties are given (YtpnlabjgmdhicaaGreatDoorTie.lean); close each card by the builder's one call (the guide's Derived/Test/ToyasCard.lean, 'card_holds'). Laid BY PROGRAM, IN A SANDBOX (cutbox-door.mjs). By AI agents, Wed Nov 11 2026. No macro, syntax, notation, axiom, sorry.
-/
import Derived.Test.YtpnlabjgmdhicaaGreatDoorRows
import GoSem.ClaimSeven
namespace Go.Proofs.YtpnlabjgmdhicaaGreatDoor
namespace Rows

/-- THE TIED CARD OF 'ossuarylaw11.ShowSet'. -/
def showSetCard : Claim7 := { stood := { row := showSetRow, standIns := [], harness := (true, "8fbdaf263df3c130156528017e0a5bcd93aa6e5b54d0e27fd88ccb4ec7798ee2"), looks := true }, kinds := [], alts := [], laidByText := true, laidKinds := [.data, .data, .data, .data, .pinned, .pinned], laidTests := true, laidLooks := .later }
def ShowSetCardSaid : Prop := Claim7.holds Tryz.pinned (.plain (OpenSpec.ofChange showSetSpec)) showSetCard

/-- THE TIED CARD OF 'ossuarylaw11.ShowTells'. -/
def showTellsCard : Claim7 := { stood := { row := showTellsRow, standIns := [], harness := (true, "8fbdaf263df3c130156528017e0a5bcd93aa6e5b54d0e27fd88ccb4ec7798ee2"), looks := true }, kinds := [], alts := [], laidByText := true, laidKinds := [.data, .data, .data, .data, .pinned, .pinned], laidTests := true, laidLooks := .later }
def ShowTellsCardSaid : Prop := Claim7.holds Tryz.pinned (.plain (OpenSpec.ofChange showTellsSpec)) showTellsCard

/-- THE TIED CARD OF 'ossuarylaw11.ShowEnds'. -/
def showEndsCard : Claim7 := { stood := { row := showEndsRow, standIns := [], harness := (true, "8fbdaf263df3c130156528017e0a5bcd93aa6e5b54d0e27fd88ccb4ec7798ee2"), looks := true }, kinds := [], alts := [], laidByText := true, laidKinds := [.data, .data, .data, .data, .pinned, .pinned], laidTests := true, laidLooks := .later }
def ShowEndsCardSaid : Prop := Claim7.holds Tryz.pinned (.plain (OpenSpec.ofChange showEndsSpec)) showEndsCard

/-- THE TIED CARD OF 'ossuarylaw11.ShowBack'. -/
def showBackCard : Claim7 := { stood := { row := showBackRow, standIns := [], harness := (true, "8fbdaf263df3c130156528017e0a5bcd93aa6e5b54d0e27fd88ccb4ec7798ee2"), looks := true }, kinds := [], alts := [], laidByText := true, laidKinds := [.data, .data, .data, .data, .sentinel, .sentinel, .pinned, .pinned], laidTests := true, laidLooks := .later }
def ShowBackCardSaid : Prop := Claim7.holds Tryz.pinned (.plain (OpenSpec.ofChange showBackSpec)) showBackCard

/-- THE SECOND FORM's CARD OF 'ossuarylaw11.ShowSet'. -/
def showSetUptoCard : Claim7 := { stood := { row := showSetUptoRow, standIns := [], harness := (true, "8fbdaf263df3c130156528017e0a5bcd93aa6e5b54d0e27fd88ccb4ec7798ee2"), looks := true }, kinds := [], alts := [], laidByText := true, laidKinds := [.data, .data, .data, .data, .pinned, .pinned], laidTests := true, laidLooks := .later }
def ShowSetUptoCardSaid : Prop := Claim7.holds Tryz.pinned (.plain (OpenSpec.upto showSetSpec)) showSetUptoCard

/-- THE SECOND FORM's CARD OF 'ossuarylaw11.ShowTells'. -/
def showTellsUptoCard : Claim7 := { stood := { row := showTellsUptoRow, standIns := [], harness := (true, "8fbdaf263df3c130156528017e0a5bcd93aa6e5b54d0e27fd88ccb4ec7798ee2"), looks := true }, kinds := [], alts := [], laidByText := true, laidKinds := [.data, .data, .data, .data, .pinned, .pinned], laidTests := true, laidLooks := .later }
def ShowTellsUptoCardSaid : Prop := Claim7.holds Tryz.pinned (.plain (OpenSpec.upto showTellsSpec)) showTellsUptoCard

/-- THE SECOND FORM's CARD OF 'ossuarylaw11.ShowEnds'. -/
def showEndsUptoCard : Claim7 := { stood := { row := showEndsUptoRow, standIns := [], harness := (true, "8fbdaf263df3c130156528017e0a5bcd93aa6e5b54d0e27fd88ccb4ec7798ee2"), looks := true }, kinds := [], alts := [], laidByText := true, laidKinds := [.data, .data, .data, .data, .pinned, .pinned], laidTests := true, laidLooks := .later }
def ShowEndsUptoCardSaid : Prop := Claim7.holds Tryz.pinned (.plain (OpenSpec.upto showEndsSpec)) showEndsUptoCard

/-- THE SECOND FORM's CARD OF 'ossuarylaw11.ShowBack'. -/
def showBackUptoCard : Claim7 := { stood := { row := showBackUptoRow, standIns := [], harness := (true, "8fbdaf263df3c130156528017e0a5bcd93aa6e5b54d0e27fd88ccb4ec7798ee2"), looks := true }, kinds := [], alts := [], laidByText := true, laidKinds := [.data, .data, .data, .data, .sentinel, .sentinel, .pinned, .pinned], laidTests := true, laidLooks := .later }
def ShowBackUptoCardSaid : Prop := Claim7.holds Tryz.pinned (.plain (OpenSpec.upto showBackSpec)) showBackUptoCard
end Rows
end Go.Proofs.YtpnlabjgmdhicaaGreatDoor
