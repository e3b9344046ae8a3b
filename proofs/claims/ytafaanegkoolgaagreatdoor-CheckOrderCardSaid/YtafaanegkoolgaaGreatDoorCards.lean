/-
  DERIVED. GIVEN WITH THE SEED: THE CARDS: each row of YtafaanegkoolgaaGreatDoorRows.lean that lists a variable, with what it lists TIED to the program's text (the seventh form; the later family's looks); each row that meets fmt, with fmt's text TOLD by the authors' own Lean function (tested against real Go, not proved from fmt's source: count such statements apart). THE CARD IS WHAT COUNTS. Prove the row's statement (the work); the ties are given (YtafaanegkoolgaaGreatDoorTie.lean); close each card by the builder's one call (the guide's Derived/Test/ToyasCard.lean, 'card_holds'). Laid BY PROGRAM, IN A SANDBOX (cutbox-door.mjs). By AI agents, Wed Nov 11 2026. No macro, syntax, notation, axiom, sorry.
-/
import Derived.Test.YtafaanegkoolgaaGreatDoorRows
import GoSem.ClaimSeven
namespace Go.Proofs.YtafaanegkoolgaaGreatDoor
namespace Rows

/-- THE TIED CARD OF 'ossuarylaw22.QuerySame'. -/
def querySameCard : Claim7 := { stood := { row := querySameRow, standIns := [], harness := (true, "509d510803dbc63cf1febb4e407472c9798dd3d3d686d518716b239e1126a06d"), looks := false }, kinds := [], alts := [], laidByText := true, laidKinds := [.data, .pinned], laidTests := true, laidLooks := .later }
def QuerySameCardSaid : Prop := Claim7.holds Tryz.pinned (.plain (OpenSpec.ofChange querySameSpec)) querySameCard

/-- THE TIED CARD OF 'ossuarylaw25.FilterSmall'. -/
def filterSmallCard : Claim7 := { stood := { row := filterSmallRow, standIns := [], harness := (true, "509d510803dbc63cf1febb4e407472c9798dd3d3d686d518716b239e1126a06d"), looks := false }, kinds := [], alts := [], laidByText := true, laidKinds := [.data, .pinned], laidTests := true, laidLooks := .later }
def FilterSmallCardSaid : Prop := Claim7.holds Tryz.pinned (.plain (OpenSpec.ofChange filterSmallSpec)) filterSmallCard

/-- THE TIED CARD OF 'ossuarylaw24.CheckOrder'. -/
def checkOrderCard : Claim7 := { stood := { row := checkOrderRow, standIns := [], harness := (true, "509d510803dbc63cf1febb4e407472c9798dd3d3d686d518716b239e1126a06d"), looks := false }, kinds := [], alts := [], laidByText := true, laidKinds := [.data, .pinned], laidTests := true, laidLooks := .later }
def CheckOrderCardSaid : Prop := Claim7.holds Tryz.pinned (.plain (OpenSpec.ofChange checkOrderSpec)) checkOrderCard

/-- THE TIED CARD OF 'ossuarylaw24.CheckTells'. -/
def checkTellsCard : Claim7 := { stood := { row := checkTellsRow, standIns := [], harness := (true, "509d510803dbc63cf1febb4e407472c9798dd3d3d686d518716b239e1126a06d"), looks := false }, kinds := [], alts := [], laidByText := true, laidKinds := [.data, .pinned], laidTests := true, laidLooks := .later }
def CheckTellsCardSaid : Prop := Claim7.holds Tryz.pinned (.plain (OpenSpec.ofChange checkTellsSpec)) checkTellsCard

/-- THE TIED CARD OF 'ossuarylaw24.CheckSmall'. -/
def checkSmallCard : Claim7 := { stood := { row := checkSmallRow, standIns := [], harness := (true, "509d510803dbc63cf1febb4e407472c9798dd3d3d686d518716b239e1126a06d"), looks := false }, kinds := [], alts := [], laidByText := true, laidKinds := [.data, .pinned], laidTests := true, laidLooks := .later }
def CheckSmallCardSaid : Prop := Claim7.holds Tryz.pinned (.plain (OpenSpec.ofChange checkSmallSpec)) checkSmallCard

/-- THE TIED CARD OF 'ossuarylaw24.CheckNeeds'. -/
def checkNeedsCard : Claim7 := { stood := { row := checkNeedsRow, standIns := [], harness := (true, "509d510803dbc63cf1febb4e407472c9798dd3d3d686d518716b239e1126a06d"), looks := false }, kinds := [], alts := [], laidByText := true, laidKinds := [.data, .pinned], laidTests := true, laidLooks := .later }
def CheckNeedsCardSaid : Prop := Claim7.holds Tryz.pinned (.plain (OpenSpec.ofChange checkNeedsSpec)) checkNeedsCard

/-- THE SECOND FORM's CARD OF 'ossuarylaw22.QuerySame'. -/
def querySameUptoCard : Claim7 := { stood := { row := querySameUptoRow, standIns := [], harness := (true, "509d510803dbc63cf1febb4e407472c9798dd3d3d686d518716b239e1126a06d"), looks := false }, kinds := [], alts := [], laidByText := true, laidKinds := [.data, .pinned], laidTests := true, laidLooks := .later }
def QuerySameUptoCardSaid : Prop := Claim7.holds Tryz.pinned (.plain (OpenSpec.upto querySameSpec)) querySameUptoCard

/-- THE SECOND FORM's CARD OF 'ossuarylaw25.FilterSmall'. -/
def filterSmallUptoCard : Claim7 := { stood := { row := filterSmallUptoRow, standIns := [], harness := (true, "509d510803dbc63cf1febb4e407472c9798dd3d3d686d518716b239e1126a06d"), looks := false }, kinds := [], alts := [], laidByText := true, laidKinds := [.data, .pinned], laidTests := true, laidLooks := .later }
def FilterSmallUptoCardSaid : Prop := Claim7.holds Tryz.pinned (.plain (OpenSpec.upto filterSmallSpec)) filterSmallUptoCard

/-- THE SECOND FORM's CARD OF 'ossuarylaw24.CheckOrder'. -/
def checkOrderUptoCard : Claim7 := { stood := { row := checkOrderUptoRow, standIns := [], harness := (true, "509d510803dbc63cf1febb4e407472c9798dd3d3d686d518716b239e1126a06d"), looks := false }, kinds := [], alts := [], laidByText := true, laidKinds := [.data, .pinned], laidTests := true, laidLooks := .later }
def CheckOrderUptoCardSaid : Prop := Claim7.holds Tryz.pinned (.plain (OpenSpec.upto checkOrderSpec)) checkOrderUptoCard

/-- THE SECOND FORM's CARD OF 'ossuarylaw24.CheckTells'. -/
def checkTellsUptoCard : Claim7 := { stood := { row := checkTellsUptoRow, standIns := [], harness := (true, "509d510803dbc63cf1febb4e407472c9798dd3d3d686d518716b239e1126a06d"), looks := false }, kinds := [], alts := [], laidByText := true, laidKinds := [.data, .pinned], laidTests := true, laidLooks := .later }
def CheckTellsUptoCardSaid : Prop := Claim7.holds Tryz.pinned (.plain (OpenSpec.upto checkTellsSpec)) checkTellsUptoCard

/-- THE SECOND FORM's CARD OF 'ossuarylaw24.CheckSmall'. -/
def checkSmallUptoCard : Claim7 := { stood := { row := checkSmallUptoRow, standIns := [], harness := (true, "509d510803dbc63cf1febb4e407472c9798dd3d3d686d518716b239e1126a06d"), looks := false }, kinds := [], alts := [], laidByText := true, laidKinds := [.data, .pinned], laidTests := true, laidLooks := .later }
def CheckSmallUptoCardSaid : Prop := Claim7.holds Tryz.pinned (.plain (OpenSpec.upto checkSmallSpec)) checkSmallUptoCard

/-- THE SECOND FORM's CARD OF 'ossuarylaw24.CheckNeeds'. -/
def checkNeedsUptoCard : Claim7 := { stood := { row := checkNeedsUptoRow, standIns := [], harness := (true, "509d510803dbc63cf1febb4e407472c9798dd3d3d686d518716b239e1126a06d"), looks := false }, kinds := [], alts := [], laidByText := true, laidKinds := [.data, .pinned], laidTests := true, laidLooks := .later }
def CheckNeedsUptoCardSaid : Prop := Claim7.holds Tryz.pinned (.plain (OpenSpec.upto checkNeedsSpec)) checkNeedsUptoCard
end Rows
end Go.Proofs.YtafaanegkoolgaaGreatDoor
