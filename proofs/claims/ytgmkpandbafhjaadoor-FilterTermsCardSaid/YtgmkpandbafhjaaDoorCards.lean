/-
  DERIVED. GIVEN WITH THE SEED: THE CARDS: each row of YtgmkpandbafhjaaDoorRows.lean that lists a variable, with what it lists TIED to the program's text (the seventh form; the later family's looks); each row that meets fmt, with fmt's text TOLD by the authors' own Lean function (tested against real Go, not proved from fmt's source: count such statements apart). THE CARD IS WHAT COUNTS. Prove the row's statement (the work); the ties are given (YtgmkpandbafhjaaDoorTie.lean); close each card by the builder's one call (the guide's Derived/Test/ToyasCard.lean, 'card_holds'). Laid BY PROGRAM, IN A SANDBOX (cutbox-door.mjs). By AI agents, Wed Nov 11 2026. No macro, syntax, notation, axiom, sorry.
-/
import Derived.Test.YtgmkpandbafhjaaDoorRows
import GoSem.ClaimSeven
namespace Go.Proofs.YtgmkpandbafhjaaDoor
namespace Rows

/-- THE TIED CARD OF 'ossuarylaw25.FilterTables'. -/
def filterTablesCard : Claim7 := { stood := { row := filterTablesRow, standIns := [], harness := (true, "06330d966e5c599ac81bd9647a55aaaa447eb4cbf51f784129bd382febd290f3"), looks := false }, kinds := [], alts := [], laidByText := true, laidKinds := [.data, .pinned], laidTests := true, laidLooks := .later }
def FilterTablesCardSaid : Prop := Claim7.holds Tryd.pinned (.plain (OpenSpec.ofChange filterTablesSpec)) filterTablesCard

/-- THE TIED CARD OF 'ossuarylaw25.FilterTruths'. -/
def filterTruthsCard : Claim7 := { stood := { row := filterTruthsRow, standIns := [], harness := (true, "06330d966e5c599ac81bd9647a55aaaa447eb4cbf51f784129bd382febd290f3"), looks := false }, kinds := [], alts := [], laidByText := true, laidKinds := [.data, .pinned], laidTests := true, laidLooks := .later }
def FilterTruthsCardSaid : Prop := Claim7.holds Tryd.pinned (.plain (OpenSpec.ofChange filterTruthsSpec)) filterTruthsCard

/-- THE TIED CARD OF 'ossuarylaw25.FilterTerms'. -/
def filterTermsCard : Claim7 := { stood := { row := filterTermsRow, standIns := [], harness := (true, "06330d966e5c599ac81bd9647a55aaaa447eb4cbf51f784129bd382febd290f3"), looks := false }, kinds := [], alts := [], laidByText := true, laidKinds := [.data, .pinned], laidTests := true, laidLooks := .later }
def FilterTermsCardSaid : Prop := Claim7.holds Tryd.pinned (.plain (OpenSpec.ofChange filterTermsSpec)) filterTermsCard

/-- THE TIED CARD OF 'ossuarylaw25.FilterKeeps'. -/
def filterKeepsCard : Claim7 := { stood := { row := filterKeepsRow, standIns := [], harness := (true, "06330d966e5c599ac81bd9647a55aaaa447eb4cbf51f784129bd382febd290f3"), looks := false }, kinds := [], alts := [], laidByText := true, laidKinds := [.data, .pinned], laidTests := true, laidLooks := .later }
def FilterKeepsCardSaid : Prop := Claim7.holds Tryd.pinned (.plain (OpenSpec.ofChange filterKeepsSpec)) filterKeepsCard

/-- THE SECOND FORM's CARD OF 'ossuarylaw25.FilterTables'. -/
def filterTablesUptoCard : Claim7 := { stood := { row := filterTablesUptoRow, standIns := [], harness := (true, "06330d966e5c599ac81bd9647a55aaaa447eb4cbf51f784129bd382febd290f3"), looks := false }, kinds := [], alts := [], laidByText := true, laidKinds := [.data, .pinned], laidTests := true, laidLooks := .later }
def FilterTablesUptoCardSaid : Prop := Claim7.holds Tryd.pinned (.plain (OpenSpec.upto filterTablesSpec)) filterTablesUptoCard

/-- THE SECOND FORM's CARD OF 'ossuarylaw25.FilterTruths'. -/
def filterTruthsUptoCard : Claim7 := { stood := { row := filterTruthsUptoRow, standIns := [], harness := (true, "06330d966e5c599ac81bd9647a55aaaa447eb4cbf51f784129bd382febd290f3"), looks := false }, kinds := [], alts := [], laidByText := true, laidKinds := [.data, .pinned], laidTests := true, laidLooks := .later }
def FilterTruthsUptoCardSaid : Prop := Claim7.holds Tryd.pinned (.plain (OpenSpec.upto filterTruthsSpec)) filterTruthsUptoCard

/-- THE SECOND FORM's CARD OF 'ossuarylaw25.FilterTerms'. -/
def filterTermsUptoCard : Claim7 := { stood := { row := filterTermsUptoRow, standIns := [], harness := (true, "06330d966e5c599ac81bd9647a55aaaa447eb4cbf51f784129bd382febd290f3"), looks := false }, kinds := [], alts := [], laidByText := true, laidKinds := [.data, .pinned], laidTests := true, laidLooks := .later }
def FilterTermsUptoCardSaid : Prop := Claim7.holds Tryd.pinned (.plain (OpenSpec.upto filterTermsSpec)) filterTermsUptoCard

/-- THE SECOND FORM's CARD OF 'ossuarylaw25.FilterKeeps'. -/
def filterKeepsUptoCard : Claim7 := { stood := { row := filterKeepsUptoRow, standIns := [], harness := (true, "06330d966e5c599ac81bd9647a55aaaa447eb4cbf51f784129bd382febd290f3"), looks := false }, kinds := [], alts := [], laidByText := true, laidKinds := [.data, .pinned], laidTests := true, laidLooks := .later }
def FilterKeepsUptoCardSaid : Prop := Claim7.holds Tryd.pinned (.plain (OpenSpec.upto filterKeepsSpec)) filterKeepsUptoCard
end Rows
end Go.Proofs.YtgmkpandbafhjaaDoor
