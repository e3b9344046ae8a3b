/-
  DERIVED. GIVEN WITH THE SEED: THE CARDS: each row of YtmdjffnelkgmpaaDoorRows.lean that lists a variable, with what it lists TIED to the program's text (the seventh form; the later family's looks); each row that meets fmt, with fmt's text TOLD by the authors' own Lean function (tested against real Go, not proved from fmt's source: count such statements apart). THE CARD IS WHAT COUNTS. Prove the row's statement (the work); the ties are given (YtmdjffnelkgmpaaDoorTie.lean); close each card by the builder's one call (the guide's Derived/Test/ToyasCard.lean, 'card_holds'). Laid BY PROGRAM, IN A SANDBOX (cutbox-door.mjs). By AI agents, Wed Nov 11 2026. No macro, syntax, notation, axiom, sorry.
-/
import Derived.Test.YtmdjffnelkgmpaaDoorRows
import GoSem.ClaimSeven
namespace Go.Proofs.YtmdjffnelkgmpaaDoor
namespace Rows

/-- THE TIED CARD OF 'ossuarylaw22.QueryVars'. -/
def queryVarsCard : Claim7 := { stood := { row := queryVarsRow, standIns := [], harness := (true, "c5f3a3908cfb277727c580aba7268668922e36e7a4a51f5a263d8d3253b27518"), looks := false }, kinds := [], alts := [], laidByText := true, laidKinds := [.data, .pinned], laidTests := true, laidLooks := .later }
def QueryVarsCardSaid : Prop := Claim7.holds Tryd.pinned (.plain (OpenSpec.ofChange queryVarsSpec)) queryVarsCard

/-- THE TIED CARD OF 'ossuarylaw25.FilterKeeps'. -/
def filterKeepsCard : Claim7 := { stood := { row := filterKeepsRow, standIns := [], harness := (true, "c5f3a3908cfb277727c580aba7268668922e36e7a4a51f5a263d8d3253b27518"), looks := false }, kinds := [], alts := [], laidByText := true, laidKinds := [.data, .pinned], laidTests := true, laidLooks := .later }
def FilterKeepsCardSaid : Prop := Claim7.holds Tryd.pinned (.plain (OpenSpec.ofChange filterKeepsSpec)) filterKeepsCard

/-- THE SECOND FORM's CARD OF 'ossuarylaw22.QueryVars'. -/
def queryVarsUptoCard : Claim7 := { stood := { row := queryVarsUptoRow, standIns := [], harness := (true, "c5f3a3908cfb277727c580aba7268668922e36e7a4a51f5a263d8d3253b27518"), looks := false }, kinds := [], alts := [], laidByText := true, laidKinds := [.data, .pinned], laidTests := true, laidLooks := .later }
def QueryVarsUptoCardSaid : Prop := Claim7.holds Tryd.pinned (.plain (OpenSpec.upto queryVarsSpec)) queryVarsUptoCard

/-- THE SECOND FORM's CARD OF 'ossuarylaw25.FilterKeeps'. -/
def filterKeepsUptoCard : Claim7 := { stood := { row := filterKeepsUptoRow, standIns := [], harness := (true, "c5f3a3908cfb277727c580aba7268668922e36e7a4a51f5a263d8d3253b27518"), looks := false }, kinds := [], alts := [], laidByText := true, laidKinds := [.data, .pinned], laidTests := true, laidLooks := .later }
def FilterKeepsUptoCardSaid : Prop := Claim7.holds Tryd.pinned (.plain (OpenSpec.upto filterKeepsSpec)) filterKeepsUptoCard
end Rows
end Go.Proofs.YtmdjffnelkgmpaaDoor
