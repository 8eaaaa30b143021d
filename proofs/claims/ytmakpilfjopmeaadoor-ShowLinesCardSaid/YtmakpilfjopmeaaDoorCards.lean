/-
  DERIVED. GIVEN WITH THE SEED: THE CARDS: each row of YtmakpilfjopmeaaDoorRows.lean that lists a variable, with what it lists TIED to the program's text (the seventh form; the later family's looks); each row that meets fmt, with fmt's text TOLD by the authors' own Lean function (tested against real Go, not proved from fmt's source: count such statements apart). THE CARD IS WHAT COUNTS. Prove the row's statement (the work); the ties are given (YtmakpilfjopmeaaDoorTie.lean); close each card by the builder's one call (the guide's Derived/Test/ToyasCard.lean, 'card_holds'). Laid BY PROGRAM, IN A SANDBOX (cutbox-door.mjs). By AI agents, Wed Nov 11 2026. No macro, syntax, notation, axiom, sorry.
-/
import Derived.Test.YtmakpilfjopmeaaDoorRows
import GoSem.ClaimSeven
namespace Go.Proofs.YtmakpilfjopmeaaDoor
namespace Rows

/-- THE TIED CARD OF 'pentimentolaw34.RunsSet'. -/
def runsSetCard : Claim7 := { stood := { row := runsSetRow, standIns := [], harness := (true, "d5dcab1417b0a2f5b371979e13cda36e5a1cd94a43a3338da5cb76774f21f075"), looks := true }, kinds := [], alts := [], laidByText := true, laidKinds := [.data, .data, .data, .data, .sentinel, .sentinel, .pinned], laidTests := true, laidLooks := .later }
def RunsSetCardSaid : Prop := Claim7.holds Tryd.pinned (.plain (OpenSpec.ofChange runsSetSpec)) runsSetCard

/-- THE TIED CARD OF 'pentimentolaw34.RunsParse'. -/
def runsParseCard : Claim7 := { stood := { row := runsParseRow, standIns := [], harness := (true, "d5dcab1417b0a2f5b371979e13cda36e5a1cd94a43a3338da5cb76774f21f075"), looks := true }, kinds := [], alts := [], laidByText := true, laidKinds := [.data, .data, .data, .data, .sentinel, .sentinel, .pinned], laidTests := true, laidLooks := .later }
def RunsParseCardSaid : Prop := Claim7.holds Tryd.pinned (.plain (OpenSpec.ofChange runsParseSpec)) runsParseCard

/-- THE TIED CARD OF 'pentimentolaw34.RunsOf'. -/
def runsOfCard : Claim7 := { stood := { row := runsOfRow, standIns := [], harness := (true, "d5dcab1417b0a2f5b371979e13cda36e5a1cd94a43a3338da5cb76774f21f075"), looks := true }, kinds := [], alts := [], laidByText := true, laidKinds := [.data, .data, .data, .data, .sentinel, .sentinel, .pinned], laidTests := true, laidLooks := .later }
def RunsOfCardSaid : Prop := Claim7.holds Tryd.pinned (.plain (OpenSpec.ofChange runsOfSpec)) runsOfCard

/-- THE TIED CARD OF 'pentimentolaw05.SectorShorts'. -/
def sectorShortsCard : Claim7 := { stood := { row := sectorShortsRow, standIns := [], harness := (true, "d5dcab1417b0a2f5b371979e13cda36e5a1cd94a43a3338da5cb76774f21f075"), looks := true }, kinds := [], alts := [], laidByText := true, laidKinds := [.data, .data, .data, .data, .sentinel, .sentinel, .pinned], laidTests := true, laidLooks := .later }
def SectorShortsCardSaid : Prop := Claim7.holds Tryd.pinned (.plain (OpenSpec.ofChange sectorShortsSpec)) sectorShortsCard

/-- THE TIED CARD OF 'pentimentolaw31.ShowLines'. -/
def showLinesCard : Claim7 := { stood := { row := showLinesRow, standIns := [], harness := (true, "d5dcab1417b0a2f5b371979e13cda36e5a1cd94a43a3338da5cb76774f21f075"), looks := true }, kinds := [], alts := [], laidByText := true, laidKinds := [.data, .data, .data, .data, .sentinel, .sentinel, .pinned], laidTests := true, laidLooks := .later }
def ShowLinesCardSaid : Prop := Claim7.holds Tryd.pinned (.plain (OpenSpec.ofChange showLinesSpec)) showLinesCard

/-- THE TIED CARD OF 'pentimentolaw31.ShowParse'. -/
def showParseCard : Claim7 := { stood := { row := showParseRow, standIns := [], harness := (true, "d5dcab1417b0a2f5b371979e13cda36e5a1cd94a43a3338da5cb76774f21f075"), looks := true }, kinds := [], alts := [], laidByText := true, laidKinds := [.data, .data, .data, .data, .sentinel, .sentinel, .pinned], laidTests := true, laidLooks := .later }
def ShowParseCardSaid : Prop := Claim7.holds Tryd.pinned (.plain (OpenSpec.ofChange showParseSpec)) showParseCard

/-- THE SECOND FORM's CARD OF 'pentimentolaw34.RunsSet'. -/
def runsSetUptoCard : Claim7 := { stood := { row := runsSetUptoRow, standIns := [], harness := (true, "d5dcab1417b0a2f5b371979e13cda36e5a1cd94a43a3338da5cb76774f21f075"), looks := true }, kinds := [], alts := [], laidByText := true, laidKinds := [.data, .data, .data, .data, .sentinel, .sentinel, .pinned], laidTests := true, laidLooks := .later }
def RunsSetUptoCardSaid : Prop := Claim7.holds Tryd.pinned (.plain (OpenSpec.upto runsSetSpec)) runsSetUptoCard

/-- THE SECOND FORM's CARD OF 'pentimentolaw34.RunsParse'. -/
def runsParseUptoCard : Claim7 := { stood := { row := runsParseUptoRow, standIns := [], harness := (true, "d5dcab1417b0a2f5b371979e13cda36e5a1cd94a43a3338da5cb76774f21f075"), looks := true }, kinds := [], alts := [], laidByText := true, laidKinds := [.data, .data, .data, .data, .sentinel, .sentinel, .pinned], laidTests := true, laidLooks := .later }
def RunsParseUptoCardSaid : Prop := Claim7.holds Tryd.pinned (.plain (OpenSpec.upto runsParseSpec)) runsParseUptoCard

/-- THE SECOND FORM's CARD OF 'pentimentolaw34.RunsOf'. -/
def runsOfUptoCard : Claim7 := { stood := { row := runsOfUptoRow, standIns := [], harness := (true, "d5dcab1417b0a2f5b371979e13cda36e5a1cd94a43a3338da5cb76774f21f075"), looks := true }, kinds := [], alts := [], laidByText := true, laidKinds := [.data, .data, .data, .data, .sentinel, .sentinel, .pinned], laidTests := true, laidLooks := .later }
def RunsOfUptoCardSaid : Prop := Claim7.holds Tryd.pinned (.plain (OpenSpec.upto runsOfSpec)) runsOfUptoCard

/-- THE SECOND FORM's CARD OF 'pentimentolaw05.SectorShorts'. -/
def sectorShortsUptoCard : Claim7 := { stood := { row := sectorShortsUptoRow, standIns := [], harness := (true, "d5dcab1417b0a2f5b371979e13cda36e5a1cd94a43a3338da5cb76774f21f075"), looks := true }, kinds := [], alts := [], laidByText := true, laidKinds := [.data, .data, .data, .data, .sentinel, .sentinel, .pinned], laidTests := true, laidLooks := .later }
def SectorShortsUptoCardSaid : Prop := Claim7.holds Tryd.pinned (.plain (OpenSpec.upto sectorShortsSpec)) sectorShortsUptoCard

/-- THE SECOND FORM's CARD OF 'pentimentolaw31.ShowLines'. -/
def showLinesUptoCard : Claim7 := { stood := { row := showLinesUptoRow, standIns := [], harness := (true, "d5dcab1417b0a2f5b371979e13cda36e5a1cd94a43a3338da5cb76774f21f075"), looks := true }, kinds := [], alts := [], laidByText := true, laidKinds := [.data, .data, .data, .data, .sentinel, .sentinel, .pinned], laidTests := true, laidLooks := .later }
def ShowLinesUptoCardSaid : Prop := Claim7.holds Tryd.pinned (.plain (OpenSpec.upto showLinesSpec)) showLinesUptoCard

/-- THE SECOND FORM's CARD OF 'pentimentolaw31.ShowParse'. -/
def showParseUptoCard : Claim7 := { stood := { row := showParseUptoRow, standIns := [], harness := (true, "d5dcab1417b0a2f5b371979e13cda36e5a1cd94a43a3338da5cb76774f21f075"), looks := true }, kinds := [], alts := [], laidByText := true, laidKinds := [.data, .data, .data, .data, .sentinel, .sentinel, .pinned], laidTests := true, laidLooks := .later }
def ShowParseUptoCardSaid : Prop := Claim7.holds Tryd.pinned (.plain (OpenSpec.upto showParseSpec)) showParseUptoCard
end Rows
end Go.Proofs.YtmakpilfjopmeaaDoor
