/-
  DERIVED. GIVEN WITH THE SEED: THE CARDS: each row of YtpcgbfogkcbddaaGreatDoorRows.lean that lists a variable, with what it lists TIED to the program's text (the seventh form; the later family's looks); each row that meets fmt, with fmt's text TOLD by the authors' own Lean function (tested against real Go, not proved from fmt's source: count such statements apart). THE CARD IS WHAT COUNTS. Prove the row's statement (the work); the ties are given (YtpcgbfogkcbddaaGreatDoorTie.lean); close each card by the builder's one call (the guide's Derived/Test/ToyasCard.lean, 'card_holds'). Laid BY PROGRAM, IN A SANDBOX (cutbox-door.mjs). By AI agents, Wed Nov 11 2026. No macro, syntax, notation, axiom, sorry.
-/
import Derived.Test.YtpcgbfogkcbddaaGreatDoorRows
import GoSem.ClaimSeven
namespace Go.Proofs.YtpcgbfogkcbddaaGreatDoor
namespace Rows

/-- THE TIED CARD OF 'laws.FnExactKeyLine'. -/
def fnExactKeyLineCard : Claim7 := { stood := { row := fnExactKeyLineRow, standIns := [], harness := (true, "bdfea9a0f3d32daa681c4fd705f72da2e36c6970e3e572eca559f6b8f7f378aa"), looks := true }, kinds := [], alts := [], laidByText := true, laidKinds := [.data, .data, .data], laidTests := true, laidLooks := .later }
def FnExactKeyLineCardSaid : Prop := Claim7.holds Tryz.pinned (.plain (OpenSpec.ofChange fnExactKeyLineSpec)) fnExactKeyLineCard

/-- THE TIED CARD OF 'laws.FnExactDoorLine'. -/
def fnExactDoorLineCard : Claim7 := { stood := { row := fnExactDoorLineRow, standIns := [], harness := (true, "bdfea9a0f3d32daa681c4fd705f72da2e36c6970e3e572eca559f6b8f7f378aa"), looks := true }, kinds := [], alts := [], laidByText := true, laidKinds := [.data, .data, .data], laidTests := true, laidLooks := .later }
def FnExactDoorLineCardSaid : Prop := Claim7.holds Tryz.pinned (.plain (OpenSpec.ofChange fnExactDoorLineSpec)) fnExactDoorLineCard

/-- THE TIED CARD OF 'laws.FnExactChartText'. -/
def fnExactChartTextCard : Claim7 := { stood := { row := fnExactChartTextRow, standIns := [], harness := (true, "bdfea9a0f3d32daa681c4fd705f72da2e36c6970e3e572eca559f6b8f7f378aa"), looks := true }, kinds := [], alts := [], laidByText := true, laidKinds := [.data, .data, .data], laidTests := true, laidLooks := .later }
def FnExactChartTextCardSaid : Prop := Claim7.holds Tryz.pinned (.plain (OpenSpec.ofChange fnExactChartTextSpec)) fnExactChartTextCard

/-- THE TIED CARD OF 'laws.FnExactReadChart'. -/
def fnExactReadChartCard : Claim7 := { stood := { row := fnExactReadChartRow, standIns := [], harness := (true, "bdfea9a0f3d32daa681c4fd705f72da2e36c6970e3e572eca559f6b8f7f378aa"), looks := true }, kinds := [], alts := [], laidByText := true, laidKinds := [.data, .data, .data, .data, .sentinel, .sentinel, .pinned], laidTests := true, laidLooks := .later }
def FnExactReadChartCardSaid : Prop := Claim7.holds Tryz.pinned (.plain (OpenSpec.ofChange fnExactReadChartSpec)) fnExactReadChartCard

/-- THE TIED CARD OF 'laws.FnChartLines'. -/
def fnChartLinesCard : Claim7 := { stood := { row := fnChartLinesRow, standIns := [], harness := (true, "bdfea9a0f3d32daa681c4fd705f72da2e36c6970e3e572eca559f6b8f7f378aa"), looks := true }, kinds := [], alts := [], laidByText := true, laidKinds := [.data, .data, .data, .data, .pinned], laidTests := true, laidLooks := .later }
def FnChartLinesCardSaid : Prop := Claim7.holds Tryz.pinned (.plain (OpenSpec.ofChange fnChartLinesSpec)) fnChartLinesCard

/-- THE TIED CARD OF 'laws.FnCharts'. -/
def fnChartsCard : Claim7 := { stood := { row := fnChartsRow, standIns := [], harness := (true, "bdfea9a0f3d32daa681c4fd705f72da2e36c6970e3e572eca559f6b8f7f378aa"), looks := true }, kinds := [], alts := [], laidByText := true, laidKinds := [.data, .data, .data, .data, .sentinel, .sentinel, .pinned], laidTests := true, laidLooks := .later }
def FnChartsCardSaid : Prop := Claim7.holds Tryz.pinned (.plain (OpenSpec.ofChange fnChartsSpec)) fnChartsCard

/-- THE SECOND FORM's CARD OF 'laws.FnExactKeyLine'. -/
def fnExactKeyLineUptoCard : Claim7 := { stood := { row := fnExactKeyLineUptoRow, standIns := [], harness := (true, "bdfea9a0f3d32daa681c4fd705f72da2e36c6970e3e572eca559f6b8f7f378aa"), looks := true }, kinds := [], alts := [], laidByText := true, laidKinds := [.data, .data, .data], laidTests := true, laidLooks := .later }
def FnExactKeyLineUptoCardSaid : Prop := Claim7.holds Tryz.pinned (.plain (OpenSpec.upto fnExactKeyLineSpec)) fnExactKeyLineUptoCard

/-- THE SECOND FORM's CARD OF 'laws.FnExactDoorLine'. -/
def fnExactDoorLineUptoCard : Claim7 := { stood := { row := fnExactDoorLineUptoRow, standIns := [], harness := (true, "bdfea9a0f3d32daa681c4fd705f72da2e36c6970e3e572eca559f6b8f7f378aa"), looks := true }, kinds := [], alts := [], laidByText := true, laidKinds := [.data, .data, .data], laidTests := true, laidLooks := .later }
def FnExactDoorLineUptoCardSaid : Prop := Claim7.holds Tryz.pinned (.plain (OpenSpec.upto fnExactDoorLineSpec)) fnExactDoorLineUptoCard

/-- THE SECOND FORM's CARD OF 'laws.FnExactChartText'. -/
def fnExactChartTextUptoCard : Claim7 := { stood := { row := fnExactChartTextUptoRow, standIns := [], harness := (true, "bdfea9a0f3d32daa681c4fd705f72da2e36c6970e3e572eca559f6b8f7f378aa"), looks := true }, kinds := [], alts := [], laidByText := true, laidKinds := [.data, .data, .data], laidTests := true, laidLooks := .later }
def FnExactChartTextUptoCardSaid : Prop := Claim7.holds Tryz.pinned (.plain (OpenSpec.upto fnExactChartTextSpec)) fnExactChartTextUptoCard

/-- THE SECOND FORM's CARD OF 'laws.FnExactReadChart'. -/
def fnExactReadChartUptoCard : Claim7 := { stood := { row := fnExactReadChartUptoRow, standIns := [], harness := (true, "bdfea9a0f3d32daa681c4fd705f72da2e36c6970e3e572eca559f6b8f7f378aa"), looks := true }, kinds := [], alts := [], laidByText := true, laidKinds := [.data, .data, .data, .data, .sentinel, .sentinel, .pinned], laidTests := true, laidLooks := .later }
def FnExactReadChartUptoCardSaid : Prop := Claim7.holds Tryz.pinned (.plain (OpenSpec.upto fnExactReadChartSpec)) fnExactReadChartUptoCard

/-- THE SECOND FORM's CARD OF 'laws.FnChartLines'. -/
def fnChartLinesUptoCard : Claim7 := { stood := { row := fnChartLinesUptoRow, standIns := [], harness := (true, "bdfea9a0f3d32daa681c4fd705f72da2e36c6970e3e572eca559f6b8f7f378aa"), looks := true }, kinds := [], alts := [], laidByText := true, laidKinds := [.data, .data, .data, .data, .pinned], laidTests := true, laidLooks := .later }
def FnChartLinesUptoCardSaid : Prop := Claim7.holds Tryz.pinned (.plain (OpenSpec.upto fnChartLinesSpec)) fnChartLinesUptoCard

/-- THE SECOND FORM's CARD OF 'laws.FnCharts'. -/
def fnChartsUptoCard : Claim7 := { stood := { row := fnChartsUptoRow, standIns := [], harness := (true, "bdfea9a0f3d32daa681c4fd705f72da2e36c6970e3e572eca559f6b8f7f378aa"), looks := true }, kinds := [], alts := [], laidByText := true, laidKinds := [.data, .data, .data, .data, .sentinel, .sentinel, .pinned], laidTests := true, laidLooks := .later }
def FnChartsUptoCardSaid : Prop := Claim7.holds Tryz.pinned (.plain (OpenSpec.upto fnChartsSpec)) fnChartsUptoCard
end Rows
end Go.Proofs.YtpcgbfogkcbddaaGreatDoor
