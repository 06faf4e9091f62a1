/-
  DERIVED. GIVEN WITH THE SEED: THE CARDS: each row of YtkeikjedbfomnaaGreatDoorRows.lean that lists a variable, with what it lists TIED to the program's text (the seventh form; the later family's looks); each row that meets fmt, with fmt's text TOLD by the authors' own Lean function (tested against real Go, not proved from fmt's source: count such statements apart). THE CARD IS WHAT COUNTS. Prove the row's statement (the work); the ties are given (YtkeikjedbfomnaaGreatDoorTie.lean); close each card by the builder's one call (the guide's Derived/Test/ToyasCard.lean, 'card_holds'). Laid BY PROGRAM, IN A SANDBOX (cutbox-door.mjs). By AI agents, Wed Nov 11 2026. No macro, syntax, notation, axiom, sorry.
-/
import Derived.Test.YtkeikjedbfomnaaGreatDoorRows
import GoSem.ClaimSeven
namespace Go.Proofs.YtkeikjedbfomnaaGreatDoor
namespace Rows

/-- THE TIED CARD OF 'laws.FnExactReadChart'. -/
def fnExactReadChartCard : Claim7 := { stood := { row := fnExactReadChartRow, standIns := [], harness := (true, "9effc37e08b841ed75a87bc5a453ebf27b5c9843acbfd5aa5c275da480ae9426"), looks := true }, kinds := [], alts := [], laidByText := true, laidKinds := [.data, .data, .data, .data, .sentinel, .sentinel, .pinned], laidTests := true, laidLooks := .later }
def FnExactReadChartCardSaid : Prop := Claim7.holds Tryz.pinned (.plain (OpenSpec.ofChange fnExactReadChartSpec)) fnExactReadChartCard

/-- THE TIED CARD OF 'laws.FnCharts'. -/
def fnChartsCard : Claim7 := { stood := { row := fnChartsRow, standIns := [], harness := (true, "9effc37e08b841ed75a87bc5a453ebf27b5c9843acbfd5aa5c275da480ae9426"), looks := true }, kinds := [], alts := [], laidByText := true, laidKinds := [.data, .data, .data, .data, .sentinel, .sentinel, .pinned], laidTests := true, laidLooks := .later }
def FnChartsCardSaid : Prop := Claim7.holds Tryz.pinned (.plain (OpenSpec.ofChange fnChartsSpec)) fnChartsCard

/-- THE SECOND FORM's CARD OF 'laws.FnExactReadChart'. -/
def fnExactReadChartUptoCard : Claim7 := { stood := { row := fnExactReadChartUptoRow, standIns := [], harness := (true, "9effc37e08b841ed75a87bc5a453ebf27b5c9843acbfd5aa5c275da480ae9426"), looks := true }, kinds := [], alts := [], laidByText := true, laidKinds := [.data, .data, .data, .data, .sentinel, .sentinel, .pinned], laidTests := true, laidLooks := .later }
def FnExactReadChartUptoCardSaid : Prop := Claim7.holds Tryz.pinned (.plain (OpenSpec.upto fnExactReadChartSpec)) fnExactReadChartUptoCard

/-- THE SECOND FORM's CARD OF 'laws.FnCharts'. -/
def fnChartsUptoCard : Claim7 := { stood := { row := fnChartsUptoRow, standIns := [], harness := (true, "9effc37e08b841ed75a87bc5a453ebf27b5c9843acbfd5aa5c275da480ae9426"), looks := true }, kinds := [], alts := [], laidByText := true, laidKinds := [.data, .data, .data, .data, .sentinel, .sentinel, .pinned], laidTests := true, laidLooks := .later }
def FnChartsUptoCardSaid : Prop := Claim7.holds Tryz.pinned (.plain (OpenSpec.upto fnChartsSpec)) fnChartsUptoCard
end Rows
end Go.Proofs.YtkeikjedbfomnaaGreatDoor
