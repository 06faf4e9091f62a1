/-
  DERIVED. GIVEN WITH THE SEED: THE CARDS: each row of YtejaobbdcnnknaaDoorRows.lean that lists a variable, with what it lists TIED to the program's text (the seventh form; the later family's looks); each row that meets fmt, with fmt's text TOLD by the authors' own Lean function (tested against real Go, not proved from fmt's source: count such statements apart). THE CARD IS WHAT COUNTS. Prove the row's statement (the work); the ties are given (YtejaobbdcnnknaaDoorTie.lean); close each card by the builder's one call (the guide's Derived/Test/ToyasCard.lean, 'card_holds'). Laid BY PROGRAM, IN A SANDBOX (cutbox-door.mjs). By AI agents, Wed Nov 11 2026. No macro, syntax, notation, axiom, sorry.
-/
import Derived.Test.YtejaobbdcnnknaaDoorRows
import GoSem.ClaimSeven
namespace Go.Proofs.YtejaobbdcnnknaaDoor
namespace Rows

/-- THE TIED CARD OF 'laws.FnExactSameChart'. -/
def fnExactSameChartCard : Claim7 := { stood := { row := fnExactSameChartRow, standIns := [], harness := (true, "6c0c2a6f246dc08fdedd4a570f55c18167744d3cdf138aca0164e7e85a5a1c85"), looks := false }, kinds := [], alts := [], laidByText := true, laidKinds := [.data, .pinned], laidTests := true, laidLooks := .later }
def FnExactSameChartCardSaid : Prop := Claim7.holds Tryd.pinned (.plain (OpenSpec.ofChange fnExactSameChartSpec)) fnExactSameChartCard

/-- THE TIED CARD OF 'laws.FnExactStampWidth'. -/
def fnExactStampWidthCard : Claim7 := { stood := { row := fnExactStampWidthRow, standIns := [], harness := (true, "6c0c2a6f246dc08fdedd4a570f55c18167744d3cdf138aca0164e7e85a5a1c85"), looks := false }, kinds := [], alts := [], laidByText := true, laidKinds := [.data, .data, .data], laidTests := true, laidLooks := .later }
def FnExactStampWidthCardSaid : Prop := Claim7.holds Tryd.pinned (.plain (OpenSpec.ofChange fnExactStampWidthSpec)) fnExactStampWidthCard

/-- THE SECOND FORM's CARD OF 'laws.FnExactSameChart'. -/
def fnExactSameChartUptoCard : Claim7 := { stood := { row := fnExactSameChartUptoRow, standIns := [], harness := (true, "6c0c2a6f246dc08fdedd4a570f55c18167744d3cdf138aca0164e7e85a5a1c85"), looks := false }, kinds := [], alts := [], laidByText := true, laidKinds := [.data, .pinned], laidTests := true, laidLooks := .later }
def FnExactSameChartUptoCardSaid : Prop := Claim7.holds Tryd.pinned (.plain (OpenSpec.upto fnExactSameChartSpec)) fnExactSameChartUptoCard

/-- THE SECOND FORM's CARD OF 'laws.FnExactStampWidth'. -/
def fnExactStampWidthUptoCard : Claim7 := { stood := { row := fnExactStampWidthUptoRow, standIns := [], harness := (true, "6c0c2a6f246dc08fdedd4a570f55c18167744d3cdf138aca0164e7e85a5a1c85"), looks := false }, kinds := [], alts := [], laidByText := true, laidKinds := [.data, .data, .data], laidTests := true, laidLooks := .later }
def FnExactStampWidthUptoCardSaid : Prop := Claim7.holds Tryd.pinned (.plain (OpenSpec.upto fnExactStampWidthSpec)) fnExactStampWidthUptoCard
end Rows
end Go.Proofs.YtejaobbdcnnknaaDoor
