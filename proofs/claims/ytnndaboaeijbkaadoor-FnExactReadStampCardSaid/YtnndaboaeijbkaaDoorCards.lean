/-
  DERIVED. GIVEN WITH THE SEED: THE CARDS: each row of YtnndaboaeijbkaaDoorRows.lean that lists a variable, with what it lists TIED to the program's text (the seventh form; the later family's looks); each row that meets fmt, with fmt's text TOLD by the authors' own Lean function (tested against real Go, not proved from fmt's source: count such statements apart). THE CARD IS WHAT COUNTS. Prove the row's statement (the work); the ties are given (YtnndaboaeijbkaaDoorTie.lean); close each card by the builder's one call (the guide's Derived/Test/ToyasCard.lean, 'card_holds'). Laid BY PROGRAM, IN A SANDBOX (cutbox-door.mjs). By AI agents, Wed Nov 11 2026. No macro, syntax, notation, axiom, sorry.
-/
import Derived.Test.YtnndaboaeijbkaaDoorRows
import GoSem.ClaimSeven
namespace Go.Proofs.YtnndaboaeijbkaaDoor
namespace Rows

/-- THE TIED CARD OF 'laws.FnExactIsStamp'. -/
def fnExactIsStampCard : Claim7 := { stood := { row := fnExactIsStampRow, standIns := [], harness := (true, "6a66824ff6ffbfc6ba8248bc6c066079fe1e0e5a6c55019de943e158c118e62f"), looks := false }, kinds := [], alts := [], laidByText := true, laidKinds := [.data, .data, .data], laidTests := true, laidLooks := .later }
def FnExactIsStampCardSaid : Prop := Claim7.holds Tryd.pinned (.plain (OpenSpec.ofChange fnExactIsStampSpec)) fnExactIsStampCard

/-- THE TIED CARD OF 'laws.FnExactReadStamp'. -/
def fnExactReadStampCard : Claim7 := { stood := { row := fnExactReadStampRow, standIns := [], harness := (true, "6a66824ff6ffbfc6ba8248bc6c066079fe1e0e5a6c55019de943e158c118e62f"), looks := false }, kinds := [], alts := [], laidByText := true, laidKinds := [.data, .data, .data], laidTests := true, laidLooks := .later }
def FnExactReadStampCardSaid : Prop := Claim7.holds Tryd.pinned (.plain (OpenSpec.ofChange fnExactReadStampSpec)) fnExactReadStampCard

/-- THE TIED CARD OF 'laws.FnExactMoveSecret'. -/
def fnExactMoveSecretCard : Claim7 := { stood := { row := fnExactMoveSecretRow, standIns := [], harness := (true, "6a66824ff6ffbfc6ba8248bc6c066079fe1e0e5a6c55019de943e158c118e62f"), looks := false }, kinds := [], alts := [], laidByText := true, laidKinds := [.data, .data, .data], laidTests := true, laidLooks := .later }
def FnExactMoveSecretCardSaid : Prop := Claim7.holds Tryd.pinned (.plain (OpenSpec.ofChange fnExactMoveSecretSpec)) fnExactMoveSecretCard

/-- THE TIED CARD OF 'laws.FnExactStampOf'. -/
def fnExactStampOfCard : Claim7 := { stood := { row := fnExactStampOfRow, standIns := [], harness := (true, "6a66824ff6ffbfc6ba8248bc6c066079fe1e0e5a6c55019de943e158c118e62f"), looks := false }, kinds := [], alts := [], laidByText := true, laidKinds := [.data, .data, .data], laidTests := true, laidLooks := .later }
def FnExactStampOfCardSaid : Prop := Claim7.holds Tryd.pinned (.plain (OpenSpec.ofChange fnExactStampOfSpec)) fnExactStampOfCard

/-- THE SECOND FORM's CARD OF 'laws.FnExactIsStamp'. -/
def fnExactIsStampUptoCard : Claim7 := { stood := { row := fnExactIsStampUptoRow, standIns := [], harness := (true, "6a66824ff6ffbfc6ba8248bc6c066079fe1e0e5a6c55019de943e158c118e62f"), looks := false }, kinds := [], alts := [], laidByText := true, laidKinds := [.data, .data, .data], laidTests := true, laidLooks := .later }
def FnExactIsStampUptoCardSaid : Prop := Claim7.holds Tryd.pinned (.plain (OpenSpec.upto fnExactIsStampSpec)) fnExactIsStampUptoCard

/-- THE SECOND FORM's CARD OF 'laws.FnExactReadStamp'. -/
def fnExactReadStampUptoCard : Claim7 := { stood := { row := fnExactReadStampUptoRow, standIns := [], harness := (true, "6a66824ff6ffbfc6ba8248bc6c066079fe1e0e5a6c55019de943e158c118e62f"), looks := false }, kinds := [], alts := [], laidByText := true, laidKinds := [.data, .data, .data], laidTests := true, laidLooks := .later }
def FnExactReadStampUptoCardSaid : Prop := Claim7.holds Tryd.pinned (.plain (OpenSpec.upto fnExactReadStampSpec)) fnExactReadStampUptoCard

/-- THE SECOND FORM's CARD OF 'laws.FnExactMoveSecret'. -/
def fnExactMoveSecretUptoCard : Claim7 := { stood := { row := fnExactMoveSecretUptoRow, standIns := [], harness := (true, "6a66824ff6ffbfc6ba8248bc6c066079fe1e0e5a6c55019de943e158c118e62f"), looks := false }, kinds := [], alts := [], laidByText := true, laidKinds := [.data, .data, .data], laidTests := true, laidLooks := .later }
def FnExactMoveSecretUptoCardSaid : Prop := Claim7.holds Tryd.pinned (.plain (OpenSpec.upto fnExactMoveSecretSpec)) fnExactMoveSecretUptoCard

/-- THE SECOND FORM's CARD OF 'laws.FnExactStampOf'. -/
def fnExactStampOfUptoCard : Claim7 := { stood := { row := fnExactStampOfUptoRow, standIns := [], harness := (true, "6a66824ff6ffbfc6ba8248bc6c066079fe1e0e5a6c55019de943e158c118e62f"), looks := false }, kinds := [], alts := [], laidByText := true, laidKinds := [.data, .data, .data], laidTests := true, laidLooks := .later }
def FnExactStampOfUptoCardSaid : Prop := Claim7.holds Tryd.pinned (.plain (OpenSpec.upto fnExactStampOfSpec)) fnExactStampOfUptoCard
end Rows
end Go.Proofs.YtnndaboaeijbkaaDoor
