/-
  No cell of these rows narrows 'for every input' (looked for: loops, veiled, ifaces, maps, wideKeys, modest, calm, conditions, laid).
  DERIVED. THE GIVEN ROWS OF THIS SEAT. 9 by the template 'for every input the law returns true; each argument reads behind the call as it read before'; 0 by the template 'total and deterministic' (their statements: YtegmognpofcfiaaGreatTotals.lean).
  GIVEN WITH THE SEED: the statements are not yours to turn. If you find one false, say at which input.
  Laid BY PROGRAM, IN A SANDBOX (cutbox-rows.mjs): the forced cells as the released guide's own fill.sh prints them over the translation 6dca9480ebc0dd10… (all of the seat's roots in one cut). By AI agents, Wed Nov 11 2026. No macro, syntax, notation, axiom, sorry.
-/
import Derived.Test.YtegmognpofcfiaaGreatChecked
import GoSem.Claim
import GoSem.ClaimJoined
import GoSem.ClaimMapViews
import Derived.JoinedTies
import Derived.KernelRfl
namespace Go.Proofs.YtegmognpofcfiaaGreat
/- THE CELL 'sum', in the pinned program and in every row, IS THE sha256 OF THE DUMP (.gsa) THAT YtegmognpofcfiaaGreatProg.lean LOADS. Nothing in Lean hashes anything: it is a label: what it is worth is what the hold of that sum in a sandbox is worth. -/
noncomputable def Tryz.pinned : Pinned := { name := "ytegmognpofcfiaagreat", sum := "6dca9480ebc0dd101e63e656468ed088ce0b44433a5a19d83b15f07dd8909b0d", checked := Tryz.checked }
namespace Rows
def none {H : Type} : Left H := { results := [], args := [] }

/-- 'laws.FnCosts': WHATEVER THE INPUT: true; the input reads as it did. -/
def fnCostsSpec : ChangeSpec := { name := "fnCosts", fn := fun _ => fun
  | [d] => { results := [.lit (.bool true)], args := [d] }
  | _ => none }
def fnCostsRow : OpenClaim := { program := "ytegmognpofcfiaagreat", sum := "6dca9480ebc0dd101e63e656468ed088ce0b44433a5a19d83b15f07dd8909b0d", func := "loop.example/g00947/laws.FnCosts", spec := "fnCosts", unfollowed := true, recurses := true, apart := false }
def FnCostsSaid : Prop := fnCostsRow.holds Tryz.pinned (OpenSpec.ofChange fnCostsSpec)

/-- ITS FALSE NEIGHBOUR: 'it returns false'. Refute it at one input. -/
def fnCostsWrong : ChangeSpec := { name := "fnCosts", fn := fun _ => fun
  | [d] => { results := [.lit (.bool false)], args := [d] }
  | _ => none }
def FnCostsWrongFalsely : Prop := fnCostsRow.holds Tryz.pinned (OpenSpec.ofChange fnCostsWrong)

/-- 'laws.FnChanged': WHATEVER THE INPUT: true; the input reads as it did. -/
def fnChangedSpec : ChangeSpec := { name := "fnChanged", fn := fun _ => fun
  | [d] => { results := [.lit (.bool true)], args := [d] }
  | _ => none }
def fnChangedRow : OpenClaim := { program := "ytegmognpofcfiaagreat", sum := "6dca9480ebc0dd101e63e656468ed088ce0b44433a5a19d83b15f07dd8909b0d", func := "loop.example/g00947/laws.FnChanged", spec := "fnChanged", unfollowed := true, recurses := true, apart := false }
def FnChangedSaid : Prop := fnChangedRow.holds Tryz.pinned (OpenSpec.ofChange fnChangedSpec)

/-- ITS FALSE NEIGHBOUR: 'it returns false'. Refute it at one input. -/
def fnChangedWrong : ChangeSpec := { name := "fnChanged", fn := fun _ => fun
  | [d] => { results := [.lit (.bool false)], args := [d] }
  | _ => none }
def FnChangedWrongFalsely : Prop := fnChangedRow.holds Tryz.pinned (OpenSpec.ofChange fnChangedWrong)

/-- 'laws.FnRetired': WHATEVER THE INPUT: true; the input reads as it did. -/
def fnRetiredSpec : ChangeSpec := { name := "fnRetired", fn := fun _ => fun
  | [d] => { results := [.lit (.bool true)], args := [d] }
  | _ => none }
def fnRetiredRow : OpenClaim := { program := "ytegmognpofcfiaagreat", sum := "6dca9480ebc0dd101e63e656468ed088ce0b44433a5a19d83b15f07dd8909b0d", func := "loop.example/g00947/laws.FnRetired", spec := "fnRetired", unfollowed := true, recurses := true, apart := false }
def FnRetiredSaid : Prop := fnRetiredRow.holds Tryz.pinned (OpenSpec.ofChange fnRetiredSpec)

/-- ITS FALSE NEIGHBOUR: 'it returns false'. Refute it at one input. -/
def fnRetiredWrong : ChangeSpec := { name := "fnRetired", fn := fun _ => fun
  | [d] => { results := [.lit (.bool false)], args := [d] }
  | _ => none }
def FnRetiredWrongFalsely : Prop := fnRetiredRow.holds Tryz.pinned (OpenSpec.ofChange fnRetiredWrong)

/-- 'laws.FnIssued': WHATEVER THE INPUT: true; the input reads as it did. -/
def fnIssuedSpec : ChangeSpec := { name := "fnIssued", fn := fun _ => fun
  | [d] => { results := [.lit (.bool true)], args := [d] }
  | _ => none }
def fnIssuedRow : OpenClaim := { program := "ytegmognpofcfiaagreat", sum := "6dca9480ebc0dd101e63e656468ed088ce0b44433a5a19d83b15f07dd8909b0d", func := "loop.example/g00947/laws.FnIssued", spec := "fnIssued", unfollowed := true, recurses := true, apart := false }
def FnIssuedSaid : Prop := fnIssuedRow.holds Tryz.pinned (OpenSpec.ofChange fnIssuedSpec)

/-- ITS FALSE NEIGHBOUR: 'it returns false'. Refute it at one input. -/
def fnIssuedWrong : ChangeSpec := { name := "fnIssued", fn := fun _ => fun
  | [d] => { results := [.lit (.bool false)], args := [d] }
  | _ => none }
def FnIssuedWrongFalsely : Prop := fnIssuedRow.holds Tryz.pinned (OpenSpec.ofChange fnIssuedWrong)

/-- 'laws.FnIssueKeys': WHATEVER THE INPUT: true; the input reads as it did. -/
def fnIssueKeysSpec : ChangeSpec := { name := "fnIssueKeys", fn := fun _ => fun
  | [d] => { results := [.lit (.bool true)], args := [d] }
  | _ => none }
def fnIssueKeysRow : OpenClaim := { program := "ytegmognpofcfiaagreat", sum := "6dca9480ebc0dd101e63e656468ed088ce0b44433a5a19d83b15f07dd8909b0d", func := "loop.example/g00947/laws.FnIssueKeys", spec := "fnIssueKeys", unfollowed := true, recurses := true, apart := false }
def FnIssueKeysSaid : Prop := fnIssueKeysRow.holds Tryz.pinned (OpenSpec.ofChange fnIssueKeysSpec)

/-- ITS FALSE NEIGHBOUR: 'it returns false'. Refute it at one input. -/
def fnIssueKeysWrong : ChangeSpec := { name := "fnIssueKeys", fn := fun _ => fun
  | [d] => { results := [.lit (.bool false)], args := [d] }
  | _ => none }
def FnIssueKeysWrongFalsely : Prop := fnIssueKeysRow.holds Tryz.pinned (OpenSpec.ofChange fnIssueKeysWrong)

/-- 'laws.FnWafers': WHATEVER THE INPUT: true; the input reads as it did. -/
def fnWafersSpec : ChangeSpec := { name := "fnWafers", fn := fun _ => fun
  | [d] => { results := [.lit (.bool true)], args := [d] }
  | _ => none }
def fnWafersRow : OpenClaim := { program := "ytegmognpofcfiaagreat", sum := "6dca9480ebc0dd101e63e656468ed088ce0b44433a5a19d83b15f07dd8909b0d", func := "loop.example/g00947/laws.FnWafers", spec := "fnWafers", unfollowed := true, recurses := true, apart := false }
def FnWafersSaid : Prop := fnWafersRow.holds Tryz.pinned (OpenSpec.ofChange fnWafersSpec)

/-- ITS FALSE NEIGHBOUR: 'it returns false'. Refute it at one input. -/
def fnWafersWrong : ChangeSpec := { name := "fnWafers", fn := fun _ => fun
  | [d] => { results := [.lit (.bool false)], args := [d] }
  | _ => none }
def FnWafersWrongFalsely : Prop := fnWafersRow.holds Tryz.pinned (OpenSpec.ofChange fnWafersWrong)

/-- 'laws.FnBest': WHATEVER THE INPUT: true; the input reads as it did. -/
def fnBestSpec : ChangeSpec := { name := "fnBest", fn := fun _ => fun
  | [d] => { results := [.lit (.bool true)], args := [d] }
  | _ => none }
def fnBestRow : OpenClaim := { program := "ytegmognpofcfiaagreat", sum := "6dca9480ebc0dd101e63e656468ed088ce0b44433a5a19d83b15f07dd8909b0d", func := "loop.example/g00947/laws.FnBest", spec := "fnBest", unfollowed := true, recurses := true, apart := false }
def FnBestSaid : Prop := fnBestRow.holds Tryz.pinned (OpenSpec.ofChange fnBestSpec)

/-- ITS FALSE NEIGHBOUR: 'it returns false'. Refute it at one input. -/
def fnBestWrong : ChangeSpec := { name := "fnBest", fn := fun _ => fun
  | [d] => { results := [.lit (.bool false)], args := [d] }
  | _ => none }
def FnBestWrongFalsely : Prop := fnBestRow.holds Tryz.pinned (OpenSpec.ofChange fnBestWrong)

/-- 'laws.FnDoors': WHATEVER THE INPUT: true; the input reads as it did. -/
def fnDoorsSpec : ChangeSpec := { name := "fnDoors", fn := fun _ => fun
  | [d] => { results := [.lit (.bool true)], args := [d] }
  | _ => none }
def fnDoorsRow : OpenClaim := { program := "ytegmognpofcfiaagreat", sum := "6dca9480ebc0dd101e63e656468ed088ce0b44433a5a19d83b15f07dd8909b0d", func := "loop.example/g00947/laws.FnDoors", spec := "fnDoors", unfollowed := true, recurses := true, apart := false }
def FnDoorsSaid : Prop := fnDoorsRow.holds Tryz.pinned (OpenSpec.ofChange fnDoorsSpec)

/-- ITS FALSE NEIGHBOUR: 'it returns false'. Refute it at one input. -/
def fnDoorsWrong : ChangeSpec := { name := "fnDoors", fn := fun _ => fun
  | [d] => { results := [.lit (.bool false)], args := [d] }
  | _ => none }
def FnDoorsWrongFalsely : Prop := fnDoorsRow.holds Tryz.pinned (OpenSpec.ofChange fnDoorsWrong)

/-- 'laws.FnExactBestDesign': WHATEVER THE INPUT: true; the input reads as it did. -/
def fnExactBestDesignSpec : ChangeSpec := { name := "fnExactBestDesign", fn := fun _ => fun
  | [d1, d2] => { results := [.lit (.bool true)], args := [d1, d2] }
  | _ => none }
def fnExactBestDesignRow : OpenClaim := { program := "ytegmognpofcfiaagreat", sum := "6dca9480ebc0dd101e63e656468ed088ce0b44433a5a19d83b15f07dd8909b0d", func := "loop.example/g00947/laws.FnExactBestDesign", spec := "fnExactBestDesign", unfollowed := true, recurses := true, apart := false }
def FnExactBestDesignSaid : Prop := fnExactBestDesignRow.holds Tryz.pinned (OpenSpec.ofChange fnExactBestDesignSpec)

/-- ITS FALSE NEIGHBOUR: 'it returns false'. Refute it at one input. -/
def fnExactBestDesignWrong : ChangeSpec := { name := "fnExactBestDesign", fn := fun _ => fun
  | [d1, d2] => { results := [.lit (.bool false)], args := [d1, d2] }
  | _ => none }
def FnExactBestDesignWrongFalsely : Prop := fnExactBestDesignRow.holds Tryz.pinned (OpenSpec.ofChange fnExactBestDesignWrong)

/- THE SECOND FORM. 'bulk': how many values and letters a reading holds, each counted each time it is reached (what is shared counts as often as it is met; a slice's spare places count too). A statement '..UptoSaid' is the law's where the arguments, and the package variables that the reading takes, are together of bulk at most 1048576: NARROWER than '..Said'. Prove '..Said' where nothing that the law and all that it calls make is longer than what came in: it says more and counts as full. Else prove '..UptoSaid'. A law counts once. -/
mutual
def uptoBulk {H : Type} : DataW H → Nat
  | .lit (.string bytes) => bytes.length + 1
  | .lit _ => 1
  | .nil => 1
  | .ptr d => uptoBulk d + 1
  | .slice elems spare => uptoBulkAll elems + uptoBulkAll spare + 1
  | .agg parts => uptoBulkAll parts + 1
  | .iface _ d => uptoBulk d + 1
  | .map entries => uptoBulkEntries entries + 1
  | .held _ => 1
def uptoBulkAll {H : Type} : List (DataW H) → Nat
  | [] => 0
  | d :: r => uptoBulk d + uptoBulkAll r
def uptoBulkEntries {H : Type} : List (Lit × DataW H) → Nat
  | [] => 0
  | x :: r => uptoBulkEntry x + uptoBulkEntries r
def uptoBulkEntry {H : Type} : Lit × DataW H → Nat
  | (.string bytes, d) => bytes.length + uptoBulk d + 1
  | (_, d) => uptoBulk d + 1
 end
def uptoSmall : (H : Type) → List (DataW H) → Bool := fun _ ds => decide (uptoBulkAll ds ≤ 1048576)
def OpenSpec.upto (s : _root_.Go.ChangeSpec) : _root_.Go.OpenSpec := { _root_.Go.OpenSpec.ofChange s with cond := some uptoSmall }

/-- 'laws.FnCosts', WHERE WHAT IT READS IS OF BULK AT MOST 1048576: true; the input reads as it did. -/
def fnCostsUptoRow : OpenClaim := { program := "ytegmognpofcfiaagreat", sum := "6dca9480ebc0dd101e63e656468ed088ce0b44433a5a19d83b15f07dd8909b0d", func := "loop.example/g00947/laws.FnCosts", spec := "fnCosts", unfollowed := true, recurses := true, apart := false, narrowed := true }
def FnCostsUptoSaid : Prop := fnCostsUptoRow.holds Tryz.pinned (OpenSpec.upto fnCostsSpec)

/-- 'laws.FnChanged', WHERE WHAT IT READS IS OF BULK AT MOST 1048576: true; the input reads as it did. -/
def fnChangedUptoRow : OpenClaim := { program := "ytegmognpofcfiaagreat", sum := "6dca9480ebc0dd101e63e656468ed088ce0b44433a5a19d83b15f07dd8909b0d", func := "loop.example/g00947/laws.FnChanged", spec := "fnChanged", unfollowed := true, recurses := true, apart := false, narrowed := true }
def FnChangedUptoSaid : Prop := fnChangedUptoRow.holds Tryz.pinned (OpenSpec.upto fnChangedSpec)

/-- 'laws.FnRetired', WHERE WHAT IT READS IS OF BULK AT MOST 1048576: true; the input reads as it did. -/
def fnRetiredUptoRow : OpenClaim := { program := "ytegmognpofcfiaagreat", sum := "6dca9480ebc0dd101e63e656468ed088ce0b44433a5a19d83b15f07dd8909b0d", func := "loop.example/g00947/laws.FnRetired", spec := "fnRetired", unfollowed := true, recurses := true, apart := false, narrowed := true }
def FnRetiredUptoSaid : Prop := fnRetiredUptoRow.holds Tryz.pinned (OpenSpec.upto fnRetiredSpec)

/-- 'laws.FnIssued', WHERE WHAT IT READS IS OF BULK AT MOST 1048576: true; the input reads as it did. -/
def fnIssuedUptoRow : OpenClaim := { program := "ytegmognpofcfiaagreat", sum := "6dca9480ebc0dd101e63e656468ed088ce0b44433a5a19d83b15f07dd8909b0d", func := "loop.example/g00947/laws.FnIssued", spec := "fnIssued", unfollowed := true, recurses := true, apart := false, narrowed := true }
def FnIssuedUptoSaid : Prop := fnIssuedUptoRow.holds Tryz.pinned (OpenSpec.upto fnIssuedSpec)

/-- 'laws.FnIssueKeys', WHERE WHAT IT READS IS OF BULK AT MOST 1048576: true; the input reads as it did. -/
def fnIssueKeysUptoRow : OpenClaim := { program := "ytegmognpofcfiaagreat", sum := "6dca9480ebc0dd101e63e656468ed088ce0b44433a5a19d83b15f07dd8909b0d", func := "loop.example/g00947/laws.FnIssueKeys", spec := "fnIssueKeys", unfollowed := true, recurses := true, apart := false, narrowed := true }
def FnIssueKeysUptoSaid : Prop := fnIssueKeysUptoRow.holds Tryz.pinned (OpenSpec.upto fnIssueKeysSpec)

/-- 'laws.FnWafers', WHERE WHAT IT READS IS OF BULK AT MOST 1048576: true; the input reads as it did. -/
def fnWafersUptoRow : OpenClaim := { program := "ytegmognpofcfiaagreat", sum := "6dca9480ebc0dd101e63e656468ed088ce0b44433a5a19d83b15f07dd8909b0d", func := "loop.example/g00947/laws.FnWafers", spec := "fnWafers", unfollowed := true, recurses := true, apart := false, narrowed := true }
def FnWafersUptoSaid : Prop := fnWafersUptoRow.holds Tryz.pinned (OpenSpec.upto fnWafersSpec)

/-- 'laws.FnBest', WHERE WHAT IT READS IS OF BULK AT MOST 1048576: true; the input reads as it did. -/
def fnBestUptoRow : OpenClaim := { program := "ytegmognpofcfiaagreat", sum := "6dca9480ebc0dd101e63e656468ed088ce0b44433a5a19d83b15f07dd8909b0d", func := "loop.example/g00947/laws.FnBest", spec := "fnBest", unfollowed := true, recurses := true, apart := false, narrowed := true }
def FnBestUptoSaid : Prop := fnBestUptoRow.holds Tryz.pinned (OpenSpec.upto fnBestSpec)

/-- 'laws.FnDoors', WHERE WHAT IT READS IS OF BULK AT MOST 1048576: true; the input reads as it did. -/
def fnDoorsUptoRow : OpenClaim := { program := "ytegmognpofcfiaagreat", sum := "6dca9480ebc0dd101e63e656468ed088ce0b44433a5a19d83b15f07dd8909b0d", func := "loop.example/g00947/laws.FnDoors", spec := "fnDoors", unfollowed := true, recurses := true, apart := false, narrowed := true }
def FnDoorsUptoSaid : Prop := fnDoorsUptoRow.holds Tryz.pinned (OpenSpec.upto fnDoorsSpec)

/-- 'laws.FnExactBestDesign', WHERE WHAT IT READS IS OF BULK AT MOST 1048576: true; the input reads as it did. -/
def fnExactBestDesignUptoRow : OpenClaim := { program := "ytegmognpofcfiaagreat", sum := "6dca9480ebc0dd101e63e656468ed088ce0b44433a5a19d83b15f07dd8909b0d", func := "loop.example/g00947/laws.FnExactBestDesign", spec := "fnExactBestDesign", unfollowed := true, recurses := true, apart := false, narrowed := true }
def FnExactBestDesignUptoSaid : Prop := fnExactBestDesignUptoRow.holds Tryz.pinned (OpenSpec.upto fnExactBestDesignSpec)

end Rows
end Go.Proofs.YtegmognpofcfiaaGreat
