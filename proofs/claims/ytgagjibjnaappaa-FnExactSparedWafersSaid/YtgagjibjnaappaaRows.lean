/-
  No cell of these rows narrows 'for every input' (looked for: loops, veiled, ifaces, maps, wideKeys, modest, calm, conditions, laid).
  DERIVED. THE GIVEN ROWS OF THIS SEAT. 10 by the template 'for every input the law returns true; each argument reads behind the call as it read before'; 0 by the template 'total and deterministic' (their statements: YtgagjibjnaappaaTotals.lean).
  GIVEN WITH THE SEED: the statements are not yours to turn. If you find one false, say at which input.
  Laid BY PROGRAM, IN A SANDBOX (cutbox-rows.mjs): the forced cells as the released guide's own fill.sh prints them over the translation 32b3fd5c3450aae7… (all of the seat's roots in one cut). By AI agents, Wed Nov 11 2026. No macro, syntax, notation, axiom, sorry.
-/
import Derived.Test.YtgagjibjnaappaaChecked
import GoSem.Claim
import GoSem.ClaimJoined
import GoSem.ClaimMapViews
import Derived.JoinedTies
import Derived.KernelRfl
namespace Go.Proofs.Ytgagjibjnaappaa
/- THE CELL 'sum', in the pinned program and in every row, IS THE sha256 OF THE DUMP (.gsa) THAT YtgagjibjnaappaaProg.lean LOADS. Nothing in Lean hashes anything: it is a label: what it is worth is what the hold of that sum in a sandbox is worth. -/
noncomputable def Try.pinned : Pinned := { name := "ytgagjibjnaappaa", sum := "32b3fd5c3450aae76c2c27524211af5d4a8f70040a1f451f8def4e8c2ffc57c3", checked := Try.checked }
namespace Rows
def none {H : Type} : Left H := { results := [], args := [] }

/-- 'laws.FnExactCostOf': WHATEVER THE INPUT: true; the input reads as it did. -/
def fnExactCostOfSpec : ChangeSpec := { name := "fnExactCostOf", fn := fun _ => fun
  | [d1, d2, d3] => { results := [.lit (.bool true)], args := [d1, d2, d3] }
  | _ => none }
def fnExactCostOfRow : OpenClaim := { program := "ytgagjibjnaappaa", sum := "32b3fd5c3450aae76c2c27524211af5d4a8f70040a1f451f8def4e8c2ffc57c3", func := "loop.example/g00947/laws.FnExactCostOf", spec := "fnExactCostOf", unfollowed := true, recurses := true, apart := false }
def FnExactCostOfSaid : Prop := fnExactCostOfRow.holds Try.pinned (OpenSpec.ofChange fnExactCostOfSpec)

/-- ITS FALSE NEIGHBOUR: 'it returns false'. Refute it at one input. -/
def fnExactCostOfWrong : ChangeSpec := { name := "fnExactCostOf", fn := fun _ => fun
  | [d1, d2, d3] => { results := [.lit (.bool false)], args := [d1, d2, d3] }
  | _ => none }
def FnExactCostOfWrongFalsely : Prop := fnExactCostOfRow.holds Try.pinned (OpenSpec.ofChange fnExactCostOfWrong)

/-- 'laws.FnExactSharedLocks': WHATEVER THE INPUT: true; the input reads as it did. -/
def fnExactSharedLocksSpec : ChangeSpec := { name := "fnExactSharedLocks", fn := fun _ => fun
  | [d1, d2] => { results := [.lit (.bool true)], args := [d1, d2] }
  | _ => none }
def fnExactSharedLocksRow : OpenClaim := { program := "ytgagjibjnaappaa", sum := "32b3fd5c3450aae76c2c27524211af5d4a8f70040a1f451f8def4e8c2ffc57c3", func := "loop.example/g00947/laws.FnExactSharedLocks", spec := "fnExactSharedLocks", unfollowed := true, recurses := true, apart := false }
def FnExactSharedLocksSaid : Prop := fnExactSharedLocksRow.holds Try.pinned (OpenSpec.ofChange fnExactSharedLocksSpec)

/-- ITS FALSE NEIGHBOUR: 'it returns false'. Refute it at one input. -/
def fnExactSharedLocksWrong : ChangeSpec := { name := "fnExactSharedLocks", fn := fun _ => fun
  | [d1, d2] => { results := [.lit (.bool false)], args := [d1, d2] }
  | _ => none }
def FnExactSharedLocksWrongFalsely : Prop := fnExactSharedLocksRow.holds Try.pinned (OpenSpec.ofChange fnExactSharedLocksWrong)

/-- 'laws.FnExactChangedDoors': WHATEVER THE INPUT: true; the input reads as it did. -/
def fnExactChangedDoorsSpec : ChangeSpec := { name := "fnExactChangedDoors", fn := fun _ => fun
  | [d1, d2, d3, d4] => { results := [.lit (.bool true)], args := [d1, d2, d3, d4] }
  | _ => none }
def fnExactChangedDoorsRow : OpenClaim := { program := "ytgagjibjnaappaa", sum := "32b3fd5c3450aae76c2c27524211af5d4a8f70040a1f451f8def4e8c2ffc57c3", func := "loop.example/g00947/laws.FnExactChangedDoors", spec := "fnExactChangedDoors", unfollowed := true, recurses := true, apart := false }
def FnExactChangedDoorsSaid : Prop := fnExactChangedDoorsRow.holds Try.pinned (OpenSpec.ofChange fnExactChangedDoorsSpec)

/-- ITS FALSE NEIGHBOUR: 'it returns false'. Refute it at one input. -/
def fnExactChangedDoorsWrong : ChangeSpec := { name := "fnExactChangedDoors", fn := fun _ => fun
  | [d1, d2, d3, d4] => { results := [.lit (.bool false)], args := [d1, d2, d3, d4] }
  | _ => none }
def FnExactChangedDoorsWrongFalsely : Prop := fnExactChangedDoorsRow.holds Try.pinned (OpenSpec.ofChange fnExactChangedDoorsWrong)

/-- 'laws.FnExactAddDoor': WHATEVER THE INPUT: true; the input reads as it did. -/
def fnExactAddDoorSpec : ChangeSpec := { name := "fnExactAddDoor", fn := fun _ => fun
  | [d1, d2, d3] => { results := [.lit (.bool true)], args := [d1, d2, d3] }
  | _ => none }
def fnExactAddDoorRow : OpenClaim := { program := "ytgagjibjnaappaa", sum := "32b3fd5c3450aae76c2c27524211af5d4a8f70040a1f451f8def4e8c2ffc57c3", func := "loop.example/g00947/laws.FnExactAddDoor", spec := "fnExactAddDoor", unfollowed := true, recurses := true, apart := false }
def FnExactAddDoorSaid : Prop := fnExactAddDoorRow.holds Try.pinned (OpenSpec.ofChange fnExactAddDoorSpec)

/-- ITS FALSE NEIGHBOUR: 'it returns false'. Refute it at one input. -/
def fnExactAddDoorWrong : ChangeSpec := { name := "fnExactAddDoor", fn := fun _ => fun
  | [d1, d2, d3] => { results := [.lit (.bool false)], args := [d1, d2, d3] }
  | _ => none }
def FnExactAddDoorWrongFalsely : Prop := fnExactAddDoorRow.holds Try.pinned (OpenSpec.ofChange fnExactAddDoorWrong)

/-- 'laws.FnExactDropDoor': WHATEVER THE INPUT: true; the input reads as it did. -/
def fnExactDropDoorSpec : ChangeSpec := { name := "fnExactDropDoor", fn := fun _ => fun
  | [d1, d2, d3] => { results := [.lit (.bool true)], args := [d1, d2, d3] }
  | _ => none }
def fnExactDropDoorRow : OpenClaim := { program := "ytgagjibjnaappaa", sum := "32b3fd5c3450aae76c2c27524211af5d4a8f70040a1f451f8def4e8c2ffc57c3", func := "loop.example/g00947/laws.FnExactDropDoor", spec := "fnExactDropDoor", unfollowed := true, recurses := true, apart := false }
def FnExactDropDoorSaid : Prop := fnExactDropDoorRow.holds Try.pinned (OpenSpec.ofChange fnExactDropDoorSpec)

/-- ITS FALSE NEIGHBOUR: 'it returns false'. Refute it at one input. -/
def fnExactDropDoorWrong : ChangeSpec := { name := "fnExactDropDoor", fn := fun _ => fun
  | [d1, d2, d3] => { results := [.lit (.bool false)], args := [d1, d2, d3] }
  | _ => none }
def FnExactDropDoorWrongFalsely : Prop := fnExactDropDoorRow.holds Try.pinned (OpenSpec.ofChange fnExactDropDoorWrong)

/-- 'laws.FnExactRetireKey': WHATEVER THE INPUT: true; the input reads as it did. -/
def fnExactRetireKeySpec : ChangeSpec := { name := "fnExactRetireKey", fn := fun _ => fun
  | [d1, d2, d3] => { results := [.lit (.bool true)], args := [d1, d2, d3] }
  | _ => none }
def fnExactRetireKeyRow : OpenClaim := { program := "ytgagjibjnaappaa", sum := "32b3fd5c3450aae76c2c27524211af5d4a8f70040a1f451f8def4e8c2ffc57c3", func := "loop.example/g00947/laws.FnExactRetireKey", spec := "fnExactRetireKey", unfollowed := true, recurses := true, apart := false }
def FnExactRetireKeySaid : Prop := fnExactRetireKeyRow.holds Try.pinned (OpenSpec.ofChange fnExactRetireKeySpec)

/-- ITS FALSE NEIGHBOUR: 'it returns false'. Refute it at one input. -/
def fnExactRetireKeyWrong : ChangeSpec := { name := "fnExactRetireKey", fn := fun _ => fun
  | [d1, d2, d3] => { results := [.lit (.bool false)], args := [d1, d2, d3] }
  | _ => none }
def FnExactRetireKeyWrongFalsely : Prop := fnExactRetireKeyRow.holds Try.pinned (OpenSpec.ofChange fnExactRetireKeyWrong)

/-- 'laws.FnExactCanIssue': WHATEVER THE INPUT: true; the input reads as it did. -/
def fnExactCanIssueSpec : ChangeSpec := { name := "fnExactCanIssue", fn := fun _ => fun
  | [d1, d2, d3, d4] => { results := [.lit (.bool true)], args := [d1, d2, d3, d4] }
  | _ => none }
def fnExactCanIssueRow : OpenClaim := { program := "ytgagjibjnaappaa", sum := "32b3fd5c3450aae76c2c27524211af5d4a8f70040a1f451f8def4e8c2ffc57c3", func := "loop.example/g00947/laws.FnExactCanIssue", spec := "fnExactCanIssue", unfollowed := true, recurses := true, apart := false }
def FnExactCanIssueSaid : Prop := fnExactCanIssueRow.holds Try.pinned (OpenSpec.ofChange fnExactCanIssueSpec)

/-- ITS FALSE NEIGHBOUR: 'it returns false'. Refute it at one input. -/
def fnExactCanIssueWrong : ChangeSpec := { name := "fnExactCanIssue", fn := fun _ => fun
  | [d1, d2, d3, d4] => { results := [.lit (.bool false)], args := [d1, d2, d3, d4] }
  | _ => none }
def FnExactCanIssueWrongFalsely : Prop := fnExactCanIssueRow.holds Try.pinned (OpenSpec.ofChange fnExactCanIssueWrong)

/-- 'laws.FnExactSystemStock': WHATEVER THE INPUT: true; the input reads as it did. -/
def fnExactSystemStockSpec : ChangeSpec := { name := "fnExactSystemStock", fn := fun _ => fun
  | [d1, d2] => { results := [.lit (.bool true)], args := [d1, d2] }
  | _ => none }
def fnExactSystemStockRow : OpenClaim := { program := "ytgagjibjnaappaa", sum := "32b3fd5c3450aae76c2c27524211af5d4a8f70040a1f451f8def4e8c2ffc57c3", func := "loop.example/g00947/laws.FnExactSystemStock", spec := "fnExactSystemStock", unfollowed := true, recurses := true, apart := false }
def FnExactSystemStockSaid : Prop := fnExactSystemStockRow.holds Try.pinned (OpenSpec.ofChange fnExactSystemStockSpec)

/-- ITS FALSE NEIGHBOUR: 'it returns false'. Refute it at one input. -/
def fnExactSystemStockWrong : ChangeSpec := { name := "fnExactSystemStock", fn := fun _ => fun
  | [d1, d2] => { results := [.lit (.bool false)], args := [d1, d2] }
  | _ => none }
def FnExactSystemStockWrongFalsely : Prop := fnExactSystemStockRow.holds Try.pinned (OpenSpec.ofChange fnExactSystemStockWrong)

/-- 'laws.FnExactThinDoors': WHATEVER THE INPUT: true; the input reads as it did. -/
def fnExactThinDoorsSpec : ChangeSpec := { name := "fnExactThinDoors", fn := fun _ => fun
  | [d1, d2, d3] => { results := [.lit (.bool true)], args := [d1, d2, d3] }
  | _ => none }
def fnExactThinDoorsRow : OpenClaim := { program := "ytgagjibjnaappaa", sum := "32b3fd5c3450aae76c2c27524211af5d4a8f70040a1f451f8def4e8c2ffc57c3", func := "loop.example/g00947/laws.FnExactThinDoors", spec := "fnExactThinDoors", unfollowed := true, recurses := true, apart := false }
def FnExactThinDoorsSaid : Prop := fnExactThinDoorsRow.holds Try.pinned (OpenSpec.ofChange fnExactThinDoorsSpec)

/-- ITS FALSE NEIGHBOUR: 'it returns false'. Refute it at one input. -/
def fnExactThinDoorsWrong : ChangeSpec := { name := "fnExactThinDoors", fn := fun _ => fun
  | [d1, d2, d3] => { results := [.lit (.bool false)], args := [d1, d2, d3] }
  | _ => none }
def FnExactThinDoorsWrongFalsely : Prop := fnExactThinDoorsRow.holds Try.pinned (OpenSpec.ofChange fnExactThinDoorsWrong)

/-- 'laws.FnExactSparedWafers': WHATEVER THE INPUT: true; the input reads as it did. -/
def fnExactSparedWafersSpec : ChangeSpec := { name := "fnExactSparedWafers", fn := fun _ => fun
  | [d1, d2] => { results := [.lit (.bool true)], args := [d1, d2] }
  | _ => none }
def fnExactSparedWafersRow : OpenClaim := { program := "ytgagjibjnaappaa", sum := "32b3fd5c3450aae76c2c27524211af5d4a8f70040a1f451f8def4e8c2ffc57c3", func := "loop.example/g00947/laws.FnExactSparedWafers", spec := "fnExactSparedWafers", unfollowed := true, recurses := true, apart := false }
def FnExactSparedWafersSaid : Prop := fnExactSparedWafersRow.holds Try.pinned (OpenSpec.ofChange fnExactSparedWafersSpec)

/-- ITS FALSE NEIGHBOUR: 'it returns false'. Refute it at one input. -/
def fnExactSparedWafersWrong : ChangeSpec := { name := "fnExactSparedWafers", fn := fun _ => fun
  | [d1, d2] => { results := [.lit (.bool false)], args := [d1, d2] }
  | _ => none }
def FnExactSparedWafersWrongFalsely : Prop := fnExactSparedWafersRow.holds Try.pinned (OpenSpec.ofChange fnExactSparedWafersWrong)

/- THE SECOND FORM. 'bulk': how many values and letters a reading holds, each counted each time it is reached (what is shared counts as often as it is met; a slice's spare places count too). A statement '..UptoSaid' is the law's where the arguments, and the package variables that the reading takes, are together of bulk at most 1048576: NARROWER than '..Said'. Prove '..Said' where nothing that the law and all that it calls make is longer than what came in: it says more and counts as full. Else prove '..UptoSaid'. A law counts once. -/
mutual
def uptoBulk {H : Type} : DataW H → Nat
  | .lit (.string bytes) => bytes.length + 1
  | .lit _ => 1
  | .nil => 1
  | .ptr d => uptoBulk d + 1
  | .slice elems spare => uptoBulkAll elems + uptoBulkAll spare + 1
  | .agg parts => uptoBulkAll parts + 1
  | .iface _ d => uptoBulk d + 1
  | .map entries => uptoBulkEntries entries + 1
  | .held _ => 1
def uptoBulkAll {H : Type} : List (DataW H) → Nat
  | [] => 0
  | d :: r => uptoBulk d + uptoBulkAll r
def uptoBulkEntries {H : Type} : List (Lit × DataW H) → Nat
  | [] => 0
  | x :: r => uptoBulkEntry x + uptoBulkEntries r
def uptoBulkEntry {H : Type} : Lit × DataW H → Nat
  | (.string bytes, d) => bytes.length + uptoBulk d + 1
  | (_, d) => uptoBulk d + 1
 end
def uptoSmall : (H : Type) → List (DataW H) → Bool := fun _ ds => decide (uptoBulkAll ds ≤ 1048576)
def OpenSpec.upto (s : _root_.Go.ChangeSpec) : _root_.Go.OpenSpec := { _root_.Go.OpenSpec.ofChange s with cond := some uptoSmall }

/-- 'laws.FnExactCostOf', WHERE WHAT IT READS IS OF BULK AT MOST 1048576: true; the input reads as it did. -/
def fnExactCostOfUptoRow : OpenClaim := { program := "ytgagjibjnaappaa", sum := "32b3fd5c3450aae76c2c27524211af5d4a8f70040a1f451f8def4e8c2ffc57c3", func := "loop.example/g00947/laws.FnExactCostOf", spec := "fnExactCostOf", unfollowed := true, recurses := true, apart := false, narrowed := true }
def FnExactCostOfUptoSaid : Prop := fnExactCostOfUptoRow.holds Try.pinned (OpenSpec.upto fnExactCostOfSpec)

/-- 'laws.FnExactSharedLocks', WHERE WHAT IT READS IS OF BULK AT MOST 1048576: true; the input reads as it did. -/
def fnExactSharedLocksUptoRow : OpenClaim := { program := "ytgagjibjnaappaa", sum := "32b3fd5c3450aae76c2c27524211af5d4a8f70040a1f451f8def4e8c2ffc57c3", func := "loop.example/g00947/laws.FnExactSharedLocks", spec := "fnExactSharedLocks", unfollowed := true, recurses := true, apart := false, narrowed := true }
def FnExactSharedLocksUptoSaid : Prop := fnExactSharedLocksUptoRow.holds Try.pinned (OpenSpec.upto fnExactSharedLocksSpec)

/-- 'laws.FnExactChangedDoors', WHERE WHAT IT READS IS OF BULK AT MOST 1048576: true; the input reads as it did. -/
def fnExactChangedDoorsUptoRow : OpenClaim := { program := "ytgagjibjnaappaa", sum := "32b3fd5c3450aae76c2c27524211af5d4a8f70040a1f451f8def4e8c2ffc57c3", func := "loop.example/g00947/laws.FnExactChangedDoors", spec := "fnExactChangedDoors", unfollowed := true, recurses := true, apart := false, narrowed := true }
def FnExactChangedDoorsUptoSaid : Prop := fnExactChangedDoorsUptoRow.holds Try.pinned (OpenSpec.upto fnExactChangedDoorsSpec)

/-- 'laws.FnExactAddDoor', WHERE WHAT IT READS IS OF BULK AT MOST 1048576: true; the input reads as it did. -/
def fnExactAddDoorUptoRow : OpenClaim := { program := "ytgagjibjnaappaa", sum := "32b3fd5c3450aae76c2c27524211af5d4a8f70040a1f451f8def4e8c2ffc57c3", func := "loop.example/g00947/laws.FnExactAddDoor", spec := "fnExactAddDoor", unfollowed := true, recurses := true, apart := false, narrowed := true }
def FnExactAddDoorUptoSaid : Prop := fnExactAddDoorUptoRow.holds Try.pinned (OpenSpec.upto fnExactAddDoorSpec)

/-- 'laws.FnExactDropDoor', WHERE WHAT IT READS IS OF BULK AT MOST 1048576: true; the input reads as it did. -/
def fnExactDropDoorUptoRow : OpenClaim := { program := "ytgagjibjnaappaa", sum := "32b3fd5c3450aae76c2c27524211af5d4a8f70040a1f451f8def4e8c2ffc57c3", func := "loop.example/g00947/laws.FnExactDropDoor", spec := "fnExactDropDoor", unfollowed := true, recurses := true, apart := false, narrowed := true }
def FnExactDropDoorUptoSaid : Prop := fnExactDropDoorUptoRow.holds Try.pinned (OpenSpec.upto fnExactDropDoorSpec)

/-- 'laws.FnExactRetireKey', WHERE WHAT IT READS IS OF BULK AT MOST 1048576: true; the input reads as it did. -/
def fnExactRetireKeyUptoRow : OpenClaim := { program := "ytgagjibjnaappaa", sum := "32b3fd5c3450aae76c2c27524211af5d4a8f70040a1f451f8def4e8c2ffc57c3", func := "loop.example/g00947/laws.FnExactRetireKey", spec := "fnExactRetireKey", unfollowed := true, recurses := true, apart := false, narrowed := true }
def FnExactRetireKeyUptoSaid : Prop := fnExactRetireKeyUptoRow.holds Try.pinned (OpenSpec.upto fnExactRetireKeySpec)

/-- 'laws.FnExactCanIssue', WHERE WHAT IT READS IS OF BULK AT MOST 1048576: true; the input reads as it did. -/
def fnExactCanIssueUptoRow : OpenClaim := { program := "ytgagjibjnaappaa", sum := "32b3fd5c3450aae76c2c27524211af5d4a8f70040a1f451f8def4e8c2ffc57c3", func := "loop.example/g00947/laws.FnExactCanIssue", spec := "fnExactCanIssue", unfollowed := true, recurses := true, apart := false, narrowed := true }
def FnExactCanIssueUptoSaid : Prop := fnExactCanIssueUptoRow.holds Try.pinned (OpenSpec.upto fnExactCanIssueSpec)

/-- 'laws.FnExactSystemStock', WHERE WHAT IT READS IS OF BULK AT MOST 1048576: true; the input reads as it did. -/
def fnExactSystemStockUptoRow : OpenClaim := { program := "ytgagjibjnaappaa", sum := "32b3fd5c3450aae76c2c27524211af5d4a8f70040a1f451f8def4e8c2ffc57c3", func := "loop.example/g00947/laws.FnExactSystemStock", spec := "fnExactSystemStock", unfollowed := true, recurses := true, apart := false, narrowed := true }
def FnExactSystemStockUptoSaid : Prop := fnExactSystemStockUptoRow.holds Try.pinned (OpenSpec.upto fnExactSystemStockSpec)

/-- 'laws.FnExactThinDoors', WHERE WHAT IT READS IS OF BULK AT MOST 1048576: true; the input reads as it did. -/
def fnExactThinDoorsUptoRow : OpenClaim := { program := "ytgagjibjnaappaa", sum := "32b3fd5c3450aae76c2c27524211af5d4a8f70040a1f451f8def4e8c2ffc57c3", func := "loop.example/g00947/laws.FnExactThinDoors", spec := "fnExactThinDoors", unfollowed := true, recurses := true, apart := false, narrowed := true }
def FnExactThinDoorsUptoSaid : Prop := fnExactThinDoorsUptoRow.holds Try.pinned (OpenSpec.upto fnExactThinDoorsSpec)

/-- 'laws.FnExactSparedWafers', WHERE WHAT IT READS IS OF BULK AT MOST 1048576: true; the input reads as it did. -/
def fnExactSparedWafersUptoRow : OpenClaim := { program := "ytgagjibjnaappaa", sum := "32b3fd5c3450aae76c2c27524211af5d4a8f70040a1f451f8def4e8c2ffc57c3", func := "loop.example/g00947/laws.FnExactSparedWafers", spec := "fnExactSparedWafers", unfollowed := true, recurses := true, apart := false, narrowed := true }
def FnExactSparedWafersUptoSaid : Prop := fnExactSparedWafersUptoRow.holds Try.pinned (OpenSpec.upto fnExactSparedWafersSpec)

end Rows
end Go.Proofs.Ytgagjibjnaappaa
