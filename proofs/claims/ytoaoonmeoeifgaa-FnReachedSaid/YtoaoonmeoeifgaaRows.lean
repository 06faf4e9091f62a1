/-
  No cell of these rows narrows 'for every input' (looked for: loops, veiled, ifaces, maps, wideKeys, modest, calm, conditions, laid).
  DERIVED. THE GIVEN ROWS OF THIS SEAT. 12 by the template 'for every input the law returns true; each argument reads behind the call as it read before'; 0 by the template 'total and deterministic' (their statements: YtoaoonmeoeifgaaTotals.lean).
  GIVEN WITH THE SEED: the statements are not yours to turn. If you find one false, say at which input.
  Laid BY PROGRAM, IN A SANDBOX (cutbox-rows.mjs): the forced cells as the released guide's own fill.sh prints them over the translation c5f1e685e3adeed3… (all of the seat's roots in one cut). By AI agents, Wed Nov 11 2026. No macro, syntax, notation, axiom, sorry.
-/
import Derived.Test.YtoaoonmeoeifgaaChecked
import GoSem.Claim
import GoSem.ClaimJoined
import GoSem.ClaimMapViews
import Derived.JoinedTies
import Derived.KernelRfl
namespace Go.Proofs.Ytoaoonmeoeifgaa
/- THE CELL 'sum', in the pinned program and in every row, IS THE sha256 OF THE DUMP (.gsa) THAT YtoaoonmeoeifgaaProg.lean LOADS. Nothing in Lean hashes anything: it is a label: what it is worth is what the hold of that sum in a sandbox is worth. -/
noncomputable def Try.pinned : Pinned := { name := "ytoaoonmeoeifgaa", sum := "c5f1e685e3adeed3837997adf2832944abdffe407de07b264bc67818f1f075e1", checked := Try.checked }
namespace Rows
def none {H : Type} : Left H := { results := [], args := [] }

/-- 'laws.FnExactOpenFor': WHATEVER THE INPUT: true; the input reads as it did. -/
def fnExactOpenForSpec : ChangeSpec := { name := "fnExactOpenFor", fn := fun _ => fun
  | [d1, d2] => { results := [.lit (.bool true)], args := [d1, d2] }
  | _ => none }
def fnExactOpenForRow : OpenClaim := { program := "ytoaoonmeoeifgaa", sum := "c5f1e685e3adeed3837997adf2832944abdffe407de07b264bc67818f1f075e1", func := "loop.example/g00947/laws.FnExactOpenFor", spec := "fnExactOpenFor", unfollowed := true, recurses := true, apart := false }
def FnExactOpenForSaid : Prop := fnExactOpenForRow.holds Try.pinned (OpenSpec.ofChange fnExactOpenForSpec)

/-- ITS FALSE NEIGHBOUR: 'it returns false'. Refute it at one input. -/
def fnExactOpenForWrong : ChangeSpec := { name := "fnExactOpenFor", fn := fun _ => fun
  | [d1, d2] => { results := [.lit (.bool false)], args := [d1, d2] }
  | _ => none }
def FnExactOpenForWrongFalsely : Prop := fnExactOpenForRow.holds Try.pinned (OpenSpec.ofChange fnExactOpenForWrong)

/-- 'laws.FnExactIsMinimal': WHATEVER THE INPUT: true; the input reads as it did. -/
def fnExactIsMinimalSpec : ChangeSpec := { name := "fnExactIsMinimal", fn := fun _ => fun
  | [d1, d2, d3] => { results := [.lit (.bool true)], args := [d1, d2, d3] }
  | _ => none }
def fnExactIsMinimalRow : OpenClaim := { program := "ytoaoonmeoeifgaa", sum := "c5f1e685e3adeed3837997adf2832944abdffe407de07b264bc67818f1f075e1", func := "loop.example/g00947/laws.FnExactIsMinimal", spec := "fnExactIsMinimal", unfollowed := true, recurses := true, apart := false }
def FnExactIsMinimalSaid : Prop := fnExactIsMinimalRow.holds Try.pinned (OpenSpec.ofChange fnExactIsMinimalSpec)

/-- ITS FALSE NEIGHBOUR: 'it returns false'. Refute it at one input. -/
def fnExactIsMinimalWrong : ChangeSpec := { name := "fnExactIsMinimal", fn := fun _ => fun
  | [d1, d2, d3] => { results := [.lit (.bool false)], args := [d1, d2, d3] }
  | _ => none }
def FnExactIsMinimalWrongFalsely : Prop := fnExactIsMinimalRow.holds Try.pinned (OpenSpec.ofChange fnExactIsMinimalWrong)

/-- 'laws.FnExactReachWith': WHATEVER THE INPUT: true; the input reads as it did. -/
def fnExactReachWithSpec : ChangeSpec := { name := "fnExactReachWith", fn := fun _ => fun
  | [d1, d2, d3] => { results := [.lit (.bool true)], args := [d1, d2, d3] }
  | _ => none }
def fnExactReachWithRow : OpenClaim := { program := "ytoaoonmeoeifgaa", sum := "c5f1e685e3adeed3837997adf2832944abdffe407de07b264bc67818f1f075e1", func := "loop.example/g00947/laws.FnExactReachWith", spec := "fnExactReachWith", apart := false }
def FnExactReachWithSaid : Prop := fnExactReachWithRow.holds Try.pinned (OpenSpec.ofChange fnExactReachWithSpec)

/-- ITS FALSE NEIGHBOUR: 'it returns false'. Refute it at one input. -/
def fnExactReachWithWrong : ChangeSpec := { name := "fnExactReachWith", fn := fun _ => fun
  | [d1, d2, d3] => { results := [.lit (.bool false)], args := [d1, d2, d3] }
  | _ => none }
def FnExactReachWithWrongFalsely : Prop := fnExactReachWithRow.holds Try.pinned (OpenSpec.ofChange fnExactReachWithWrong)

/-- 'laws.FnExactIsBarrier': WHATEVER THE INPUT: true; the input reads as it did. -/
def fnExactIsBarrierSpec : ChangeSpec := { name := "fnExactIsBarrier", fn := fun _ => fun
  | [d1, d2, d3, d4] => { results := [.lit (.bool true)], args := [d1, d2, d3, d4] }
  | _ => none }
def fnExactIsBarrierRow : OpenClaim := { program := "ytoaoonmeoeifgaa", sum := "c5f1e685e3adeed3837997adf2832944abdffe407de07b264bc67818f1f075e1", func := "loop.example/g00947/laws.FnExactIsBarrier", spec := "fnExactIsBarrier", apart := false }
def FnExactIsBarrierSaid : Prop := fnExactIsBarrierRow.holds Try.pinned (OpenSpec.ofChange fnExactIsBarrierSpec)

/-- ITS FALSE NEIGHBOUR: 'it returns false'. Refute it at one input. -/
def fnExactIsBarrierWrong : ChangeSpec := { name := "fnExactIsBarrier", fn := fun _ => fun
  | [d1, d2, d3, d4] => { results := [.lit (.bool false)], args := [d1, d2, d3, d4] }
  | _ => none }
def FnExactIsBarrierWrongFalsely : Prop := fnExactIsBarrierRow.holds Try.pinned (OpenSpec.ofChange fnExactIsBarrierWrong)

/-- 'laws.FnExactCountRoutes': WHATEVER THE INPUT: true; the input reads as it did. -/
def fnExactCountRoutesSpec : ChangeSpec := { name := "fnExactCountRoutes", fn := fun _ => fun
  | [d1, d2, d3, d4] => { results := [.lit (.bool true)], args := [d1, d2, d3, d4] }
  | _ => none }
def fnExactCountRoutesRow : OpenClaim := { program := "ytoaoonmeoeifgaa", sum := "c5f1e685e3adeed3837997adf2832944abdffe407de07b264bc67818f1f075e1", func := "loop.example/g00947/laws.FnExactCountRoutes", spec := "fnExactCountRoutes", unfollowed := true, recurses := true, apart := false }
def FnExactCountRoutesSaid : Prop := fnExactCountRoutesRow.holds Try.pinned (OpenSpec.ofChange fnExactCountRoutesSpec)

/-- ITS FALSE NEIGHBOUR: 'it returns false'. Refute it at one input. -/
def fnExactCountRoutesWrong : ChangeSpec := { name := "fnExactCountRoutes", fn := fun _ => fun
  | [d1, d2, d3, d4] => { results := [.lit (.bool false)], args := [d1, d2, d3, d4] }
  | _ => none }
def FnExactCountRoutesWrongFalsely : Prop := fnExactCountRoutesRow.holds Try.pinned (OpenSpec.ofChange fnExactCountRoutesWrong)

/-- 'laws.FnExactRoomsBehind': WHATEVER THE INPUT: true; the input reads as it did. -/
def fnExactRoomsBehindSpec : ChangeSpec := { name := "fnExactRoomsBehind", fn := fun _ => fun
  | [d1, d2, d3] => { results := [.lit (.bool true)], args := [d1, d2, d3] }
  | _ => none }
def fnExactRoomsBehindRow : OpenClaim := { program := "ytoaoonmeoeifgaa", sum := "c5f1e685e3adeed3837997adf2832944abdffe407de07b264bc67818f1f075e1", func := "loop.example/g00947/laws.FnExactRoomsBehind", spec := "fnExactRoomsBehind", apart := false }
def FnExactRoomsBehindSaid : Prop := fnExactRoomsBehindRow.holds Try.pinned (OpenSpec.ofChange fnExactRoomsBehindSpec)

/-- ITS FALSE NEIGHBOUR: 'it returns false'. Refute it at one input. -/
def fnExactRoomsBehindWrong : ChangeSpec := { name := "fnExactRoomsBehind", fn := fun _ => fun
  | [d1, d2, d3] => { results := [.lit (.bool false)], args := [d1, d2, d3] }
  | _ => none }
def FnExactRoomsBehindWrongFalsely : Prop := fnExactRoomsBehindRow.holds Try.pinned (OpenSpec.ofChange fnExactRoomsBehindWrong)

/-- 'laws.FnExactLeastHitting': WHATEVER THE INPUT: true; the input reads as it did. -/
def fnExactLeastHittingSpec : ChangeSpec := { name := "fnExactLeastHitting", fn := fun _ => fun
  | [d1, d2] => { results := [.lit (.bool true)], args := [d1, d2] }
  | _ => none }
def fnExactLeastHittingRow : OpenClaim := { program := "ytoaoonmeoeifgaa", sum := "c5f1e685e3adeed3837997adf2832944abdffe407de07b264bc67818f1f075e1", func := "loop.example/g00947/laws.FnExactLeastHitting", spec := "fnExactLeastHitting", unfollowed := true, recurses := true, apart := false }
def FnExactLeastHittingSaid : Prop := fnExactLeastHittingRow.holds Try.pinned (OpenSpec.ofChange fnExactLeastHittingSpec)

/-- ITS FALSE NEIGHBOUR: 'it returns false'. Refute it at one input. -/
def fnExactLeastHittingWrong : ChangeSpec := { name := "fnExactLeastHitting", fn := fun _ => fun
  | [d1, d2] => { results := [.lit (.bool false)], args := [d1, d2] }
  | _ => none }
def FnExactLeastHittingWrongFalsely : Prop := fnExactLeastHittingRow.holds Try.pinned (OpenSpec.ofChange fnExactLeastHittingWrong)

/-- 'laws.FnExactRoutesTo': WHATEVER THE INPUT: true; the input reads as it did. -/
def fnExactRoutesToSpec : ChangeSpec := { name := "fnExactRoutesTo", fn := fun _ => fun
  | [d1, d2, d3, d4, d5] => { results := [.lit (.bool true)], args := [d1, d2, d3, d4, d5] }
  | _ => none }
def fnExactRoutesToRow : OpenClaim := { program := "ytoaoonmeoeifgaa", sum := "c5f1e685e3adeed3837997adf2832944abdffe407de07b264bc67818f1f075e1", func := "loop.example/g00947/laws.FnExactRoutesTo", spec := "fnExactRoutesTo", unfollowed := true, recurses := true, apart := false }
def FnExactRoutesToSaid : Prop := fnExactRoutesToRow.holds Try.pinned (OpenSpec.ofChange fnExactRoutesToSpec)

/-- ITS FALSE NEIGHBOUR: 'it returns false'. Refute it at one input. -/
def fnExactRoutesToWrong : ChangeSpec := { name := "fnExactRoutesTo", fn := fun _ => fun
  | [d1, d2, d3, d4, d5] => { results := [.lit (.bool false)], args := [d1, d2, d3, d4, d5] }
  | _ => none }
def FnExactRoutesToWrongFalsely : Prop := fnExactRoutesToRow.holds Try.pinned (OpenSpec.ofChange fnExactRoutesToWrong)

/-- 'laws.FnExactShortRoute': WHATEVER THE INPUT: true; the input reads as it did. -/
def fnExactShortRouteSpec : ChangeSpec := { name := "fnExactShortRoute", fn := fun _ => fun
  | [d1, d2, d3, d4] => { results := [.lit (.bool true)], args := [d1, d2, d3, d4] }
  | _ => none }
def fnExactShortRouteRow : OpenClaim := { program := "ytoaoonmeoeifgaa", sum := "c5f1e685e3adeed3837997adf2832944abdffe407de07b264bc67818f1f075e1", func := "loop.example/g00947/laws.FnExactShortRoute", spec := "fnExactShortRoute", unfollowed := true, recurses := true, apart := false }
def FnExactShortRouteSaid : Prop := fnExactShortRouteRow.holds Try.pinned (OpenSpec.ofChange fnExactShortRouteSpec)

/-- ITS FALSE NEIGHBOUR: 'it returns false'. Refute it at one input. -/
def fnExactShortRouteWrong : ChangeSpec := { name := "fnExactShortRoute", fn := fun _ => fun
  | [d1, d2, d3, d4] => { results := [.lit (.bool false)], args := [d1, d2, d3, d4] }
  | _ => none }
def FnExactShortRouteWrongFalsely : Prop := fnExactShortRouteRow.holds Try.pinned (OpenSpec.ofChange fnExactShortRouteWrong)

/-- 'laws.FnRoutes': WHATEVER THE INPUT: true; the input reads as it did. -/
def fnRoutesSpec : ChangeSpec := { name := "fnRoutes", fn := fun _ => fun
  | [d] => { results := [.lit (.bool true)], args := [d] }
  | _ => none }
def fnRoutesRow : OpenClaim := { program := "ytoaoonmeoeifgaa", sum := "c5f1e685e3adeed3837997adf2832944abdffe407de07b264bc67818f1f075e1", func := "loop.example/g00947/laws.FnRoutes", spec := "fnRoutes", unfollowed := true, recurses := true, apart := false }
def FnRoutesSaid : Prop := fnRoutesRow.holds Try.pinned (OpenSpec.ofChange fnRoutesSpec)

/-- ITS FALSE NEIGHBOUR: 'it returns false'. Refute it at one input. -/
def fnRoutesWrong : ChangeSpec := { name := "fnRoutes", fn := fun _ => fun
  | [d] => { results := [.lit (.bool false)], args := [d] }
  | _ => none }
def FnRoutesWrongFalsely : Prop := fnRoutesRow.holds Try.pinned (OpenSpec.ofChange fnRoutesWrong)

/-- 'laws.FnReached': WHATEVER THE INPUT: true; the input reads as it did. -/
def fnReachedSpec : ChangeSpec := { name := "fnReached", fn := fun _ => fun
  | [d] => { results := [.lit (.bool true)], args := [d] }
  | _ => none }
def fnReachedRow : OpenClaim := { program := "ytoaoonmeoeifgaa", sum := "c5f1e685e3adeed3837997adf2832944abdffe407de07b264bc67818f1f075e1", func := "loop.example/g00947/laws.FnReached", spec := "fnReached", unfollowed := true, recurses := true, apart := false }
def FnReachedSaid : Prop := fnReachedRow.holds Try.pinned (OpenSpec.ofChange fnReachedSpec)

/-- ITS FALSE NEIGHBOUR: 'it returns false'. Refute it at one input. -/
def fnReachedWrong : ChangeSpec := { name := "fnReached", fn := fun _ => fun
  | [d] => { results := [.lit (.bool false)], args := [d] }
  | _ => none }
def FnReachedWrongFalsely : Prop := fnReachedRow.holds Try.pinned (OpenSpec.ofChange fnReachedWrong)

/-- 'laws.FnBarriers': WHATEVER THE INPUT: true; the input reads as it did. -/
def fnBarriersSpec : ChangeSpec := { name := "fnBarriers", fn := fun _ => fun
  | [d] => { results := [.lit (.bool true)], args := [d] }
  | _ => none }
def fnBarriersRow : OpenClaim := { program := "ytoaoonmeoeifgaa", sum := "c5f1e685e3adeed3837997adf2832944abdffe407de07b264bc67818f1f075e1", func := "loop.example/g00947/laws.FnBarriers", spec := "fnBarriers", unfollowed := true, recurses := true, apart := false }
def FnBarriersSaid : Prop := fnBarriersRow.holds Try.pinned (OpenSpec.ofChange fnBarriersSpec)

/-- ITS FALSE NEIGHBOUR: 'it returns false'. Refute it at one input. -/
def fnBarriersWrong : ChangeSpec := { name := "fnBarriers", fn := fun _ => fun
  | [d] => { results := [.lit (.bool false)], args := [d] }
  | _ => none }
def FnBarriersWrongFalsely : Prop := fnBarriersRow.holds Try.pinned (OpenSpec.ofChange fnBarriersWrong)

/- THE SECOND FORM. 'bulk': how many values and letters a reading holds, each counted each time it is reached (what is shared counts as often as it is met; a slice's spare places count too). A statement '..UptoSaid' is the law's where the arguments, and the package variables that the reading takes, are together of bulk at most 1048576: NARROWER than '..Said'. Prove '..Said' where nothing that the law and all that it calls make is longer than what came in: it says more and counts as full. Else prove '..UptoSaid'. A law counts once. -/
mutual
def uptoBulk {H : Type} : DataW H → Nat
  | .lit (.string bytes) => bytes.length + 1
  | .lit _ => 1
  | .nil => 1
  | .ptr d => uptoBulk d + 1
  | .slice elems spare => uptoBulkAll elems + uptoBulkAll spare + 1
  | .agg parts => uptoBulkAll parts + 1
  | .iface _ d => uptoBulk d + 1
  | .map entries => uptoBulkEntries entries + 1
  | .held _ => 1
def uptoBulkAll {H : Type} : List (DataW H) → Nat
  | [] => 0
  | d :: r => uptoBulk d + uptoBulkAll r
def uptoBulkEntries {H : Type} : List (Lit × DataW H) → Nat
  | [] => 0
  | x :: r => uptoBulkEntry x + uptoBulkEntries r
def uptoBulkEntry {H : Type} : Lit × DataW H → Nat
  | (.string bytes, d) => bytes.length + uptoBulk d + 1
  | (_, d) => uptoBulk d + 1
 end
def uptoSmall : (H : Type) → List (DataW H) → Bool := fun _ ds => decide (uptoBulkAll ds ≤ 1048576)
def OpenSpec.upto (s : _root_.Go.ChangeSpec) : _root_.Go.OpenSpec := { _root_.Go.OpenSpec.ofChange s with cond := some uptoSmall }

/-- 'laws.FnExactOpenFor', WHERE WHAT IT READS IS OF BULK AT MOST 1048576: true; the input reads as it did. -/
def fnExactOpenForUptoRow : OpenClaim := { program := "ytoaoonmeoeifgaa", sum := "c5f1e685e3adeed3837997adf2832944abdffe407de07b264bc67818f1f075e1", func := "loop.example/g00947/laws.FnExactOpenFor", spec := "fnExactOpenFor", unfollowed := true, recurses := true, apart := false, narrowed := true }
def FnExactOpenForUptoSaid : Prop := fnExactOpenForUptoRow.holds Try.pinned (OpenSpec.upto fnExactOpenForSpec)

/-- 'laws.FnExactIsMinimal', WHERE WHAT IT READS IS OF BULK AT MOST 1048576: true; the input reads as it did. -/
def fnExactIsMinimalUptoRow : OpenClaim := { program := "ytoaoonmeoeifgaa", sum := "c5f1e685e3adeed3837997adf2832944abdffe407de07b264bc67818f1f075e1", func := "loop.example/g00947/laws.FnExactIsMinimal", spec := "fnExactIsMinimal", unfollowed := true, recurses := true, apart := false, narrowed := true }
def FnExactIsMinimalUptoSaid : Prop := fnExactIsMinimalUptoRow.holds Try.pinned (OpenSpec.upto fnExactIsMinimalSpec)

/-- 'laws.FnExactReachWith', WHERE WHAT IT READS IS OF BULK AT MOST 1048576: true; the input reads as it did. -/
def fnExactReachWithUptoRow : OpenClaim := { program := "ytoaoonmeoeifgaa", sum := "c5f1e685e3adeed3837997adf2832944abdffe407de07b264bc67818f1f075e1", func := "loop.example/g00947/laws.FnExactReachWith", spec := "fnExactReachWith", apart := false, narrowed := true }
def FnExactReachWithUptoSaid : Prop := fnExactReachWithUptoRow.holds Try.pinned (OpenSpec.upto fnExactReachWithSpec)

/-- 'laws.FnExactIsBarrier', WHERE WHAT IT READS IS OF BULK AT MOST 1048576: true; the input reads as it did. -/
def fnExactIsBarrierUptoRow : OpenClaim := { program := "ytoaoonmeoeifgaa", sum := "c5f1e685e3adeed3837997adf2832944abdffe407de07b264bc67818f1f075e1", func := "loop.example/g00947/laws.FnExactIsBarrier", spec := "fnExactIsBarrier", apart := false, narrowed := true }
def FnExactIsBarrierUptoSaid : Prop := fnExactIsBarrierUptoRow.holds Try.pinned (OpenSpec.upto fnExactIsBarrierSpec)

/-- 'laws.FnExactCountRoutes', WHERE WHAT IT READS IS OF BULK AT MOST 1048576: true; the input reads as it did. -/
def fnExactCountRoutesUptoRow : OpenClaim := { program := "ytoaoonmeoeifgaa", sum := "c5f1e685e3adeed3837997adf2832944abdffe407de07b264bc67818f1f075e1", func := "loop.example/g00947/laws.FnExactCountRoutes", spec := "fnExactCountRoutes", unfollowed := true, recurses := true, apart := false, narrowed := true }
def FnExactCountRoutesUptoSaid : Prop := fnExactCountRoutesUptoRow.holds Try.pinned (OpenSpec.upto fnExactCountRoutesSpec)

/-- 'laws.FnExactRoomsBehind', WHERE WHAT IT READS IS OF BULK AT MOST 1048576: true; the input reads as it did. -/
def fnExactRoomsBehindUptoRow : OpenClaim := { program := "ytoaoonmeoeifgaa", sum := "c5f1e685e3adeed3837997adf2832944abdffe407de07b264bc67818f1f075e1", func := "loop.example/g00947/laws.FnExactRoomsBehind", spec := "fnExactRoomsBehind", apart := false, narrowed := true }
def FnExactRoomsBehindUptoSaid : Prop := fnExactRoomsBehindUptoRow.holds Try.pinned (OpenSpec.upto fnExactRoomsBehindSpec)

/-- 'laws.FnExactLeastHitting', WHERE WHAT IT READS IS OF BULK AT MOST 1048576: true; the input reads as it did. -/
def fnExactLeastHittingUptoRow : OpenClaim := { program := "ytoaoonmeoeifgaa", sum := "c5f1e685e3adeed3837997adf2832944abdffe407de07b264bc67818f1f075e1", func := "loop.example/g00947/laws.FnExactLeastHitting", spec := "fnExactLeastHitting", unfollowed := true, recurses := true, apart := false, narrowed := true }
def FnExactLeastHittingUptoSaid : Prop := fnExactLeastHittingUptoRow.holds Try.pinned (OpenSpec.upto fnExactLeastHittingSpec)

/-- 'laws.FnExactRoutesTo', WHERE WHAT IT READS IS OF BULK AT MOST 1048576: true; the input reads as it did. -/
def fnExactRoutesToUptoRow : OpenClaim := { program := "ytoaoonmeoeifgaa", sum := "c5f1e685e3adeed3837997adf2832944abdffe407de07b264bc67818f1f075e1", func := "loop.example/g00947/laws.FnExactRoutesTo", spec := "fnExactRoutesTo", unfollowed := true, recurses := true, apart := false, narrowed := true }
def FnExactRoutesToUptoSaid : Prop := fnExactRoutesToUptoRow.holds Try.pinned (OpenSpec.upto fnExactRoutesToSpec)

/-- 'laws.FnExactShortRoute', WHERE WHAT IT READS IS OF BULK AT MOST 1048576: true; the input reads as it did. -/
def fnExactShortRouteUptoRow : OpenClaim := { program := "ytoaoonmeoeifgaa", sum := "c5f1e685e3adeed3837997adf2832944abdffe407de07b264bc67818f1f075e1", func := "loop.example/g00947/laws.FnExactShortRoute", spec := "fnExactShortRoute", unfollowed := true, recurses := true, apart := false, narrowed := true }
def FnExactShortRouteUptoSaid : Prop := fnExactShortRouteUptoRow.holds Try.pinned (OpenSpec.upto fnExactShortRouteSpec)

/-- 'laws.FnRoutes', WHERE WHAT IT READS IS OF BULK AT MOST 1048576: true; the input reads as it did. -/
def fnRoutesUptoRow : OpenClaim := { program := "ytoaoonmeoeifgaa", sum := "c5f1e685e3adeed3837997adf2832944abdffe407de07b264bc67818f1f075e1", func := "loop.example/g00947/laws.FnRoutes", spec := "fnRoutes", unfollowed := true, recurses := true, apart := false, narrowed := true }
def FnRoutesUptoSaid : Prop := fnRoutesUptoRow.holds Try.pinned (OpenSpec.upto fnRoutesSpec)

/-- 'laws.FnReached', WHERE WHAT IT READS IS OF BULK AT MOST 1048576: true; the input reads as it did. -/
def fnReachedUptoRow : OpenClaim := { program := "ytoaoonmeoeifgaa", sum := "c5f1e685e3adeed3837997adf2832944abdffe407de07b264bc67818f1f075e1", func := "loop.example/g00947/laws.FnReached", spec := "fnReached", unfollowed := true, recurses := true, apart := false, narrowed := true }
def FnReachedUptoSaid : Prop := fnReachedUptoRow.holds Try.pinned (OpenSpec.upto fnReachedSpec)

/-- 'laws.FnBarriers', WHERE WHAT IT READS IS OF BULK AT MOST 1048576: true; the input reads as it did. -/
def fnBarriersUptoRow : OpenClaim := { program := "ytoaoonmeoeifgaa", sum := "c5f1e685e3adeed3837997adf2832944abdffe407de07b264bc67818f1f075e1", func := "loop.example/g00947/laws.FnBarriers", spec := "fnBarriers", unfollowed := true, recurses := true, apart := false, narrowed := true }
def FnBarriersUptoSaid : Prop := fnBarriersUptoRow.holds Try.pinned (OpenSpec.upto fnBarriersSpec)

end Rows
end Go.Proofs.Ytoaoonmeoeifgaa
