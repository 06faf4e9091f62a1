/-
  No cell of these rows narrows 'for every input' (looked for: loops, veiled, ifaces, maps, wideKeys, modest, calm, conditions, laid).
  DERIVED. THE GIVEN ROWS OF THIS SEAT. 6 by the template 'for every input the law returns true; each argument reads behind the call as it read before'; 0 by the template 'total and deterministic' (their statements: YtaogpbhgoeepbaaTotals.lean).
  GIVEN WITH THE SEED: the statements are not yours to turn. If you find one false, say at which input.
  Laid BY PROGRAM, IN A SANDBOX (cutbox-rows.mjs): the forced cells as the released guide's own fill.sh prints them over the translation cfc7b47c1821184d… (all of the seat's roots in one cut). By AI agents, Wed Nov 11 2026. No macro, syntax, notation, axiom, sorry.
-/
import Derived.Test.YtaogpbhgoeepbaaChecked
import GoSem.Claim
import GoSem.ClaimJoined
import GoSem.ClaimMapViews
import Derived.JoinedTies
import Derived.KernelRfl
namespace Go.Proofs.Ytaogpbhgoeepbaa
/- THE CELL 'sum', in the pinned program and in every row, IS THE sha256 OF THE DUMP (.gsa) THAT YtaogpbhgoeepbaaProg.lean LOADS. Nothing in Lean hashes anything: it is a label: what it is worth is what the hold of that sum in a sandbox is worth. -/
noncomputable def Try.pinned : Pinned := { name := "ytaogpbhgoeepbaa", sum := "cfc7b47c1821184dca7a6f37c76b2e0d963bcd4d1b95c934e510ae500ee10253", checked := Try.checked }
namespace Rows
def none {H : Type} : Left H := { results := [], args := [] }

/-- 'laws.FnExactDoorsToChange': WHATEVER THE INPUT: true; the input reads as it did. -/
def fnExactDoorsToChangeSpec : ChangeSpec := { name := "fnExactDoorsToChange", fn := fun _ => fun
  | [d1, d2, d3, d4] => { results := [.lit (.bool true)], args := [d1, d2, d3, d4] }
  | _ => none }
def fnExactDoorsToChangeRow : OpenClaim := { program := "ytaogpbhgoeepbaa", sum := "cfc7b47c1821184dca7a6f37c76b2e0d963bcd4d1b95c934e510ae500ee10253", func := "loop.example/g00947/laws.FnExactDoorsToChange", spec := "fnExactDoorsToChange", unfollowed := true, recurses := true, apart := false }
def FnExactDoorsToChangeSaid : Prop := fnExactDoorsToChangeRow.holds Try.pinned (OpenSpec.ofChange fnExactDoorsToChangeSpec)

/-- ITS FALSE NEIGHBOUR: 'it returns false'. Refute it at one input. -/
def fnExactDoorsToChangeWrong : ChangeSpec := { name := "fnExactDoorsToChange", fn := fun _ => fun
  | [d1, d2, d3, d4] => { results := [.lit (.bool false)], args := [d1, d2, d3, d4] }
  | _ => none }
def FnExactDoorsToChangeWrongFalsely : Prop := fnExactDoorsToChangeRow.holds Try.pinned (OpenSpec.ofChange fnExactDoorsToChangeWrong)

/-- 'laws.FnExactGreedyHitting': WHATEVER THE INPUT: true; the input reads as it did. -/
def fnExactGreedyHittingSpec : ChangeSpec := { name := "fnExactGreedyHitting", fn := fun _ => fun
  | [d1, d2] => { results := [.lit (.bool true)], args := [d1, d2] }
  | _ => none }
def fnExactGreedyHittingRow : OpenClaim := { program := "ytaogpbhgoeepbaa", sum := "cfc7b47c1821184dca7a6f37c76b2e0d963bcd4d1b95c934e510ae500ee10253", func := "loop.example/g00947/laws.FnExactGreedyHitting", spec := "fnExactGreedyHitting", unfollowed := true, recurses := true, apart := false }
def FnExactGreedyHittingSaid : Prop := fnExactGreedyHittingRow.holds Try.pinned (OpenSpec.ofChange fnExactGreedyHittingSpec)

/-- ITS FALSE NEIGHBOUR: 'it returns false'. Refute it at one input. -/
def fnExactGreedyHittingWrong : ChangeSpec := { name := "fnExactGreedyHitting", fn := fun _ => fun
  | [d1, d2] => { results := [.lit (.bool false)], args := [d1, d2] }
  | _ => none }
def FnExactGreedyHittingWrongFalsely : Prop := fnExactGreedyHittingRow.holds Try.pinned (OpenSpec.ofChange fnExactGreedyHittingWrong)

/-- 'laws.FnExactMinimalHittings': WHATEVER THE INPUT: true; the input reads as it did. -/
def fnExactMinimalHittingsSpec : ChangeSpec := { name := "fnExactMinimalHittings", fn := fun _ => fun
  | [d1, d2, d3] => { results := [.lit (.bool true)], args := [d1, d2, d3] }
  | _ => none }
def fnExactMinimalHittingsRow : OpenClaim := { program := "ytaogpbhgoeepbaa", sum := "cfc7b47c1821184dca7a6f37c76b2e0d963bcd4d1b95c934e510ae500ee10253", func := "loop.example/g00947/laws.FnExactMinimalHittings", spec := "fnExactMinimalHittings", unfollowed := true, recurses := true, apart := false }
def FnExactMinimalHittingsSaid : Prop := fnExactMinimalHittingsRow.holds Try.pinned (OpenSpec.ofChange fnExactMinimalHittingsSpec)

/-- ITS FALSE NEIGHBOUR: 'it returns false'. Refute it at one input. -/
def fnExactMinimalHittingsWrong : ChangeSpec := { name := "fnExactMinimalHittings", fn := fun _ => fun
  | [d1, d2, d3] => { results := [.lit (.bool false)], args := [d1, d2, d3] }
  | _ => none }
def FnExactMinimalHittingsWrongFalsely : Prop := fnExactMinimalHittingsRow.holds Try.pinned (OpenSpec.ofChange fnExactMinimalHittingsWrong)

/-- 'laws.FnHitting': WHATEVER THE INPUT: true; the input reads as it did. -/
def fnHittingSpec : ChangeSpec := { name := "fnHitting", fn := fun _ => fun
  | [d] => { results := [.lit (.bool true)], args := [d] }
  | _ => none }
def fnHittingRow : OpenClaim := { program := "ytaogpbhgoeepbaa", sum := "cfc7b47c1821184dca7a6f37c76b2e0d963bcd4d1b95c934e510ae500ee10253", func := "loop.example/g00947/laws.FnHitting", spec := "fnHitting", unfollowed := true, recurses := true, apart := false }
def FnHittingSaid : Prop := fnHittingRow.holds Try.pinned (OpenSpec.ofChange fnHittingSpec)

/-- ITS FALSE NEIGHBOUR: 'it returns false'. Refute it at one input. -/
def fnHittingWrong : ChangeSpec := { name := "fnHitting", fn := fun _ => fun
  | [d] => { results := [.lit (.bool false)], args := [d] }
  | _ => none }
def FnHittingWrongFalsely : Prop := fnHittingRow.holds Try.pinned (OpenSpec.ofChange fnHittingWrong)

/-- 'laws.FnMinimal': WHATEVER THE INPUT: true; the input reads as it did. -/
def fnMinimalSpec : ChangeSpec := { name := "fnMinimal", fn := fun _ => fun
  | [d] => { results := [.lit (.bool true)], args := [d] }
  | _ => none }
def fnMinimalRow : OpenClaim := { program := "ytaogpbhgoeepbaa", sum := "cfc7b47c1821184dca7a6f37c76b2e0d963bcd4d1b95c934e510ae500ee10253", func := "loop.example/g00947/laws.FnMinimal", spec := "fnMinimal", unfollowed := true, recurses := true, apart := false }
def FnMinimalSaid : Prop := fnMinimalRow.holds Try.pinned (OpenSpec.ofChange fnMinimalSpec)

/-- ITS FALSE NEIGHBOUR: 'it returns false'. Refute it at one input. -/
def fnMinimalWrong : ChangeSpec := { name := "fnMinimal", fn := fun _ => fun
  | [d] => { results := [.lit (.bool false)], args := [d] }
  | _ => none }
def FnMinimalWrongFalsely : Prop := fnMinimalRow.holds Try.pinned (OpenSpec.ofChange fnMinimalWrong)

/-- 'laws.FnCovers': WHATEVER THE INPUT: true; the input reads as it did. -/
def fnCoversSpec : ChangeSpec := { name := "fnCovers", fn := fun _ => fun
  | [d] => { results := [.lit (.bool true)], args := [d] }
  | _ => none }
def fnCoversRow : OpenClaim := { program := "ytaogpbhgoeepbaa", sum := "cfc7b47c1821184dca7a6f37c76b2e0d963bcd4d1b95c934e510ae500ee10253", func := "loop.example/g00947/laws.FnCovers", spec := "fnCovers", unfollowed := true, recurses := true, apart := false }
def FnCoversSaid : Prop := fnCoversRow.holds Try.pinned (OpenSpec.ofChange fnCoversSpec)

/-- ITS FALSE NEIGHBOUR: 'it returns false'. Refute it at one input. -/
def fnCoversWrong : ChangeSpec := { name := "fnCovers", fn := fun _ => fun
  | [d] => { results := [.lit (.bool false)], args := [d] }
  | _ => none }
def FnCoversWrongFalsely : Prop := fnCoversRow.holds Try.pinned (OpenSpec.ofChange fnCoversWrong)

/- THE SECOND FORM. 'bulk': how many values and letters a reading holds, each counted each time it is reached (what is shared counts as often as it is met; a slice's spare places count too). A statement '..UptoSaid' is the law's where the arguments, and the package variables that the reading takes, are together of bulk at most 1048576: NARROWER than '..Said'. Prove '..Said' where nothing that the law and all that it calls make is longer than what came in: it says more and counts as full. Else prove '..UptoSaid'. A law counts once. -/
mutual
def uptoBulk {H : Type} : DataW H → Nat
  | .lit (.string bytes) => bytes.length + 1
  | .lit _ => 1
  | .nil => 1
  | .ptr d => uptoBulk d + 1
  | .slice elems spare => uptoBulkAll elems + uptoBulkAll spare + 1
  | .agg parts => uptoBulkAll parts + 1
  | .iface _ d => uptoBulk d + 1
  | .map entries => uptoBulkEntries entries + 1
  | .held _ => 1
def uptoBulkAll {H : Type} : List (DataW H) → Nat
  | [] => 0
  | d :: r => uptoBulk d + uptoBulkAll r
def uptoBulkEntries {H : Type} : List (Lit × DataW H) → Nat
  | [] => 0
  | x :: r => uptoBulkEntry x + uptoBulkEntries r
def uptoBulkEntry {H : Type} : Lit × DataW H → Nat
  | (.string bytes, d) => bytes.length + uptoBulk d + 1
  | (_, d) => uptoBulk d + 1
 end
def uptoSmall : (H : Type) → List (DataW H) → Bool := fun _ ds => decide (uptoBulkAll ds ≤ 1048576)
def OpenSpec.upto (s : _root_.Go.ChangeSpec) : _root_.Go.OpenSpec := { _root_.Go.OpenSpec.ofChange s with cond := some uptoSmall }

/-- 'laws.FnExactDoorsToChange', WHERE WHAT IT READS IS OF BULK AT MOST 1048576: true; the input reads as it did. -/
def fnExactDoorsToChangeUptoRow : OpenClaim := { program := "ytaogpbhgoeepbaa", sum := "cfc7b47c1821184dca7a6f37c76b2e0d963bcd4d1b95c934e510ae500ee10253", func := "loop.example/g00947/laws.FnExactDoorsToChange", spec := "fnExactDoorsToChange", unfollowed := true, recurses := true, apart := false, narrowed := true }
def FnExactDoorsToChangeUptoSaid : Prop := fnExactDoorsToChangeUptoRow.holds Try.pinned (OpenSpec.upto fnExactDoorsToChangeSpec)

/-- 'laws.FnExactGreedyHitting', WHERE WHAT IT READS IS OF BULK AT MOST 1048576: true; the input reads as it did. -/
def fnExactGreedyHittingUptoRow : OpenClaim := { program := "ytaogpbhgoeepbaa", sum := "cfc7b47c1821184dca7a6f37c76b2e0d963bcd4d1b95c934e510ae500ee10253", func := "loop.example/g00947/laws.FnExactGreedyHitting", spec := "fnExactGreedyHitting", unfollowed := true, recurses := true, apart := false, narrowed := true }
def FnExactGreedyHittingUptoSaid : Prop := fnExactGreedyHittingUptoRow.holds Try.pinned (OpenSpec.upto fnExactGreedyHittingSpec)

/-- 'laws.FnExactMinimalHittings', WHERE WHAT IT READS IS OF BULK AT MOST 1048576: true; the input reads as it did. -/
def fnExactMinimalHittingsUptoRow : OpenClaim := { program := "ytaogpbhgoeepbaa", sum := "cfc7b47c1821184dca7a6f37c76b2e0d963bcd4d1b95c934e510ae500ee10253", func := "loop.example/g00947/laws.FnExactMinimalHittings", spec := "fnExactMinimalHittings", unfollowed := true, recurses := true, apart := false, narrowed := true }
def FnExactMinimalHittingsUptoSaid : Prop := fnExactMinimalHittingsUptoRow.holds Try.pinned (OpenSpec.upto fnExactMinimalHittingsSpec)

/-- 'laws.FnHitting', WHERE WHAT IT READS IS OF BULK AT MOST 1048576: true; the input reads as it did. -/
def fnHittingUptoRow : OpenClaim := { program := "ytaogpbhgoeepbaa", sum := "cfc7b47c1821184dca7a6f37c76b2e0d963bcd4d1b95c934e510ae500ee10253", func := "loop.example/g00947/laws.FnHitting", spec := "fnHitting", unfollowed := true, recurses := true, apart := false, narrowed := true }
def FnHittingUptoSaid : Prop := fnHittingUptoRow.holds Try.pinned (OpenSpec.upto fnHittingSpec)

/-- 'laws.FnMinimal', WHERE WHAT IT READS IS OF BULK AT MOST 1048576: true; the input reads as it did. -/
def fnMinimalUptoRow : OpenClaim := { program := "ytaogpbhgoeepbaa", sum := "cfc7b47c1821184dca7a6f37c76b2e0d963bcd4d1b95c934e510ae500ee10253", func := "loop.example/g00947/laws.FnMinimal", spec := "fnMinimal", unfollowed := true, recurses := true, apart := false, narrowed := true }
def FnMinimalUptoSaid : Prop := fnMinimalUptoRow.holds Try.pinned (OpenSpec.upto fnMinimalSpec)

/-- 'laws.FnCovers', WHERE WHAT IT READS IS OF BULK AT MOST 1048576: true; the input reads as it did. -/
def fnCoversUptoRow : OpenClaim := { program := "ytaogpbhgoeepbaa", sum := "cfc7b47c1821184dca7a6f37c76b2e0d963bcd4d1b95c934e510ae500ee10253", func := "loop.example/g00947/laws.FnCovers", spec := "fnCovers", unfollowed := true, recurses := true, apart := false, narrowed := true }
def FnCoversUptoSaid : Prop := fnCoversUptoRow.holds Try.pinned (OpenSpec.upto fnCoversSpec)

end Rows
end Go.Proofs.Ytaogpbhgoeepbaa
