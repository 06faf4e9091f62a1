/-
  No cell of these rows narrows 'for every input' (looked for: loops, veiled, ifaces, maps, wideKeys, modest, calm, conditions, laid).
  DERIVED. THE GIVEN ROWS OF THIS SEAT. 10 by the template 'for every input the law returns true; each argument reads behind the call as it read before'; 0 by the template 'total and deterministic' (their statements: YtblmccofkochoaaGreatTotals.lean).
  GIVEN WITH THE SEED: the statements are not yours to turn. If you find one false, say at which input.
  Laid BY PROGRAM, IN A SANDBOX (cutbox-rows.mjs): the forced cells as the released guide's own fill.sh prints them over the translation 1096b5e4a5c4f301… (all of the seat's roots in one cut). By AI agents, Wed Nov 11 2026. No macro, syntax, notation, axiom, sorry.
-/
import Derived.Test.YtblmccofkochoaaGreatChecked
import GoSem.Claim
import GoSem.ClaimJoined
import GoSem.ClaimMapViews
import Derived.JoinedTies
import Derived.KernelRfl
namespace Go.Proofs.YtblmccofkochoaaGreat
/- THE CELL 'sum', in the pinned program and in every row, IS THE sha256 OF THE DUMP (.gsa) THAT YtblmccofkochoaaGreatProg.lean LOADS. Nothing in Lean hashes anything: it is a label: what it is worth is what the hold of that sum in a sandbox is worth. -/
noncomputable def Tryz.pinned : Pinned := { name := "ytblmccofkochoaagreat", sum := "1096b5e4a5c4f3011c29e9d0850b316afc272cb7229d50a0723b8925c397b5b4", checked := Tryz.checked }
namespace Rows
def none {H : Type} : Left H := { results := [], args := [] }

/-- 'laws.FnExactIssueKeys': WHATEVER THE INPUT: true; the input reads as it did. -/
def fnExactIssueKeysSpec : ChangeSpec := { name := "fnExactIssueKeys", fn := fun _ => fun
  | [d1, d2, d3, d4] => { results := [.lit (.bool true)], args := [d1, d2, d3, d4] }
  | _ => none }
def fnExactIssueKeysRow : OpenClaim := { program := "ytblmccofkochoaagreat", sum := "1096b5e4a5c4f3011c29e9d0850b316afc272cb7229d50a0723b8925c397b5b4", func := "loop.example/g00947/laws.FnExactIssueKeys", spec := "fnExactIssueKeys", unfollowed := true, recurses := true, apart := false }
def FnExactIssueKeysSaid : Prop := fnExactIssueKeysRow.holds Tryz.pinned (OpenSpec.ofChange fnExactIssueKeysSpec)

/-- ITS FALSE NEIGHBOUR: 'it returns false'. Refute it at one input. -/
def fnExactIssueKeysWrong : ChangeSpec := { name := "fnExactIssueKeys", fn := fun _ => fun
  | [d1, d2, d3, d4] => { results := [.lit (.bool false)], args := [d1, d2, d3, d4] }
  | _ => none }
def FnExactIssueKeysWrongFalsely : Prop := fnExactIssueKeysRow.holds Tryz.pinned (OpenSpec.ofChange fnExactIssueKeysWrong)

/-- 'laws.FnExactEasiestKey': WHATEVER THE INPUT: true; the input reads as it did. -/
def fnExactEasiestKeySpec : ChangeSpec := { name := "fnExactEasiestKey", fn := fun _ => fun
  | [d1, d2, d3] => { results := [.lit (.bool true)], args := [d1, d2, d3] }
  | _ => none }
def fnExactEasiestKeyRow : OpenClaim := { program := "ytblmccofkochoaagreat", sum := "1096b5e4a5c4f3011c29e9d0850b316afc272cb7229d50a0723b8925c397b5b4", func := "loop.example/g00947/laws.FnExactEasiestKey", spec := "fnExactEasiestKey", unfollowed := true, recurses := true, apart := false }
def FnExactEasiestKeySaid : Prop := fnExactEasiestKeyRow.holds Tryz.pinned (OpenSpec.ofChange fnExactEasiestKeySpec)

/-- ITS FALSE NEIGHBOUR: 'it returns false'. Refute it at one input. -/
def fnExactEasiestKeyWrong : ChangeSpec := { name := "fnExactEasiestKey", fn := fun _ => fun
  | [d1, d2, d3] => { results := [.lit (.bool false)], args := [d1, d2, d3] }
  | _ => none }
def FnExactEasiestKeyWrongFalsely : Prop := fnExactEasiestKeyRow.holds Tryz.pinned (OpenSpec.ofChange fnExactEasiestKeyWrong)

/-- 'laws.FnCosts': WHATEVER THE INPUT: true; the input reads as it did. -/
def fnCostsSpec : ChangeSpec := { name := "fnCosts", fn := fun _ => fun
  | [d] => { results := [.lit (.bool true)], args := [d] }
  | _ => none }
def fnCostsRow : OpenClaim := { program := "ytblmccofkochoaagreat", sum := "1096b5e4a5c4f3011c29e9d0850b316afc272cb7229d50a0723b8925c397b5b4", func := "loop.example/g00947/laws.FnCosts", spec := "fnCosts", unfollowed := true, recurses := true, apart := false }
def FnCostsSaid : Prop := fnCostsRow.holds Tryz.pinned (OpenSpec.ofChange fnCostsSpec)

/-- ITS FALSE NEIGHBOUR: 'it returns false'. Refute it at one input. -/
def fnCostsWrong : ChangeSpec := { name := "fnCosts", fn := fun _ => fun
  | [d] => { results := [.lit (.bool false)], args := [d] }
  | _ => none }
def FnCostsWrongFalsely : Prop := fnCostsRow.holds Tryz.pinned (OpenSpec.ofChange fnCostsWrong)

/-- 'laws.FnChanged': WHATEVER THE INPUT: true; the input reads as it did. -/
def fnChangedSpec : ChangeSpec := { name := "fnChanged", fn := fun _ => fun
  | [d] => { results := [.lit (.bool true)], args := [d] }
  | _ => none }
def fnChangedRow : OpenClaim := { program := "ytblmccofkochoaagreat", sum := "1096b5e4a5c4f3011c29e9d0850b316afc272cb7229d50a0723b8925c397b5b4", func := "loop.example/g00947/laws.FnChanged", spec := "fnChanged", unfollowed := true, recurses := true, apart := false }
def FnChangedSaid : Prop := fnChangedRow.holds Tryz.pinned (OpenSpec.ofChange fnChangedSpec)

/-- ITS FALSE NEIGHBOUR: 'it returns false'. Refute it at one input. -/
def fnChangedWrong : ChangeSpec := { name := "fnChanged", fn := fun _ => fun
  | [d] => { results := [.lit (.bool false)], args := [d] }
  | _ => none }
def FnChangedWrongFalsely : Prop := fnChangedRow.holds Tryz.pinned (OpenSpec.ofChange fnChangedWrong)

/-- 'laws.FnRetired': WHATEVER THE INPUT: true; the input reads as it did. -/
def fnRetiredSpec : ChangeSpec := { name := "fnRetired", fn := fun _ => fun
  | [d] => { results := [.lit (.bool true)], args := [d] }
  | _ => none }
def fnRetiredRow : OpenClaim := { program := "ytblmccofkochoaagreat", sum := "1096b5e4a5c4f3011c29e9d0850b316afc272cb7229d50a0723b8925c397b5b4", func := "loop.example/g00947/laws.FnRetired", spec := "fnRetired", unfollowed := true, recurses := true, apart := false }
def FnRetiredSaid : Prop := fnRetiredRow.holds Tryz.pinned (OpenSpec.ofChange fnRetiredSpec)

/-- ITS FALSE NEIGHBOUR: 'it returns false'. Refute it at one input. -/
def fnRetiredWrong : ChangeSpec := { name := "fnRetired", fn := fun _ => fun
  | [d] => { results := [.lit (.bool false)], args := [d] }
  | _ => none }
def FnRetiredWrongFalsely : Prop := fnRetiredRow.holds Tryz.pinned (OpenSpec.ofChange fnRetiredWrong)

/-- 'laws.FnIssued': WHATEVER THE INPUT: true; the input reads as it did. -/
def fnIssuedSpec : ChangeSpec := { name := "fnIssued", fn := fun _ => fun
  | [d] => { results := [.lit (.bool true)], args := [d] }
  | _ => none }
def fnIssuedRow : OpenClaim := { program := "ytblmccofkochoaagreat", sum := "1096b5e4a5c4f3011c29e9d0850b316afc272cb7229d50a0723b8925c397b5b4", func := "loop.example/g00947/laws.FnIssued", spec := "fnIssued", unfollowed := true, recurses := true, apart := false }
def FnIssuedSaid : Prop := fnIssuedRow.holds Tryz.pinned (OpenSpec.ofChange fnIssuedSpec)

/-- ITS FALSE NEIGHBOUR: 'it returns false'. Refute it at one input. -/
def fnIssuedWrong : ChangeSpec := { name := "fnIssued", fn := fun _ => fun
  | [d] => { results := [.lit (.bool false)], args := [d] }
  | _ => none }
def FnIssuedWrongFalsely : Prop := fnIssuedRow.holds Tryz.pinned (OpenSpec.ofChange fnIssuedWrong)

/-- 'laws.FnIssueKeys': WHATEVER THE INPUT: true; the input reads as it did. -/
def fnIssueKeysSpec : ChangeSpec := { name := "fnIssueKeys", fn := fun _ => fun
  | [d] => { results := [.lit (.bool true)], args := [d] }
  | _ => none }
def fnIssueKeysRow : OpenClaim := { program := "ytblmccofkochoaagreat", sum := "1096b5e4a5c4f3011c29e9d0850b316afc272cb7229d50a0723b8925c397b5b4", func := "loop.example/g00947/laws.FnIssueKeys", spec := "fnIssueKeys", unfollowed := true, recurses := true, apart := false }
def FnIssueKeysSaid : Prop := fnIssueKeysRow.holds Tryz.pinned (OpenSpec.ofChange fnIssueKeysSpec)

/-- ITS FALSE NEIGHBOUR: 'it returns false'. Refute it at one input. -/
def fnIssueKeysWrong : ChangeSpec := { name := "fnIssueKeys", fn := fun _ => fun
  | [d] => { results := [.lit (.bool false)], args := [d] }
  | _ => none }
def FnIssueKeysWrongFalsely : Prop := fnIssueKeysRow.holds Tryz.pinned (OpenSpec.ofChange fnIssueKeysWrong)

/-- 'laws.FnWafers': WHATEVER THE INPUT: true; the input reads as it did. -/
def fnWafersSpec : ChangeSpec := { name := "fnWafers", fn := fun _ => fun
  | [d] => { results := [.lit (.bool true)], args := [d] }
  | _ => none }
def fnWafersRow : OpenClaim := { program := "ytblmccofkochoaagreat", sum := "1096b5e4a5c4f3011c29e9d0850b316afc272cb7229d50a0723b8925c397b5b4", func := "loop.example/g00947/laws.FnWafers", spec := "fnWafers", unfollowed := true, recurses := true, apart := false }
def FnWafersSaid : Prop := fnWafersRow.holds Tryz.pinned (OpenSpec.ofChange fnWafersSpec)

/-- ITS FALSE NEIGHBOUR: 'it returns false'. Refute it at one input. -/
def fnWafersWrong : ChangeSpec := { name := "fnWafers", fn := fun _ => fun
  | [d] => { results := [.lit (.bool false)], args := [d] }
  | _ => none }
def FnWafersWrongFalsely : Prop := fnWafersRow.holds Tryz.pinned (OpenSpec.ofChange fnWafersWrong)

/-- 'laws.FnBest': WHATEVER THE INPUT: true; the input reads as it did. -/
def fnBestSpec : ChangeSpec := { name := "fnBest", fn := fun _ => fun
  | [d] => { results := [.lit (.bool true)], args := [d] }
  | _ => none }
def fnBestRow : OpenClaim := { program := "ytblmccofkochoaagreat", sum := "1096b5e4a5c4f3011c29e9d0850b316afc272cb7229d50a0723b8925c397b5b4", func := "loop.example/g00947/laws.FnBest", spec := "fnBest", unfollowed := true, recurses := true, apart := false }
def FnBestSaid : Prop := fnBestRow.holds Tryz.pinned (OpenSpec.ofChange fnBestSpec)

/-- ITS FALSE NEIGHBOUR: 'it returns false'. Refute it at one input. -/
def fnBestWrong : ChangeSpec := { name := "fnBest", fn := fun _ => fun
  | [d] => { results := [.lit (.bool false)], args := [d] }
  | _ => none }
def FnBestWrongFalsely : Prop := fnBestRow.holds Tryz.pinned (OpenSpec.ofChange fnBestWrong)

/-- 'laws.FnDoors': WHATEVER THE INPUT: true; the input reads as it did. -/
def fnDoorsSpec : ChangeSpec := { name := "fnDoors", fn := fun _ => fun
  | [d] => { results := [.lit (.bool true)], args := [d] }
  | _ => none }
def fnDoorsRow : OpenClaim := { program := "ytblmccofkochoaagreat", sum := "1096b5e4a5c4f3011c29e9d0850b316afc272cb7229d50a0723b8925c397b5b4", func := "loop.example/g00947/laws.FnDoors", spec := "fnDoors", unfollowed := true, recurses := true, apart := false }
def FnDoorsSaid : Prop := fnDoorsRow.holds Tryz.pinned (OpenSpec.ofChange fnDoorsSpec)

/-- ITS FALSE NEIGHBOUR: 'it returns false'. Refute it at one input. -/
def fnDoorsWrong : ChangeSpec := { name := "fnDoors", fn := fun _ => fun
  | [d] => { results := [.lit (.bool false)], args := [d] }
  | _ => none }
def FnDoorsWrongFalsely : Prop := fnDoorsRow.holds Tryz.pinned (OpenSpec.ofChange fnDoorsWrong)

/- THE SECOND FORM. 'bulk': how many values and letters a reading holds, each counted each time it is reached (what is shared counts as often as it is met; a slice's spare places count too). A statement '..UptoSaid' is the law's where the arguments, and the package variables that the reading takes, are together of bulk at most 1048576: NARROWER than '..Said'. Prove '..Said' where nothing that the law and all that it calls make is longer than what came in: it says more and counts as full. Else prove '..UptoSaid'. A law counts once. -/
mutual
def uptoBulk {H : Type} : DataW H → Nat
  | .lit (.string bytes) => bytes.length + 1
  | .lit _ => 1
  | .nil => 1
  | .ptr d => uptoBulk d + 1
  | .slice elems spare => uptoBulkAll elems + uptoBulkAll spare + 1
  | .agg parts => uptoBulkAll parts + 1
  | .iface _ d => uptoBulk d + 1
  | .map entries => uptoBulkEntries entries + 1
  | .held _ => 1
def uptoBulkAll {H : Type} : List (DataW H) → Nat
  | [] => 0
  | d :: r => uptoBulk d + uptoBulkAll r
def uptoBulkEntries {H : Type} : List (Lit × DataW H) → Nat
  | [] => 0
  | x :: r => uptoBulkEntry x + uptoBulkEntries r
def uptoBulkEntry {H : Type} : Lit × DataW H → Nat
  | (.string bytes, d) => bytes.length + uptoBulk d + 1
  | (_, d) => uptoBulk d + 1
 end
def uptoSmall : (H : Type) → List (DataW H) → Bool := fun _ ds => decide (uptoBulkAll ds ≤ 1048576)
def OpenSpec.upto (s : _root_.Go.ChangeSpec) : _root_.Go.OpenSpec := { _root_.Go.OpenSpec.ofChange s with cond := some uptoSmall }

/-- 'laws.FnExactIssueKeys', WHERE WHAT IT READS IS OF BULK AT MOST 1048576: true; the input reads as it did. -/
def fnExactIssueKeysUptoRow : OpenClaim := { program := "ytblmccofkochoaagreat", sum := "1096b5e4a5c4f3011c29e9d0850b316afc272cb7229d50a0723b8925c397b5b4", func := "loop.example/g00947/laws.FnExactIssueKeys", spec := "fnExactIssueKeys", unfollowed := true, recurses := true, apart := false, narrowed := true }
def FnExactIssueKeysUptoSaid : Prop := fnExactIssueKeysUptoRow.holds Tryz.pinned (OpenSpec.upto fnExactIssueKeysSpec)

/-- 'laws.FnExactEasiestKey', WHERE WHAT IT READS IS OF BULK AT MOST 1048576: true; the input reads as it did. -/
def fnExactEasiestKeyUptoRow : OpenClaim := { program := "ytblmccofkochoaagreat", sum := "1096b5e4a5c4f3011c29e9d0850b316afc272cb7229d50a0723b8925c397b5b4", func := "loop.example/g00947/laws.FnExactEasiestKey", spec := "fnExactEasiestKey", unfollowed := true, recurses := true, apart := false, narrowed := true }
def FnExactEasiestKeyUptoSaid : Prop := fnExactEasiestKeyUptoRow.holds Tryz.pinned (OpenSpec.upto fnExactEasiestKeySpec)

/-- 'laws.FnCosts', WHERE WHAT IT READS IS OF BULK AT MOST 1048576: true; the input reads as it did. -/
def fnCostsUptoRow : OpenClaim := { program := "ytblmccofkochoaagreat", sum := "1096b5e4a5c4f3011c29e9d0850b316afc272cb7229d50a0723b8925c397b5b4", func := "loop.example/g00947/laws.FnCosts", spec := "fnCosts", unfollowed := true, recurses := true, apart := false, narrowed := true }
def FnCostsUptoSaid : Prop := fnCostsUptoRow.holds Tryz.pinned (OpenSpec.upto fnCostsSpec)

/-- 'laws.FnChanged', WHERE WHAT IT READS IS OF BULK AT MOST 1048576: true; the input reads as it did. -/
def fnChangedUptoRow : OpenClaim := { program := "ytblmccofkochoaagreat", sum := "1096b5e4a5c4f3011c29e9d0850b316afc272cb7229d50a0723b8925c397b5b4", func := "loop.example/g00947/laws.FnChanged", spec := "fnChanged", unfollowed := true, recurses := true, apart := false, narrowed := true }
def FnChangedUptoSaid : Prop := fnChangedUptoRow.holds Tryz.pinned (OpenSpec.upto fnChangedSpec)

/-- 'laws.FnRetired', WHERE WHAT IT READS IS OF BULK AT MOST 1048576: true; the input reads as it did. -/
def fnRetiredUptoRow : OpenClaim := { program := "ytblmccofkochoaagreat", sum := "1096b5e4a5c4f3011c29e9d0850b316afc272cb7229d50a0723b8925c397b5b4", func := "loop.example/g00947/laws.FnRetired", spec := "fnRetired", unfollowed := true, recurses := true, apart := false, narrowed := true }
def FnRetiredUptoSaid : Prop := fnRetiredUptoRow.holds Tryz.pinned (OpenSpec.upto fnRetiredSpec)

/-- 'laws.FnIssued', WHERE WHAT IT READS IS OF BULK AT MOST 1048576: true; the input reads as it did. -/
def fnIssuedUptoRow : OpenClaim := { program := "ytblmccofkochoaagreat", sum := "1096b5e4a5c4f3011c29e9d0850b316afc272cb7229d50a0723b8925c397b5b4", func := "loop.example/g00947/laws.FnIssued", spec := "fnIssued", unfollowed := true, recurses := true, apart := false, narrowed := true }
def FnIssuedUptoSaid : Prop := fnIssuedUptoRow.holds Tryz.pinned (OpenSpec.upto fnIssuedSpec)

/-- 'laws.FnIssueKeys', WHERE WHAT IT READS IS OF BULK AT MOST 1048576: true; the input reads as it did. -/
def fnIssueKeysUptoRow : OpenClaim := { program := "ytblmccofkochoaagreat", sum := "1096b5e4a5c4f3011c29e9d0850b316afc272cb7229d50a0723b8925c397b5b4", func := "loop.example/g00947/laws.FnIssueKeys", spec := "fnIssueKeys", unfollowed := true, recurses := true, apart := false, narrowed := true }
def FnIssueKeysUptoSaid : Prop := fnIssueKeysUptoRow.holds Tryz.pinned (OpenSpec.upto fnIssueKeysSpec)

/-- 'laws.FnWafers', WHERE WHAT IT READS IS OF BULK AT MOST 1048576: true; the input reads as it did. -/
def fnWafersUptoRow : OpenClaim := { program := "ytblmccofkochoaagreat", sum := "1096b5e4a5c4f3011c29e9d0850b316afc272cb7229d50a0723b8925c397b5b4", func := "loop.example/g00947/laws.FnWafers", spec := "fnWafers", unfollowed := true, recurses := true, apart := false, narrowed := true }
def FnWafersUptoSaid : Prop := fnWafersUptoRow.holds Tryz.pinned (OpenSpec.upto fnWafersSpec)

/-- 'laws.FnBest', WHERE WHAT IT READS IS OF BULK AT MOST 1048576: true; the input reads as it did. -/
def fnBestUptoRow : OpenClaim := { program := "ytblmccofkochoaagreat", sum := "1096b5e4a5c4f3011c29e9d0850b316afc272cb7229d50a0723b8925c397b5b4", func := "loop.example/g00947/laws.FnBest", spec := "fnBest", unfollowed := true, recurses := true, apart := false, narrowed := true }
def FnBestUptoSaid : Prop := fnBestUptoRow.holds Tryz.pinned (OpenSpec.upto fnBestSpec)

/-- 'laws.FnDoors', WHERE WHAT IT READS IS OF BULK AT MOST 1048576: true; the input reads as it did. -/
def fnDoorsUptoRow : OpenClaim := { program := "ytblmccofkochoaagreat", sum := "1096b5e4a5c4f3011c29e9d0850b316afc272cb7229d50a0723b8925c397b5b4", func := "loop.example/g00947/laws.FnDoors", spec := "fnDoors", unfollowed := true, recurses := true, apart := false, narrowed := true }
def FnDoorsUptoSaid : Prop := fnDoorsUptoRow.holds Tryz.pinned (OpenSpec.upto fnDoorsSpec)

end Rows
end Go.Proofs.YtblmccofkochoaaGreat
