/-
  No cell of these rows narrows 'for every input' (looked for: loops, veiled, ifaces, maps, wideKeys, modest, calm, conditions, laid).
  DERIVED. THE GIVEN ROWS OF THIS SEAT. 3 by the template 'for every input the law returns true; each argument reads behind the call as it read before'; 0 by the template 'total and deterministic' (their statements: YthgmojggpjnckaaGreatTotals.lean).
  GIVEN WITH THE SEED: the statements are not yours to turn. If you find one false, say at which input.
  Laid BY PROGRAM, IN A SANDBOX (cutbox-rows.mjs): the forced cells as the released guide's own fill.sh prints them over the translation bf2d53443bdb990e… (all of the seat's roots in one cut). By AI agents, Wed Nov 11 2026. No macro, syntax, notation, axiom, sorry.
-/
import Derived.Test.YthgmojggpjnckaaGreatChecked
import GoSem.Claim
import GoSem.ClaimJoined
import GoSem.ClaimMapViews
import Derived.JoinedTies
import Derived.KernelRfl
namespace Go.Proofs.YthgmojggpjnckaaGreat
/- THE CELL 'sum', in the pinned program and in every row, IS THE sha256 OF THE DUMP (.gsa) THAT YthgmojggpjnckaaGreatProg.lean LOADS. Nothing in Lean hashes anything: it is a label: what it is worth is what the hold of that sum in a sandbox is worth. -/
noncomputable def Tryz.pinned : Pinned := { name := "ythgmojggpjnckaagreat", sum := "bf2d53443bdb990e451ad429ddcafc22cb0c0255403bff969a3cb4cf97fbf660", checked := Tryz.checked }
namespace Rows
def none {H : Type} : Left H := { results := [], args := [] }

/-- 'laws.FnWafers': WHATEVER THE INPUT: true; the input reads as it did. -/
def fnWafersSpec : ChangeSpec := { name := "fnWafers", fn := fun _ => fun
  | [d] => { results := [.lit (.bool true)], args := [d] }
  | _ => none }
def fnWafersRow : OpenClaim := { program := "ythgmojggpjnckaagreat", sum := "bf2d53443bdb990e451ad429ddcafc22cb0c0255403bff969a3cb4cf97fbf660", func := "loop.example/g00947/laws.FnWafers", spec := "fnWafers", unfollowed := true, recurses := true, apart := false }
def FnWafersSaid : Prop := fnWafersRow.holds Tryz.pinned (OpenSpec.ofChange fnWafersSpec)

/-- ITS FALSE NEIGHBOUR: 'it returns false'. Refute it at one input. -/
def fnWafersWrong : ChangeSpec := { name := "fnWafers", fn := fun _ => fun
  | [d] => { results := [.lit (.bool false)], args := [d] }
  | _ => none }
def FnWafersWrongFalsely : Prop := fnWafersRow.holds Tryz.pinned (OpenSpec.ofChange fnWafersWrong)

/-- 'laws.FnRetired': WHATEVER THE INPUT: true; the input reads as it did. -/
def fnRetiredSpec : ChangeSpec := { name := "fnRetired", fn := fun _ => fun
  | [d] => { results := [.lit (.bool true)], args := [d] }
  | _ => none }
def fnRetiredRow : OpenClaim := { program := "ythgmojggpjnckaagreat", sum := "bf2d53443bdb990e451ad429ddcafc22cb0c0255403bff969a3cb4cf97fbf660", func := "loop.example/g00947/laws.FnRetired", spec := "fnRetired", unfollowed := true, recurses := true, apart := false }
def FnRetiredSaid : Prop := fnRetiredRow.holds Tryz.pinned (OpenSpec.ofChange fnRetiredSpec)

/-- ITS FALSE NEIGHBOUR: 'it returns false'. Refute it at one input. -/
def fnRetiredWrong : ChangeSpec := { name := "fnRetired", fn := fun _ => fun
  | [d] => { results := [.lit (.bool false)], args := [d] }
  | _ => none }
def FnRetiredWrongFalsely : Prop := fnRetiredRow.holds Tryz.pinned (OpenSpec.ofChange fnRetiredWrong)

/-- 'laws.FnDoors': WHATEVER THE INPUT: true; the input reads as it did. -/
def fnDoorsSpec : ChangeSpec := { name := "fnDoors", fn := fun _ => fun
  | [d] => { results := [.lit (.bool true)], args := [d] }
  | _ => none }
def fnDoorsRow : OpenClaim := { program := "ythgmojggpjnckaagreat", sum := "bf2d53443bdb990e451ad429ddcafc22cb0c0255403bff969a3cb4cf97fbf660", func := "loop.example/g00947/laws.FnDoors", spec := "fnDoors", unfollowed := true, recurses := true, apart := false }
def FnDoorsSaid : Prop := fnDoorsRow.holds Tryz.pinned (OpenSpec.ofChange fnDoorsSpec)

/-- ITS FALSE NEIGHBOUR: 'it returns false'. Refute it at one input. -/
def fnDoorsWrong : ChangeSpec := { name := "fnDoors", fn := fun _ => fun
  | [d] => { results := [.lit (.bool false)], args := [d] }
  | _ => none }
def FnDoorsWrongFalsely : Prop := fnDoorsRow.holds Tryz.pinned (OpenSpec.ofChange fnDoorsWrong)

/- THE SECOND FORM. 'bulk': how many values and letters a reading holds, each counted each time it is reached (what is shared counts as often as it is met; a slice's spare places count too). A statement '..UptoSaid' is the law's where the arguments, and the package variables that the reading takes, are together of bulk at most 1048576: NARROWER than '..Said'. Prove '..Said' where nothing that the law and all that it calls make is longer than what came in: it says more and counts as full. Else prove '..UptoSaid'. A law counts once. -/
mutual
def uptoBulk {H : Type} : DataW H → Nat
  | .lit (.string bytes) => bytes.length + 1
  | .lit _ => 1
  | .nil => 1
  | .ptr d => uptoBulk d + 1
  | .slice elems spare => uptoBulkAll elems + uptoBulkAll spare + 1
  | .agg parts => uptoBulkAll parts + 1
  | .iface _ d => uptoBulk d + 1
  | .map entries => uptoBulkEntries entries + 1
  | .held _ => 1
def uptoBulkAll {H : Type} : List (DataW H) → Nat
  | [] => 0
  | d :: r => uptoBulk d + uptoBulkAll r
def uptoBulkEntries {H : Type} : List (Lit × DataW H) → Nat
  | [] => 0
  | x :: r => uptoBulkEntry x + uptoBulkEntries r
def uptoBulkEntry {H : Type} : Lit × DataW H → Nat
  | (.string bytes, d) => bytes.length + uptoBulk d + 1
  | (_, d) => uptoBulk d + 1
 end
def uptoSmall : (H : Type) → List (DataW H) → Bool := fun _ ds => decide (uptoBulkAll ds ≤ 1048576)
def OpenSpec.upto (s : _root_.Go.ChangeSpec) : _root_.Go.OpenSpec := { _root_.Go.OpenSpec.ofChange s with cond := some uptoSmall }

/-- 'laws.FnWafers', WHERE WHAT IT READS IS OF BULK AT MOST 1048576: true; the input reads as it did. -/
def fnWafersUptoRow : OpenClaim := { program := "ythgmojggpjnckaagreat", sum := "bf2d53443bdb990e451ad429ddcafc22cb0c0255403bff969a3cb4cf97fbf660", func := "loop.example/g00947/laws.FnWafers", spec := "fnWafers", unfollowed := true, recurses := true, apart := false, narrowed := true }
def FnWafersUptoSaid : Prop := fnWafersUptoRow.holds Tryz.pinned (OpenSpec.upto fnWafersSpec)

/-- 'laws.FnRetired', WHERE WHAT IT READS IS OF BULK AT MOST 1048576: true; the input reads as it did. -/
def fnRetiredUptoRow : OpenClaim := { program := "ythgmojggpjnckaagreat", sum := "bf2d53443bdb990e451ad429ddcafc22cb0c0255403bff969a3cb4cf97fbf660", func := "loop.example/g00947/laws.FnRetired", spec := "fnRetired", unfollowed := true, recurses := true, apart := false, narrowed := true }
def FnRetiredUptoSaid : Prop := fnRetiredUptoRow.holds Tryz.pinned (OpenSpec.upto fnRetiredSpec)

/-- 'laws.FnDoors', WHERE WHAT IT READS IS OF BULK AT MOST 1048576: true; the input reads as it did. -/
def fnDoorsUptoRow : OpenClaim := { program := "ythgmojggpjnckaagreat", sum := "bf2d53443bdb990e451ad429ddcafc22cb0c0255403bff969a3cb4cf97fbf660", func := "loop.example/g00947/laws.FnDoors", spec := "fnDoors", unfollowed := true, recurses := true, apart := false, narrowed := true }
def FnDoorsUptoSaid : Prop := fnDoorsUptoRow.holds Tryz.pinned (OpenSpec.upto fnDoorsSpec)

end Rows
end Go.Proofs.YthgmojggpjnckaaGreat
