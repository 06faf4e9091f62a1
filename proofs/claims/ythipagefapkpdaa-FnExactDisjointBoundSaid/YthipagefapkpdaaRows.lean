/-
  No cell of these rows narrows 'for every input' (looked for: loops, veiled, ifaces, maps, wideKeys, modest, calm, conditions, laid).
  DERIVED. THE GIVEN ROWS OF THIS SEAT. 6 by the template 'for every input the law returns true; each argument reads behind the call as it read before'; 0 by the template 'total and deterministic' (their statements: YthipagefapkpdaaTotals.lean).
  GIVEN WITH THE SEED: the statements are not yours to turn. If you find one false, say at which input.
  Laid BY PROGRAM, IN A SANDBOX (cutbox-rows.mjs): the forced cells as the released guide's own fill.sh prints them over the translation 77def58480f8f47e… (all of the seat's roots in one cut). By AI agents, Wed Nov 11 2026. No macro, syntax, notation, axiom, sorry.
-/
import Derived.Test.YthipagefapkpdaaChecked
import GoSem.Claim
import GoSem.ClaimJoined
import GoSem.ClaimMapViews
import Derived.JoinedTies
import Derived.KernelRfl
namespace Go.Proofs.Ythipagefapkpdaa
/- THE CELL 'sum', in the pinned program and in every row, IS THE sha256 OF THE DUMP (.gsa) THAT YthipagefapkpdaaProg.lean LOADS. Nothing in Lean hashes anything: it is a label: what it is worth is what the hold of that sum in a sandbox is worth. -/
noncomputable def Try.pinned : Pinned := { name := "ythipagefapkpdaa", sum := "77def58480f8f47ec530fc75f95deca00afc4de61382a566e198febb9eb36c65", checked := Try.checked }
namespace Rows
def none {H : Type} : Left H := { results := [], args := [] }

/-- 'laws.FnExactCheckOf': WHATEVER THE INPUT: true; the input reads as it did. -/
def fnExactCheckOfSpec : ChangeSpec := { name := "fnExactCheckOf", fn := fun _ => fun
  | [d1, d2] => { results := [.lit (.bool true)], args := [d1, d2] }
  | _ => none }
def fnExactCheckOfRow : OpenClaim := { program := "ythipagefapkpdaa", sum := "77def58480f8f47ec530fc75f95deca00afc4de61382a566e198febb9eb36c65", func := "loop.example/g00947/laws.FnExactCheckOf", spec := "fnExactCheckOf", apart := false }
def FnExactCheckOfSaid : Prop := fnExactCheckOfRow.holds Try.pinned (OpenSpec.ofChange fnExactCheckOfSpec)

/-- ITS FALSE NEIGHBOUR: 'it returns false'. Refute it at one input. -/
def fnExactCheckOfWrong : ChangeSpec := { name := "fnExactCheckOf", fn := fun _ => fun
  | [d1, d2] => { results := [.lit (.bool false)], args := [d1, d2] }
  | _ => none }
def FnExactCheckOfWrongFalsely : Prop := fnExactCheckOfRow.holds Try.pinned (OpenSpec.ofChange fnExactCheckOfWrong)

/-- 'laws.FnExactAreSets': WHATEVER THE INPUT: true; the input reads as it did. -/
def fnExactAreSetsSpec : ChangeSpec := { name := "fnExactAreSets", fn := fun _ => fun
  | [d1, d2] => { results := [.lit (.bool true)], args := [d1, d2] }
  | _ => none }
def fnExactAreSetsRow : OpenClaim := { program := "ythipagefapkpdaa", sum := "77def58480f8f47ec530fc75f95deca00afc4de61382a566e198febb9eb36c65", func := "loop.example/g00947/laws.FnExactAreSets", spec := "fnExactAreSets", unfollowed := true, recurses := true, apart := false }
def FnExactAreSetsSaid : Prop := fnExactAreSetsRow.holds Try.pinned (OpenSpec.ofChange fnExactAreSetsSpec)

/-- ITS FALSE NEIGHBOUR: 'it returns false'. Refute it at one input. -/
def fnExactAreSetsWrong : ChangeSpec := { name := "fnExactAreSets", fn := fun _ => fun
  | [d1, d2] => { results := [.lit (.bool false)], args := [d1, d2] }
  | _ => none }
def FnExactAreSetsWrongFalsely : Prop := fnExactAreSetsRow.holds Try.pinned (OpenSpec.ofChange fnExactAreSetsWrong)

/-- 'laws.FnExactIsRooms': WHATEVER THE INPUT: true; the input reads as it did. -/
def fnExactIsRoomsSpec : ChangeSpec := { name := "fnExactIsRooms", fn := fun _ => fun
  | [d] => { results := [.lit (.bool true)], args := [d] }
  | _ => none }
def fnExactIsRoomsRow : OpenClaim := { program := "ythipagefapkpdaa", sum := "77def58480f8f47ec530fc75f95deca00afc4de61382a566e198febb9eb36c65", func := "loop.example/g00947/laws.FnExactIsRooms", spec := "fnExactIsRooms", apart := false }
def FnExactIsRoomsSaid : Prop := fnExactIsRoomsRow.holds Try.pinned (OpenSpec.ofChange fnExactIsRoomsSpec)

/-- ITS FALSE NEIGHBOUR: 'it returns false'. Refute it at one input. -/
def fnExactIsRoomsWrong : ChangeSpec := { name := "fnExactIsRooms", fn := fun _ => fun
  | [d] => { results := [.lit (.bool false)], args := [d] }
  | _ => none }
def FnExactIsRoomsWrongFalsely : Prop := fnExactIsRoomsRow.holds Try.pinned (OpenSpec.ofChange fnExactIsRoomsWrong)

/-- 'laws.FnExactDisjointBound': WHATEVER THE INPUT: true; the input reads as it did. -/
def fnExactDisjointBoundSpec : ChangeSpec := { name := "fnExactDisjointBound", fn := fun _ => fun
  | [d1, d2] => { results := [.lit (.bool true)], args := [d1, d2] }
  | _ => none }
def fnExactDisjointBoundRow : OpenClaim := { program := "ythipagefapkpdaa", sum := "77def58480f8f47ec530fc75f95deca00afc4de61382a566e198febb9eb36c65", func := "loop.example/g00947/laws.FnExactDisjointBound", spec := "fnExactDisjointBound", unfollowed := true, recurses := true, apart := false }
def FnExactDisjointBoundSaid : Prop := fnExactDisjointBoundRow.holds Try.pinned (OpenSpec.ofChange fnExactDisjointBoundSpec)

/-- ITS FALSE NEIGHBOUR: 'it returns false'. Refute it at one input. -/
def fnExactDisjointBoundWrong : ChangeSpec := { name := "fnExactDisjointBound", fn := fun _ => fun
  | [d1, d2] => { results := [.lit (.bool false)], args := [d1, d2] }
  | _ => none }
def FnExactDisjointBoundWrongFalsely : Prop := fnExactDisjointBoundRow.holds Try.pinned (OpenSpec.ofChange fnExactDisjointBoundWrong)

/-- 'laws.FnExactIsHitting': WHATEVER THE INPUT: true; the input reads as it did. -/
def fnExactIsHittingSpec : ChangeSpec := { name := "fnExactIsHitting", fn := fun _ => fun
  | [d1, d2, d3] => { results := [.lit (.bool true)], args := [d1, d2, d3] }
  | _ => none }
def fnExactIsHittingRow : OpenClaim := { program := "ythipagefapkpdaa", sum := "77def58480f8f47ec530fc75f95deca00afc4de61382a566e198febb9eb36c65", func := "loop.example/g00947/laws.FnExactIsHitting", spec := "fnExactIsHitting", unfollowed := true, recurses := true, apart := false }
def FnExactIsHittingSaid : Prop := fnExactIsHittingRow.holds Try.pinned (OpenSpec.ofChange fnExactIsHittingSpec)

/-- ITS FALSE NEIGHBOUR: 'it returns false'. Refute it at one input. -/
def fnExactIsHittingWrong : ChangeSpec := { name := "fnExactIsHitting", fn := fun _ => fun
  | [d1, d2, d3] => { results := [.lit (.bool false)], args := [d1, d2, d3] }
  | _ => none }
def FnExactIsHittingWrongFalsely : Prop := fnExactIsHittingRow.holds Try.pinned (OpenSpec.ofChange fnExactIsHittingWrong)

/-- 'laws.FnExactCountLines': WHATEVER THE INPUT: true; the input reads as it did. -/
def fnExactCountLinesSpec : ChangeSpec := { name := "fnExactCountLines", fn := fun _ => fun
  | [d] => { results := [.lit (.bool true)], args := [d] }
  | _ => none }
def fnExactCountLinesRow : OpenClaim := { program := "ythipagefapkpdaa", sum := "77def58480f8f47ec530fc75f95deca00afc4de61382a566e198febb9eb36c65", func := "loop.example/g00947/laws.FnExactCountLines", spec := "fnExactCountLines", inPlace := ["internal/bytealg.CountString", "internal/bytealg.IndexByteString", "internal/bytealg.IndexString"], named := ["internal/bytealg.MaxLen"], apart := false }
def FnExactCountLinesSaid : Prop := fnExactCountLinesRow.holds Try.pinned (OpenSpec.ofChange fnExactCountLinesSpec)

/-- ITS FALSE NEIGHBOUR: 'it returns false'. Refute it at one input. -/
def fnExactCountLinesWrong : ChangeSpec := { name := "fnExactCountLines", fn := fun _ => fun
  | [d] => { results := [.lit (.bool false)], args := [d] }
  | _ => none }
def FnExactCountLinesWrongFalsely : Prop := fnExactCountLinesRow.holds Try.pinned (OpenSpec.ofChange fnExactCountLinesWrong)

/- THE SECOND FORM. 'bulk': how many values and letters a reading holds, each counted each time it is reached (what is shared counts as often as it is met; a slice's spare places count too). A statement '..UptoSaid' is the law's where the arguments, and the package variables that the reading takes, are together of bulk at most 1048576: NARROWER than '..Said'. Prove '..Said' where nothing that the law and all that it calls make is longer than what came in: it says more and counts as full. Else prove '..UptoSaid'. A law counts once. -/
mutual
def uptoBulk {H : Type} : DataW H → Nat
  | .lit (.string bytes) => bytes.length + 1
  | .lit _ => 1
  | .nil => 1
  | .ptr d => uptoBulk d + 1
  | .slice elems spare => uptoBulkAll elems + uptoBulkAll spare + 1
  | .agg parts => uptoBulkAll parts + 1
  | .iface _ d => uptoBulk d + 1
  | .map entries => uptoBulkEntries entries + 1
  | .held _ => 1
def uptoBulkAll {H : Type} : List (DataW H) → Nat
  | [] => 0
  | d :: r => uptoBulk d + uptoBulkAll r
def uptoBulkEntries {H : Type} : List (Lit × DataW H) → Nat
  | [] => 0
  | x :: r => uptoBulkEntry x + uptoBulkEntries r
def uptoBulkEntry {H : Type} : Lit × DataW H → Nat
  | (.string bytes, d) => bytes.length + uptoBulk d + 1
  | (_, d) => uptoBulk d + 1
 end
def uptoSmall : (H : Type) → List (DataW H) → Bool := fun _ ds => decide (uptoBulkAll ds ≤ 1048576)
def OpenSpec.upto (s : _root_.Go.ChangeSpec) : _root_.Go.OpenSpec := { _root_.Go.OpenSpec.ofChange s with cond := some uptoSmall }

/-- 'laws.FnExactCheckOf', WHERE WHAT IT READS IS OF BULK AT MOST 1048576: true; the input reads as it did. -/
def fnExactCheckOfUptoRow : OpenClaim := { program := "ythipagefapkpdaa", sum := "77def58480f8f47ec530fc75f95deca00afc4de61382a566e198febb9eb36c65", func := "loop.example/g00947/laws.FnExactCheckOf", spec := "fnExactCheckOf", apart := false, narrowed := true }
def FnExactCheckOfUptoSaid : Prop := fnExactCheckOfUptoRow.holds Try.pinned (OpenSpec.upto fnExactCheckOfSpec)

/-- 'laws.FnExactAreSets', WHERE WHAT IT READS IS OF BULK AT MOST 1048576: true; the input reads as it did. -/
def fnExactAreSetsUptoRow : OpenClaim := { program := "ythipagefapkpdaa", sum := "77def58480f8f47ec530fc75f95deca00afc4de61382a566e198febb9eb36c65", func := "loop.example/g00947/laws.FnExactAreSets", spec := "fnExactAreSets", unfollowed := true, recurses := true, apart := false, narrowed := true }
def FnExactAreSetsUptoSaid : Prop := fnExactAreSetsUptoRow.holds Try.pinned (OpenSpec.upto fnExactAreSetsSpec)

/-- 'laws.FnExactIsRooms', WHERE WHAT IT READS IS OF BULK AT MOST 1048576: true; the input reads as it did. -/
def fnExactIsRoomsUptoRow : OpenClaim := { program := "ythipagefapkpdaa", sum := "77def58480f8f47ec530fc75f95deca00afc4de61382a566e198febb9eb36c65", func := "loop.example/g00947/laws.FnExactIsRooms", spec := "fnExactIsRooms", apart := false, narrowed := true }
def FnExactIsRoomsUptoSaid : Prop := fnExactIsRoomsUptoRow.holds Try.pinned (OpenSpec.upto fnExactIsRoomsSpec)

/-- 'laws.FnExactDisjointBound', WHERE WHAT IT READS IS OF BULK AT MOST 1048576: true; the input reads as it did. -/
def fnExactDisjointBoundUptoRow : OpenClaim := { program := "ythipagefapkpdaa", sum := "77def58480f8f47ec530fc75f95deca00afc4de61382a566e198febb9eb36c65", func := "loop.example/g00947/laws.FnExactDisjointBound", spec := "fnExactDisjointBound", unfollowed := true, recurses := true, apart := false, narrowed := true }
def FnExactDisjointBoundUptoSaid : Prop := fnExactDisjointBoundUptoRow.holds Try.pinned (OpenSpec.upto fnExactDisjointBoundSpec)

/-- 'laws.FnExactIsHitting', WHERE WHAT IT READS IS OF BULK AT MOST 1048576: true; the input reads as it did. -/
def fnExactIsHittingUptoRow : OpenClaim := { program := "ythipagefapkpdaa", sum := "77def58480f8f47ec530fc75f95deca00afc4de61382a566e198febb9eb36c65", func := "loop.example/g00947/laws.FnExactIsHitting", spec := "fnExactIsHitting", unfollowed := true, recurses := true, apart := false, narrowed := true }
def FnExactIsHittingUptoSaid : Prop := fnExactIsHittingUptoRow.holds Try.pinned (OpenSpec.upto fnExactIsHittingSpec)

/-- 'laws.FnExactCountLines', WHERE WHAT IT READS IS OF BULK AT MOST 1048576: true; the input reads as it did. -/
def fnExactCountLinesUptoRow : OpenClaim := { program := "ythipagefapkpdaa", sum := "77def58480f8f47ec530fc75f95deca00afc4de61382a566e198febb9eb36c65", func := "loop.example/g00947/laws.FnExactCountLines", spec := "fnExactCountLines", inPlace := ["internal/bytealg.CountString", "internal/bytealg.IndexByteString", "internal/bytealg.IndexString"], named := ["internal/bytealg.MaxLen"], apart := false, narrowed := true }
def FnExactCountLinesUptoSaid : Prop := fnExactCountLinesUptoRow.holds Try.pinned (OpenSpec.upto fnExactCountLinesSpec)

end Rows
end Go.Proofs.Ythipagefapkpdaa
