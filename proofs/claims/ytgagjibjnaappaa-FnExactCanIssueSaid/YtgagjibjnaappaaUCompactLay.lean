/- Proved: slices.Compact at a list of numbers, laid. -/
import Derived.Test.YtgagjibjnaappaaChecked
import Derived.Shelf.SlicesG.Cells
import Derived.Ground.SlgnProg
import Derived.Test.YtgagjibjnaappaaUBase
namespace Go.Proofs.Ytgagjibjnaappaa
open Go.ChangeShapes Go.WideShapes Go.ChangeAt Go.RowKit
set_option linter.unusedVariables false
open Go.Shelf

def Try.compactInts_ren : Go.Shelf.Ren := ⟨fun | 43 => 129 | n => n, fun | 22 => 27 | 23 => 2 | 3 => 3 | 4 => 4 | 0 => 0 | n => n, fun | n => n⟩
theorem Try.compactInts : Go.Proofs.SlLaysN.n43 Try.prog Try.compactInts_ren := {
  mixed := by kernel_rfl
  f43 := ⟨Try.f129.name, by decide, Try.func129.trans (congrArg some (by kernel_rfl))⟩
  t0 := Try.underlying0
  a0 := Try.isAgg0
  z0 := Try.sizeOf0
  v0 := Try.zeroValue0
  t3 := Try.underlying3
  a3 := Try.isAgg3
  z3 := Try.sizeOf3
  v3 := Try.zeroValue3
  t4 := Try.underlying4
  a4 := Try.isAgg4
  z4 := Try.sizeOf4
  v4 := Try.zeroValue4
  t22 := Try.underlying27
  a22 := Try.isAgg27
  z22 := Try.sizeOf27
  v22 := Try.zeroValue27
  t23 := Try.underlying2
  a23 := Try.isAgg2
  z23 := Try.sizeOf2
  v23 := Try.zeroValue2
  i23 := by kernel_rfl }
end Go.Proofs.Ytgagjibjnaappaa
