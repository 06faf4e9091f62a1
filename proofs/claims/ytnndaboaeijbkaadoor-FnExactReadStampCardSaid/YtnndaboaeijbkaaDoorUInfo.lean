/- Proved: how wide an integer and a list are. -/
import Derived.Test.YtnndaboaeijbkaaDoorChecked
import Derived.Test.YtnndaboaeijbkaaDoorUBase
namespace Go.Proofs.YtnndaboaeijbkaaDoor
open Go.ChangeShapes Go.WideShapes Go.ChangeAt Go.RowKit
set_option linter.unusedVariables false

theorem Tryd.infoI64 : (Tryd.prog.info? 2).map (fun i => (i.zero, i.size, i.bytes)) = some (some (.int .i64 0), 1, 8) := by kernel_rfl
theorem Tryd.infoInts : (Tryd.prog.info? 28).map (fun i => (i.zero, i.size, i.bytes)) = some (some (.slice none 0 0), 1, 24) := by kernel_rfl
end Go.Proofs.YtnndaboaeijbkaaDoor
