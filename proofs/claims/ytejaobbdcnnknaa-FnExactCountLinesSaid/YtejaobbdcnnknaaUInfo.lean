/- Proved: how wide an integer and a list are. -/
import Derived.Test.YtejaobbdcnnknaaChecked
import Derived.Test.YtejaobbdcnnknaaUBase
namespace Go.Proofs.Ytejaobbdcnnknaa
open Go.ChangeShapes Go.WideShapes Go.ChangeAt Go.RowKit
set_option linter.unusedVariables false

theorem Try.infoI64 : (Try.prog.info? 2).map (fun i => (i.zero, i.size, i.bytes)) = some (some (.int .i64 0), 1, 8) := by kernel_rfl
end Go.Proofs.Ytejaobbdcnnknaa
