/- Proved: slices.IndexFunc and ContainsFunc. -/
import Derived.Test.YtbkijealdjghgaaUPkB
import Derived.Test.YtbkijealdjghgaaUFuncsInts
namespace Go.Proofs.Ytbkijealdjghgaa
open Go.ChangeShapes Go.WideShapes Go.ChangeAt Go.RowKit
set_option linter.unusedVariables false
end Go.Proofs.Ytbkijealdjghgaa
