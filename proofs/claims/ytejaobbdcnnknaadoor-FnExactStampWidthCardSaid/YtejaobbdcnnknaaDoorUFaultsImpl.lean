/- Proved: the false openings of a system, as the program lists them. -/
import Derived.Test.YtejaobbdcnnknaaDoorChecked
import Derived.Deep.RegionHeld3
import Derived.Deep.DeepCutAuto
import Derived.Test.YtejaobbdcnnknaaDoorUFaults
import Derived.Test.YtejaobbdcnnknaaDoorUAppend1
namespace Go.Proofs.YtejaobbdcnnknaaDoor
open Go.ChangeShapes Go.WideShapes Go.ChangeAt Go.RowKit
set_option linter.unusedVariables false
end Go.Proofs.YtejaobbdcnnknaaDoor
