/- Proved: the false openings of a system, as the program lists them. -/
import Derived.Test.YtnndaboaeijbkaaDoorChecked
import Derived.Deep.RegionHeld3
import Derived.Deep.DeepCutAuto
import Derived.Test.YtnndaboaeijbkaaDoorUFaults
import Derived.Test.YtnndaboaeijbkaaDoorUAppend1
namespace Go.Proofs.YtnndaboaeijbkaaDoor
open Go.ChangeShapes Go.WideShapes Go.ChangeAt Go.RowKit
set_option linter.unusedVariables false
end Go.Proofs.YtnndaboaeijbkaaDoor
