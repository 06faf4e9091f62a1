/- Proved: whether a list are cuts of a maker, as the reference tells it. -/
import Derived.Test.YtejaobbdcnnknaaDoorChecked
import Derived.Test.YtejaobbdcnnknaaDoorUMaker
import Derived.Test.YtejaobbdcnnknaaDoorUTable
namespace Go.Proofs.YtejaobbdcnnknaaDoor
open Go.ChangeShapes Go.WideShapes Go.ChangeAt Go.RowKit
set_option linter.unusedVariables false

/-- as many depths as there are chambers -/
def cutsOk (mk : MK) (l : List Int) : Bool := allB l 0 (mk.d - 1) && decide ((l.length : Int) = mk.c)
end Go.Proofs.YtejaobbdcnnknaaDoor
