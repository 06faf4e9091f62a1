/- Proved: the draw of the law on retired rows. -/
import Derived.Test.YtpcgbfogkcbddaaGreatDoorChecked
import Derived.Deep.RegionLaw
import Derived.Deep.RegionHeld3
import Derived.Deep.Cut
import Derived.Test.YtpcgbfogkcbddaaGreatDoorUDrawRet
import Derived.Test.YtpcgbfogkcbddaaGreatDoorUDrawSearch
namespace Go.Proofs.YtpcgbfogkcbddaaGreatDoor
open Go.ChangeShapes Go.WideShapes Go.ChangeAt Go.RowKit
set_option linter.unusedVariables false

/-- a system, cuts and a row's number -/
def SysCutsKeyD (w : World) (r : Value) (w' : World) : Prop := ∃ (mk : MK) (v : Value) (t : List (List Int)) (u : Value) (cuts : List (List Int)) (key : Int), r = .tuple #[sysV mk v, u, .int .i64 key] ∧ I64 key ∧ RowsR ⟨w.heap.size, w'.heap.size, false⟩ w' v t ∧ RowsR ⟨w.heap.size, w'.heap.size, false⟩ w' u cuts
end Go.Proofs.YtpcgbfogkcbddaaGreatDoor
