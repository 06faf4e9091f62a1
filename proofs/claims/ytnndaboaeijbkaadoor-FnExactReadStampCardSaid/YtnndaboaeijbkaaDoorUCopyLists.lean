/- Proved: copies of lists of lists, program and reference. -/
import Derived.Test.YtnndaboaeijbkaaDoorChecked
import Derived.Test.YtnndaboaeijbkaaDoorUClone
import Derived.Test.YtnndaboaeijbkaaDoorUOwnRows
import Derived.Test.YtnndaboaeijbkaaDoorUOpens
namespace Go.Proofs.YtnndaboaeijbkaaDoor
open Go.ChangeShapes Go.WideShapes Go.ChangeAt Go.RowKit
set_option linter.unusedVariables false

theorem take_next {α : Type} {xs : List (List α)} {k : Nat} (h : k < xs.length) : xs.take (k+1) = xs.take k ++ [xs.getD k []] := by
  rw [List.take_add_one, List.getElem?_eq_getElem h]; simp [h]
end Go.Proofs.YtnndaboaeijbkaaDoor
