/- Proved: two lists with a common element (impl.meets, spec.l26Common). -/
import Derived.Test.YtegmognpofcfiaaGreatChecked
import Derived.Test.YtegmognpofcfiaaGreatUPkA
import Derived.Test.YtegmognpofcfiaaGreatUFuncs
namespace Go.Proofs.YtegmognpofcfiaaGreat
open Go.ChangeShapes Go.WideShapes Go.ChangeAt Go.RowKit
set_option linter.unusedVariables false

/-! ### a common element -/
def common (a b : List Int) : Bool := a.any fun x => has b x
theorem common_at {xs ys : List Int} (k : Nat) (h : k < xs.length) (hx : has ys (xs.getD k 0) = true) : common xs ys = true := by
  unfold common; rw [List.any_eq_true]; exact ⟨xs[k], List.getElem_mem h, by simpa [h] using hx⟩
theorem common_no {xs ys : List Int} (h : ∀ k, k < xs.length → has ys (xs.getD k 0) = false) : common xs ys = false := by
  unfold common; rw [List.any_eq_false]; intro y hy
  obtain ⟨i, hi, rfl⟩ := List.getElem_of_mem hy
  have := h i hi
  simpa [hi] using this
end Go.Proofs.YtegmognpofcfiaaGreat
