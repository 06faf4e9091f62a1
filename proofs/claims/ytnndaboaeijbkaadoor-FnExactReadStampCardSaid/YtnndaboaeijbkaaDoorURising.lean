/- Proved: impl.IsRising and spec.l01Rises return whether a list rises strictly within 0 to n - 1, for every list of integers. -/
import Derived.Test.YtnndaboaeijbkaaDoorChecked
import Derived.Test.YtnndaboaeijbkaaDoorUBase
namespace Go.Proofs.YtnndaboaeijbkaaDoor
open Go.ChangeShapes Go.WideShapes Go.ChangeAt Go.RowKit
/-- strictly rising within 0 to n - 1 -/
def risingAt (xs : List Int) (n : Int) (i : Nat) : Bool := decide (0 ≤ xs.getD i 0 ∧ xs.getD i 0 < n ∧ (0 < i → xs.getD (i-1) 0 < xs.getD i 0))
def rising (xs : List Int) (n : Int) : Bool := (List.range xs.length).all (risingAt xs n)

theorem rising_true {xs n} (h : ∀ i, i < xs.length → risingAt xs n i = true) : rising xs n = true := by
  unfold rising; rw [List.all_eq_true]; intro i hi; exact h i (List.mem_range.1 hi)
theorem rising_false {xs n} (i : Nat) (hi : i < xs.length) (h : risingAt xs n i = false) : rising xs n = false := by
  unfold rising; rw [List.all_eq_false]; exact ⟨i, List.mem_range.2 hi, by simp [h]⟩
end Go.Proofs.YtnndaboaeijbkaaDoor
