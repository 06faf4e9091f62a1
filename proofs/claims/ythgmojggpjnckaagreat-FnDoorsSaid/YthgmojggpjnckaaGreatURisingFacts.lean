/- Proved: what a rising list is good for. -/
import Derived.Test.YthgmojggpjnckaaGreatUPkA
namespace Go.Proofs.YthgmojggpjnckaaGreat
open Go.ChangeShapes Go.WideShapes Go.ChangeAt Go.RowKit
set_option linter.unusedVariables false

theorem rising_ge {xs : List Int} {n : Int} (h : rising xs n = true) : ∀ i, i < xs.length → (i : Int) ≤ xs.getD i 0 ∧ xs.getD i 0 < n := by
  unfold rising at h
  rw [List.all_eq_true] at h
  intro i
  induction i with
  | zero =>
    intro hi
    have := h 0 (List.mem_range.2 hi)
    unfold risingAt at this
    rw [decide_eq_true_iff] at this
    exact ⟨this.1, this.2.1⟩
  | succ i ih =>
    intro hi
    have h1 := ih (by omega)
    have := h (i+1) (List.mem_range.2 hi)
    unfold risingAt at this
    rw [decide_eq_true_iff] at this
    have h3 := this.2.2 (by omega)
    rw [show i + 1 - 1 = i by omega] at h3
    exact ⟨by omega, this.2.1⟩
theorem rising_length {xs : List Int} {n : Int} (h : rising xs n = true) : (xs.length : Int) ≤ max n 0 := by
  by_cases hl : xs.length = 0
  · omega
  · have := rising_ge h (xs.length - 1) (by omega)
    omega
end Go.Proofs.YthgmojggpjnckaaGreat
