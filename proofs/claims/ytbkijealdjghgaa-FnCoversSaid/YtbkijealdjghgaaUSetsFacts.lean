/- Proved: what is known of sets. -/
import Derived.Test.YtbkijealdjghgaaUSets
import Derived.Test.YtbkijealdjghgaaUPkA
import Derived.Test.YtbkijealdjghgaaURisingFacts
namespace Go.Proofs.Ytbkijealdjghgaa
open Go.ChangeShapes Go.WideShapes Go.ChangeAt Go.RowKit
set_option linter.unusedVariables false

theorem areSets_mem {n : Int} {xss : List (List Int)} (h : areSets n xss = true) : 1 ≤ n ∧ n ≤ 12 ∧ xss.length ≤ 60 ∧ ∀ s ∈ xss, s ≠ [] ∧ rising s n = true ∧ s.length ≤ 12 := by
  unfold areSets at h
  simp only [Bool.and_eq_true, decide_eq_true_eq, Bool.not_eq_true', List.any_eq_false] at h
  obtain ⟨⟨⟨h1, h2⟩, h3⟩, h4⟩ := h
  refine ⟨h1, h2, h3, fun s hs => ?_⟩
  have := h4 s hs
  simp only [badSet, Bool.or_eq_true, not_or, Bool.not_eq_true, Bool.not_eq_true'] at this
  obtain ⟨g1, g2⟩ := this
  have hr : rising s n = true := by simpa using g2
  have := rising_length hr
  exact ⟨by intro e; simp [e] at g1, hr, by omega⟩

theorem RowsR.mems {z w v xss} (h : RowsR z w v xss) : ∀ s ∈ xss, ∀ x ∈ s, I64 x := by
  intro s hs
  obtain ⟨i, hi, rfl⟩ := List.getElem_of_mem hs
  obtain ⟨_, _, _, _, _, _, hel⟩ := SliceR.elem stable_ints h
  obtain ⟨_, _, _, _, _, _, hu⟩ := hel i hi
  exact IntsR.mem hu

theorem setsCode_nil (n : Int) (xss : List (List Int)) : setsCode n xss [] = if areSets n xss = true then 0 else 1 := by
  unfold setsCode; simp [rising]
end Go.Proofs.Ytbkijealdjghgaa
