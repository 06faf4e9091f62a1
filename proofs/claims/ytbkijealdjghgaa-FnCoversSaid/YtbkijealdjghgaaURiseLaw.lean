/- Proved: rising lists, told in two ways. -/
import Derived.Test.YtbkijealdjghgaaULeastLaw
import Derived.Test.YtbkijealdjghgaaURisingFacts
namespace Go.Proofs.Ytbkijealdjghgaa
open Go.ChangeShapes Go.WideShapes Go.ChangeAt Go.RowKit
set_option linter.unusedVariables false

theorem rising_of_rises {n : Nat} {l : List Int} (h : Rises n l) : rising l n = true := by
  unfold rising
  rw [List.all_eq_true]
  intro i hi
  rw [List.mem_range] at hi
  unfold risingAt
  rw [decide_eq_true_iff]
  have hm := h.2 l[i] (List.getElem_mem hi)
  rw [show l.getD i 0 = l[i] by simp [hi]]
  refine ⟨hm.1, hm.2, fun hp => ?_⟩
  rw [show l.getD (i-1) 0 = l[i-1] by simp [show i - 1 < l.length by omega]]
  exact List.pairwise_iff_getElem.1 h.1 (i-1) i (by omega) hi (by omega)
theorem rises_of_rising {n : Int} {l : List Int} (h : rising l n = true) : Rises n.toNat l := by
  have hg := rising_ge h
  have hp : l.Pairwise (· < ·) := by
    have hstep : ∀ i (hi : i + 1 < l.length), l[i] < l[i+1] := fun i hi => by
      unfold rising at h
      rw [List.all_eq_true] at h
      have := h (i+1) (List.mem_range.2 hi)
      unfold risingAt at this
      rw [decide_eq_true_iff] at this
      have := this.2.2 (by omega)
      simpa [hi, show i < l.length by omega] using this
    rw [List.pairwise_iff_getElem]
    intro i j hi hj hij
    induction j with
    | zero => omega
    | succ j ih =>
      by_cases e : i = j
      · subst e; exact hstep i hj
      · have := ih (by omega) (by omega)
        have := hstep j hj
        omega
  refine ⟨hp, fun y hy => ?_⟩
  obtain ⟨i, hi, rfl⟩ := List.getElem_of_mem hy
  have := hg i hi
  rw [show l.getD i 0 = l[i] by simp [hi]] at this
  omega

theorem lessL_len {a b : List Int} (h : lessL a b = false) : b.length ≤ a.length := by
  rcases Nat.lt_or_ge a.length b.length with h' | h'
  · rw [lessL_iff.2 (.inl h')] at h; cases h
  · exact h'
theorem rises_sublist {n : Nat} {a b : List Int} (h : a.Sublist b) (hb : Rises n b) : Rises n a := ⟨hb.1.sublist h, fun y hy => hb.2 y (h.subset hy)⟩
end Go.Proofs.Ytbkijealdjghgaa
