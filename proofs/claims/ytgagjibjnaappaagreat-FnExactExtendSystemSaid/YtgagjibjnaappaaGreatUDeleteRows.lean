/- Proved: slices.Delete from a list of lists of the caller's own: only that list's row turns. -/
import Derived.Test.YtgagjibjnaappaaGreatChecked
import Derived.Deep.RegionLaw
import Derived.Test.YtgagjibjnaappaaGreatUPkE
import Derived.Test.YtgagjibjnaappaaGreatUPkA
namespace Go.Proofs.YtgagjibjnaappaaGreat
open Go.ChangeShapes Go.WideShapes Go.ChangeAt Go.RowKit
set_option linter.unusedVariables false

theorem Tryz.zeroInts : ∀ w, (zeroValue 27).run Tryz.prog w = .ok (.slice none 0 0) w := fun _ => by kernel_rfl
def DelRowsU (v : Value) (w : World) (ys : List (Option Addr × Nat × Nat)) (e : Ending) (w' : World) : Prop := ∃ cap g, e = .returned (.slice (some ⟨g, 0, none⟩) ys.length cap) ∧ v.ownBlock = some g ∧ ys.length ≤ cap ∧ cap ≤ maxLen ∧
  (∀ t, t < ys.length → w'.cell? ⟨g, t, none⟩ = some (slV (ys.getD t (none, 0, 0)))) ∧ (∀ t, w'.frozen? ⟨g, t, none⟩ = false) ∧ Within ⟨g, g + 1, true⟩ w w'

def rmAt (k : Nat) (l : List (List Int)) : List (List Int) := l.take k ++ l.drop (k + 1)
theorem rmAt_len {k : Nat} {l : List (List Int)} (h : k < l.length) : (rmAt k l).length = l.length - 1 := by unfold rmAt; rw [List.length_append, List.length_take, List.length_drop]; omega
theorem drop_get {α : Type} {xs : List α} {k t : Nat} (h : t < (xs.take k ++ xs.drop (k + 1)).length) (hk : k < xs.length) : ∃ h' : (if t < k then t else t + 1) < xs.length, (xs.take k ++ xs.drop (k + 1))[t] = xs[if t < k then t else t + 1] := by
  rw [List.length_append, List.length_take, List.length_drop] at h
  by_cases e : t < k
  · simp only [e, if_true]
    refine ⟨by omega, ?_⟩
    rw [List.getElem_append_left (by rw [List.length_take]; omega), List.getElem_take]
  · simp only [e, if_false]
    refine ⟨by omega, ?_⟩
    rw [List.getElem_append_right (by rw [List.length_take]; omega), List.getElem_drop]
    congr 1
    rw [List.length_take]; omega
def DelRows (L : Nat) (w : World) (W : World) (ys : List (List Int)) (e : Ending) (w' : World) : Prop := ∃ r, e = .returned r ∧ RowsR ⟨L, w.heap.size, true⟩ w' r ys ∧ Within ⟨L, w.heap.size, true⟩ W w'
end Go.Proofs.YtgagjibjnaappaaGreat
