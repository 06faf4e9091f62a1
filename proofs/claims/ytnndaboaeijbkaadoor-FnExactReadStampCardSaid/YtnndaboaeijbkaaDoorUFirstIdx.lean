/- Proved: the first index whose element has something. -/
import Derived.Test.YtnndaboaeijbkaaDoorUBase
namespace Go.Proofs.YtnndaboaeijbkaaDoor
open Go.ChangeShapes Go.WideShapes Go.ChangeAt Go.RowKit
set_option linter.unusedVariables false

/-- the first index whose element has it; the length if none -/
def firstIdx {α : Type} (p : α → Bool) : List α → Nat
  | [] => 0
  | x :: xs => if p x then 0 else firstIdx p xs + 1
theorem firstIdx_le {α : Type} (p : α → Bool) (xs : List α) : firstIdx p xs ≤ xs.length := by
  induction xs with
  | nil => simp [firstIdx]
  | cons x xs ih => simp only [firstIdx]; split <;> simp <;> omega
theorem firstIdx_at {α : Type} (p : α → Bool) (xs : List α) (k : Nat) (hk : k < xs.length) (h : p xs[k] = true) (hb : ∀ j (hj : j < xs.length), j < k → p xs[j] = false) : firstIdx p xs = k := by
  induction xs generalizing k with
  | nil => simp at hk
  | cons x xs ih =>
    cases k with
    | zero => simp only [List.getElem_cons_zero] at h; simp [firstIdx, h]
    | succ k =>
      have h0 := hb 0 (by simp) (by omega)
      simp only [List.getElem_cons_zero] at h0
      simp only [firstIdx, h0]
      have := ih k (by simpa using hk) (by simpa using h) (fun j hj hjk => by have := hb (j+1) (by simpa using hj) (by omega); simpa using this)
      simp [this]
theorem firstIdx_none {α : Type} (p : α → Bool) (xs : List α) (h : ∀ j (hj : j < xs.length), p xs[j] = false) : firstIdx p xs = xs.length := by
  induction xs with
  | nil => rfl
  | cons x xs ih =>
    have h0 := h 0 (by simp)
    simp only [List.getElem_cons_zero] at h0
    simp only [firstIdx, h0, List.length_cons]
    simp [ih (fun j hj => by have := h (j+1) (by simpa using hj); simpa using this)]
theorem firstIdx_any {α : Type} (p : α → Bool) (xs : List α) : decide (firstIdx p xs < xs.length) = xs.any p := by
  induction xs with
  | nil => rfl
  | cons x xs ih =>
    simp only [firstIdx, List.any_cons, List.length_cons]
    by_cases h : p x = true
    · simp [h]
    · simp only [Bool.not_eq_true] at h
      simp only [h, Bool.false_or, ← ih]; simp
/-- .. as slices.IndexFunc tells it -/
def idxR {α : Type} (p : α → Bool) (xs : List α) : Int := if firstIdx p xs < xs.length then (firstIdx p xs : Int) else -1
theorem idxR_at {α : Type} (p : α → Bool) (xs : List α) (k : Nat) (hk : k < xs.length) (h : p xs[k] = true) (hb : ∀ j (hj : j < xs.length), j < k → p xs[j] = false) : idxR p xs = k := by
  unfold idxR; rw [firstIdx_at p xs k hk h hb, if_pos hk]
theorem idxR_none {α : Type} (p : α → Bool) (xs : List α) (h : ∀ j (hj : j < xs.length), p xs[j] = false) : idxR p xs = -1 := by
  unfold idxR; rw [firstIdx_none p xs h, if_neg (Nat.lt_irrefl _)]
theorem idxR_any {α : Type} (p : α → Bool) (xs : List α) : decide (0 ≤ idxR p xs) = xs.any p := by
  rw [← firstIdx_any]; unfold idxR
  by_cases h : firstIdx p xs < xs.length
  · rw [if_pos h, decide_eq_true h]; simp
  · rw [if_neg h, decide_eq_false h]; simp
end Go.Proofs.YtnndaboaeijbkaaDoor
