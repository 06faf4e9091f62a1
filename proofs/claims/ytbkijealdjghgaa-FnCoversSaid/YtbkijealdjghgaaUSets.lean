/- Proved: AreSets, the codes for sets and whether a list hits sets: program and reference compute the same, for every list of lists. -/
import Derived.Test.YtbkijealdjghgaaChecked
import Derived.Test.YtbkijealdjghgaaUHas
import Derived.Test.YtbkijealdjghgaaUPkA
namespace Go.Proofs.Ytbkijealdjghgaa
open Go.ChangeShapes Go.WideShapes Go.ChangeAt Go.RowKit
set_option linter.unusedVariables false

def badSet (n : Int) (s : List Int) : Bool := s.isEmpty || !rising s n
def areSets (n : Int) (xss : List (List Int)) : Bool := decide (1 ≤ n ∧ n ≤ 12) && decide (xss.length ≤ 60) && !xss.any (badSet n)
theorem badSet_nil {n : Int} {s : List Int} (h : s.length = 0) : badSet n s = true := by
  have : s = [] := List.eq_nil_of_length_eq_zero h
  subst this; rfl
theorem badSet_pos {n : Int} {s : List Int} (h : s.length ≠ 0) : badSet n s = !rising s n := by
  cases s with
  | nil => simp at h
  | cons a l => simp [badSet]

/-! ### the reference's -/
theorem areSets_bad {n : Int} {xss : List (List Int)} (k : Nat) (hk : k < xss.length) (h : badSet n xss[k] = true) : areSets n xss = false := by
  have : xss.any (badSet n) = true := by rw [List.any_eq_true]; exact ⟨_, List.getElem_mem hk, h⟩
  unfold areSets; rw [this]; simp
theorem areSets_good {n : Int} {xss : List (List Int)} (h : ∀ k (hk : k < xss.length), badSet n xss[k] = false) : areSets n xss = (decide (1 ≤ n ∧ n ≤ 12) && decide (xss.length ≤ 60)) := by
  have : xss.any (badSet n) = false := by
    rw [List.any_eq_false]; intro y hy
    obtain ⟨i, hi, rfl⟩ := List.getElem_of_mem hy
    simp [h i hi]
  unfold areSets; rw [this]; simp

/-! ### hitting -/
def hitsB (xss : List (List Int)) (l : List Int) : Bool := xss.all fun s => common s l
theorem hitsB_any (xss : List (List Int)) (l : List Int) : (!xss.any fun s => !common s l) = hitsB xss l := by unfold hitsB; rw [List.not_any_eq_all_not]; simp

theorem hitsB_bad {xss : List (List Int)} {l : List Int} (k : Nat) (hk : k < xss.length) (h : common xss[k] l = false) : hitsB xss l = false := by
  unfold hitsB; rw [List.all_eq_false]; exact ⟨_, List.getElem_mem hk, by simp [h]⟩
theorem hitsB_good {xss : List (List Int)} {l : List Int} (h : ∀ k (hk : k < xss.length), common xss[k] l = true) : hitsB xss l = true := by
  unfold hitsB; rw [List.all_eq_true]; intro y hy
  obtain ⟨i, hi, rfl⟩ := List.getElem_of_mem hy
  exact h i hi

/-! ### the codes -/
def setsCode (n : Int) (xss : List (List Int)) (l : List Int) : Int := if areSets n xss = true then (if rising l n = true then 0 else 2) else 1
end Go.Proofs.Ytbkijealdjghgaa
