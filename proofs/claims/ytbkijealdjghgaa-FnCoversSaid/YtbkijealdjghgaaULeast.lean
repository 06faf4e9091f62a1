/- Proved: LeastHitting: program and reference compute the same, for all arguments. -/
import Derived.Test.YtbkijealdjghgaaChecked
import Derived.Test.YtbkijealdjghgaaULeastSpec
namespace Go.Proofs.Ytbkijealdjghgaa
open Go.ChangeShapes Go.WideShapes Go.ChangeAt Go.RowKit
set_option linter.unusedVariables false

theorem leastL_eq (p : List Int → Bool) (n : Nat) : leastL p n = ((allChoices n).find? p).getD [] := by unfold leastL; rw [least_eq]
theorem allChoices_none {p : List Int → Bool} {n : Nat} (h : ∀ j, j < n + 1 → (choices j n).find? p = none) : leastL p n = [] := by
  rw [leastL_eq, List.find?_eq_none.2]
  · rfl
  · intro x hx
    unfold allChoices at hx
    obtain ⟨j, hj, hx⟩ := List.mem_flatMap.1 hx
    exact List.find?_eq_none.1 (h j (List.mem_range.1 hj)) x hx
theorem allChoices_at {p : List Int → Bool} {n k : Nat} {x : List Int} (hk : k < n + 1) (h : ∀ j, j < k → (choices j n).find? p = none) (hx : (choices k n).find? p = some x) : leastL p n = x := by
  rw [leastL_eq]
  have e : (allChoices n).find? p = some x := by
    unfold allChoices
    have : List.range (n + 1) = List.range k ++ k :: (List.range (n - k)).map (k + 1 + ·) := by
      have h1 : n + 1 = k + ((n - k) + 1) := by omega
      rw [h1, List.range_add, List.range_succ_eq_map, List.map_cons, List.map_map]
      congr 2
      exact List.map_congr_left (fun i _ => by simp only [Function.comp]; omega)
    rw [this, List.flatMap_append, List.flatMap_cons, List.find?_append, List.find?_append, hx, List.find?_eq_none.2]
    · rfl
    · intro y hy
      obtain ⟨j, hj, hy⟩ := List.mem_flatMap.1 hy
      exact List.find?_eq_none.1 (h j (List.mem_range.1 hj)) y hy
  rw [e]; rfl
theorem find_at {p : List Int → Bool} {l : List (List Int)} {i : Nat} (hi : i < l.length) (h : ∀ j (hj : j < l.length), j < i → p l[j] = false) (hp : p l[i] = true) : l.find? p = some l[i] := by
  rw [List.find?_eq_some_iff_getElem]
  exact ⟨hp, i, hi, rfl, fun j hj => by rw [h j (by omega) hj]; rfl⟩
theorem find_no {p : List Int → Bool} {l : List (List Int)} (h : ∀ j (hj : j < l.length), p l[j] = false) : l.find? p = none := by
  rw [List.find?_eq_none]
  intro x hx
  obtain ⟨j, hj, rfl⟩ := List.getElem_of_mem hx
  rw [h j hj]; simp

/-! ### the two functions -/
def leastHit (n : Int) (xss : List (List Int)) : List Int × Int := if areSets n xss = true then (leastL (hitsB xss) n.toNat, 0) else ([], 1)
theorem leastHit_ok {n : Int} {xss : List (List Int)} (h : areSets n xss = true) : leastHit n xss = (leastL (hitsB xss) n.toNat, 0) := by unfold leastHit; rw [if_pos h]
theorem leastHit_no {n : Int} {xss : List (List Int)} (h : areSets n xss = false) : leastHit n xss = ([], 1) := by unfold leastHit; rw [if_neg (by simp [h])]
theorem leastL_length (p : List Int → Bool) (n : Nat) : (leastL p n).length ≤ n := by
  unfold leastL
  have := bestOf_is p (allSets n)
  cases h : bestOf p (allSets n) with
  | none => simp
  | some b =>
    rw [h] at this
    exact rises_length (mem_allSets.1 this.1)
theorem leastHit_length (n : Int) (xss : List (List Int)) : ((leastHit n xss).1.length : Int) ≤ 1048576 := by
  unfold leastHit
  split
  · next h =>
    have := leastL_length (hitsB xss) n.toNat
    have := (areSets_mem h).2.1
    simp only; omega
  · simp
end Go.Proofs.Ytbkijealdjghgaa
