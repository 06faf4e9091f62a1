/- Proved: the first rule that cuts do not keep. -/
import Derived.Test.YtnndaboaeijbkaaDoorUCuts
import Derived.Test.YtnndaboaeijbkaaDoorUKinds
namespace Go.Proofs.YtnndaboaeijbkaaDoor
open Go.ChangeShapes Go.WideShapes Go.ChangeAt Go.RowKit
set_option linter.unusedVariables false

/-- how many cuts that end at place i are equal -/
def runAt (l : List Int) : Nat → Nat
  | 0 => 1
  | i+1 => if l.getD (i+1) 0 = l.getD i 0 then runAt l i + 1 else 1
/-- the longest run among the first k places -/
def mostTo (l : List Int) : Nat → Nat
  | 0 => 0
  | k+1 => max (mostTo l k) (runAt l k)
theorem runAt_pos (l : List Int) : ∀ i, 1 ≤ runAt l i ∧ runAt l i ≤ i + 1
  | 0 => ⟨Nat.le_refl _, Nat.le_refl _⟩
  | i+1 => by
    have := runAt_pos l i
    unfold runAt
    split <;> omega
theorem mostTo_le (l : List Int) : ∀ k, mostTo l k ≤ k
  | 0 => Nat.le_refl _
  | k+1 => by
    have h1 := mostTo_le l k
    have h2 := (runAt_pos l k).2
    show max (mostTo l k) (runAt l k) ≤ k + 1
    omega
theorem mostTo_gt (l : List Int) (s : Nat) : ∀ k, s < mostTo l k ↔ ∃ i, i < k ∧ s < runAt l i
  | 0 => by simp [mostTo]
  | k+1 => by
    have ih := mostTo_gt l s k
    show s < max (mostTo l k) (runAt l k) ↔ _
    constructor
    · intro h
      by_cases e : s < runAt l k
      · exact ⟨k, by omega, e⟩
      · obtain ⟨i, h1, h2⟩ := ih.1 (by omega)
        exact ⟨i, by omega, h2⟩
    · rintro ⟨i, h1, h2⟩
      by_cases e : i = k
      · subst e; omega
      · have := ih.2 ⟨i, by omega, h2⟩
        omega
theorem runAt_same (l : List Int) : ∀ i j, j < runAt l i → l.getD (i - j) 0 = l.getD i 0
  | 0, j, h => by
    have : j = 0 := by simp [runAt] at h; exact h
    subst this; rfl
  | i+1, j, h => by
    unfold runAt at h
    split at h
    · rename_i he
      cases j with
      | zero => rfl
      | succ j =>
        have := runAt_same l i j (by omega)
        rw [Nat.add_sub_add_right, this, he]
    · have : j = 0 := by omega
      subst this; rfl
theorem runAt_stop (l : List Int) : ∀ i, runAt l i = i + 1 ∨ l.getD (i - runAt l i) 0 ≠ l.getD i 0
  | 0 => .inl rfl
  | i+1 => by
    unfold runAt
    split
    · rename_i he
      rcases runAt_stop l i with h | h
      · left; omega
      · right
        rw [Nat.add_sub_add_right, he]; exact h
    · rename_i he
      right; rw [Nat.add_sub_cancel]; exact fun h => he h.symm
theorem runAt_is (l : List Int) (i r : Nat) (h1 : 1 ≤ r) (h2 : r ≤ i + 1) (h3 : ∀ j, j < r → l.getD (i - j) 0 = l.getD i 0) (h4 : r = i + 1 ∨ l.getD (i - r) 0 ≠ l.getD i 0) : runAt l i = r := by
  have k1 := runAt_pos l i
  rcases Nat.lt_trichotomy (runAt l i) r with h | h | h
  · rcases runAt_stop l i with k | k
    · omega
    · exact absurd (h3 _ h) k
  · exact h
  · rcases h4 with k | k
    · omega
    · exact absurd (runAt_same l i r h) k
theorem getD_take {α : Type} (l : List α) (d : α) {k i : Nat} (h : i < k) : (l.take k).getD i d = l.getD i d := by
  rw [List.getD_eq_getElem?_getD, List.getD_eq_getElem?_getD, List.getElem?_take, if_pos h]
theorem runAt_take (l : List Int) {k : Nat} : ∀ i, i < k → runAt (l.take k) i = runAt l i
  | 0, _ => rfl
  | i+1, h => by
    unfold runAt
    rw [getD_take l 0 h, getD_take l 0 (by omega), runAt_take l i (by omega)]
theorem runAt_succ (l : List Int) (i : Nat) : runAt l (i+1) = if l.getD (i+1) 0 = l.getD i 0 then runAt l i + 1 else 1 := rfl
theorem mostTo_succ (l : List Int) (k : Nat) : mostTo l (k+1) = max (mostTo l k) (runAt l k) := rfl
/-- two cuts that lie too far from each other end at place i -/
def farAt (s : Int) (l : List Int) (i : Nat) : Bool := decide (0 < i) && decide (s < ((l.getD i 0 - l.getD (i-1) 0).natAbs : Int))
def farTo (s : Int) (l : List Int) (k : Nat) : Bool := (List.range k).any (farAt s l)
theorem farTo_succ (s : Int) (l : List Int) (k : Nat) : farTo s l (k+1) = (farTo s l k || farAt s l k) := by
  unfold farTo; rw [List.range_succ, List.any_append]; simp
theorem farTo_yes {s : Int} {l : List Int} {i k : Nat} (hi : i < k) (h : farAt s l i = true) : farTo s l k = true := by
  unfold farTo; exact List.any_eq_true.2 ⟨i, List.mem_range.2 hi, h⟩
/-- the number of the first rule that is not kept, or 0 -/
def keyFault (mk : MK) (l : List Int) : Int :=
  if (l.length : Int) ≠ mk.c then 1 else if cutsOk mk l = false then 2 else if farTo mk.s l l.length = true then 3 else if mk.m < (mostTo l l.length : Int) then 4 else if (kinds l : Int) < mk.l then 5 else 0
def isKeyB (mk : MK) (l : List Int) : Bool := decide (keyFault mk l = 0)
end Go.Proofs.YtnndaboaeijbkaaDoor
