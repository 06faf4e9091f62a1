/- Proved: IsSystem, program and reference. -/
import Derived.Test.YtnndaboaeijbkaaDoorChecked
import Derived.Test.YtnndaboaeijbkaaDoorUSys
namespace Go.Proofs.YtnndaboaeijbkaaDoor
open Go.ChangeShapes Go.WideShapes Go.ChangeAt Go.RowKit
set_option linter.unusedVariables false

theorem isSystem_maker {mk : MK} {t : List (List Int)} (h : isMaker mk = false) : isSystem mk t = false := by unfold isSystem; rw [h]; rfl
theorem isSystem_table {mk : MK} {t : List (List Int)} (h : isTable t = false) : isSystem mk t = false := by unfold isSystem; rw [h]; simp
theorem isSystem_shut {mk : MK} {t : List (List Int)} (d : Nat) (hd : d < doorsOf t) (h : doorOpen t d = false) : isSystem mk t = false := by
  have : (List.range (doorsOf t)).all (doorOpen t) = false := by rw [List.all_eq_false]; exact ⟨d, List.mem_range.2 hd, by rw [h]; decide⟩
  unfold isSystem; rw [this]; simp
theorem isSystem_yes {mk : MK} {t : List (List Int)} (h1 : isMaker mk = true) (h2 : isTable t = true) (h : ∀ d, d < doorsOf t → doorOpen t d = true) : isSystem mk t = true := by
  have : (List.range (doorsOf t)).all (doorOpen t) = true := by rw [List.all_eq_true]; intro d hd; exact h d (List.mem_range.1 hd)
  unfold isSystem; rw [this, h1, h2]; rfl

theorem anyTake_succ {α : Type} (l : List α) (p : α → Bool) (d : α) {i : Nat} (h : i < l.length) : (l.take (i+1)).any p = ((l.take i).any p || p (l.getD i d)) := by
  rw [List.take_add_one, List.getElem?_eq_getElem h, List.any_append]
  simp [h]
end Go.Proofs.YtnndaboaeijbkaaDoor
