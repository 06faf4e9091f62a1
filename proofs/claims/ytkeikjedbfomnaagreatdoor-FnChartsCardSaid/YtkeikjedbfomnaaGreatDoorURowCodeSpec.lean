/- Proved: the code of a system, a design, a further row and a key, as the reference tells it. -/
import Derived.Test.YtkeikjedbfomnaaGreatDoorChecked
import Derived.Test.YtkeikjedbfomnaaGreatDoorURowCode
namespace Go.Proofs.YtkeikjedbfomnaaGreatDoor
open Go.ChangeShapes Go.WideShapes Go.ChangeAt Go.RowKit
set_option linter.unusedVariables false

theorem rowCode_key {mk : MK} {t cuts : List (List Int)} {row key : List Int} (h : designCode mk t cuts = 0) : rowCode mk t cuts row [key] = if keyFault mk key = 0 then rowCode mk t cuts row [] else 2 := by
  have e1 : areKeysB mk [key] = isKeyB mk key := by unfold areKeysB; simp
  have e2 : areKeysB mk [] = true := rfl
  by_cases hk : keyFault mk key = 0
  · have e3 : isKeyB mk key = true := decide_eq_true hk
    rw [if_pos hk]
    cases hr : rowOk t row with
    | false => rw [rowCode_range h (by rw [hr]; rfl), rowCode_range h (by rw [hr]; rfl)]
    | true => rw [rowCode_ok h (by rw [hr, e1, e3]; rfl), rowCode_ok h (by rw [hr, e2]; rfl)]
  · have e3 : isKeyB mk key = false := decide_eq_false hk
    rw [if_neg hk, rowCode_range h (by rw [e1, e3, Bool.and_false])]
end Go.Proofs.YtkeikjedbfomnaaGreatDoor
