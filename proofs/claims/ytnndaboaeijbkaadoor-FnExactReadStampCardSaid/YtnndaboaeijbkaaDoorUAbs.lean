/- Proved: the absolute value of a number that is not too large, program and reference. -/
import Derived.Test.YtnndaboaeijbkaaDoorChecked
import Derived.Test.YtnndaboaeijbkaaDoorUBase
namespace Go.Proofs.YtnndaboaeijbkaaDoor
open Go.ChangeShapes Go.WideShapes Go.ChangeAt Go.RowKit
set_option linter.unusedVariables false

theorem l01Abs_c (w : World) (x : Int) (h1 : -1000000 ≤ x) (h2 : x ≤ 1000000) : Calls Tryd.prog 46 #[.int .i64 x] w (RetQ w (.int .i64 (x.natAbs : Int))) := by
  by_cases hx : x < -x
  · have HH : Hid ((x.natAbs : Int) = -x) := by show _ = _; omega
    go_enter Tryd.func46, Tryd.ntmps46
    go_wp2_with fail
    go_ret
    exact ⟨ret_int HH.out.symm, Drew.refl _⟩
  · have HH : Hid ((x.natAbs : Int) = x) := by show _ = _; omega
    go_enter Tryd.func46, Tryd.ntmps46
    go_wp2_with fail
    go_ret
    exact ⟨ret_int HH.out.symm, Drew.refl _⟩

theorem absolute_c (w : World) (x : Int) (h1 : -1000000 ≤ x) (h2 : x ≤ 1000000) : Calls Tryd.prog 63 #[.int .i64 x] w (RetQ w (.int .i64 (x.natAbs : Int))) := by
  by_cases hx : x < -x
  · have HH : Hid ((x.natAbs : Int) = -x) := by show _ = _; omega
    go_enter Tryd.func63, Tryd.ntmps63
    go_wp2_with fail
    go_ret
    exact ⟨ret_int HH.out.symm, Drew.refl _⟩
  · have HH : Hid ((x.natAbs : Int) = x) := by show _ = _; omega
    go_enter Tryd.func63, Tryd.ntmps63
    go_wp2_with fail
    go_ret
    exact ⟨ret_int HH.out.symm, Drew.refl _⟩
end Go.Proofs.YtnndaboaeijbkaaDoor
