/- Proved: the absolute value of a number that is not too large, program and reference. -/
import Derived.Test.YtgagjibjnaappaaChecked
import Derived.Test.YtgagjibjnaappaaUBase
namespace Go.Proofs.Ytgagjibjnaappaa
open Go.ChangeShapes Go.WideShapes Go.ChangeAt Go.RowKit
set_option linter.unusedVariables false

theorem l01Abs_c (w : World) (x : Int) (h1 : -1000000 ≤ x) (h2 : x ≤ 1000000) : Calls Try.prog 131 #[.int .i64 x] w (RetQ w (.int .i64 (x.natAbs : Int))) := by
  by_cases hx : x < -x
  · have HH : Hid ((x.natAbs : Int) = -x) := by show _ = _; omega
    go_enter Try.func131, Try.ntmps131
    go_wp2_with fail
    go_ret
    exact ⟨ret_int HH.out.symm, Drew.refl _⟩
  · have HH : Hid ((x.natAbs : Int) = x) := by show _ = _; omega
    go_enter Try.func131, Try.ntmps131
    go_wp2_with fail
    go_ret
    exact ⟨ret_int HH.out.symm, Drew.refl _⟩

theorem absolute_c (w : World) (x : Int) (h1 : -1000000 ≤ x) (h2 : x ≤ 1000000) : Calls Try.prog 168 #[.int .i64 x] w (RetQ w (.int .i64 (x.natAbs : Int))) := by
  by_cases hx : x < -x
  · have HH : Hid ((x.natAbs : Int) = -x) := by show _ = _; omega
    go_enter Try.func168, Try.ntmps168
    go_wp2_with fail
    go_ret
    exact ⟨ret_int HH.out.symm, Drew.refl _⟩
  · have HH : Hid ((x.natAbs : Int) = x) := by show _ = _; omega
    go_enter Try.func168, Try.ntmps168
    go_wp2_with fail
    go_ret
    exact ⟨ret_int HH.out.symm, Drew.refl _⟩
end Go.Proofs.Ytgagjibjnaappaa
