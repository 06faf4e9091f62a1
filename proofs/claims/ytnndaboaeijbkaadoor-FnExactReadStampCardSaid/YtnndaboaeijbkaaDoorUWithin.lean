/- Proved: whether a number lies between two others: program and reference. -/
import Derived.Test.YtnndaboaeijbkaaDoorChecked
import Derived.Test.YtnndaboaeijbkaaDoorUBase
namespace Go.Proofs.YtnndaboaeijbkaaDoor
open Go.ChangeShapes Go.WideShapes Go.ChangeAt Go.RowKit
set_option linter.unusedVariables false

def inB (n lo hi : Int) : Bool := decide (lo ≤ n) && decide (n ≤ hi)

theorem l01In_c (w : World) (n lo hi : Int) : Calls Tryd.prog 35 #[.int .i64 n, .int .i64 lo, .int .i64 hi] w (RetQ w (.bool (inB n lo hi))) := by
  by_cases h1 : lo ≤ n
  · have HH : Hid (inB n lo hi = decide (n ≤ hi)) := by show _ = _; simp [inB, h1]
    go_enter Tryd.func35, Tryd.ntmps35
    go_wp2
    go_ret
    exact ⟨ret_bool' HH.out, Drew.refl _⟩
  · have HH : Hid (inB n lo hi = false) := by show _ = _; simp [inB, h1]
    go_enter Tryd.func35, Tryd.ntmps35
    go_wp2
    go_ret
    exact ⟨ret_bool' HH.out, Drew.refl _⟩

theorem within_c (w : World) (n lo hi : Int) : Calls Tryd.prog 27 #[.int .i64 n, .int .i64 lo, .int .i64 hi] w (RetQ w (.bool (inB n lo hi))) := by
  by_cases h1 : lo ≤ n
  · have HH : Hid (inB n lo hi = decide (n ≤ hi)) := by show _ = _; simp [inB, h1]
    go_enter Tryd.func27, Tryd.ntmps27
    go_wp2
    go_ret
    exact ⟨ret_bool' HH.out, Drew.refl _⟩
  · have HH : Hid (inB n lo hi = false) := by show _ = _; simp [inB, h1]
    go_enter Tryd.func27, Tryd.ntmps27
    go_wp2
    go_ret
    exact ⟨ret_bool' HH.out, Drew.refl _⟩
end Go.Proofs.YtnndaboaeijbkaaDoor
