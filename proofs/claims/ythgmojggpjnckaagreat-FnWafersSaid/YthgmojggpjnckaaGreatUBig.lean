/- Proved: laws.big: whether a code is longer than 4096 bytes. -/
import Derived.Test.YthgmojggpjnckaaGreatChecked
import Derived.Test.YthgmojggpjnckaaGreatUPkDa
import Derived.Test.YthgmojggpjnckaaGreatUPkA
namespace Go.Proofs.YthgmojggpjnckaaGreat
open Go.ChangeShapes Go.WideShapes Go.ChangeAt Go.RowKit
set_option linter.unusedVariables false

theorem big_c (w : World) (v : Value) (z : Zone) (xs : List Int) (h : BytesR z w v xs) : Calls Tryz.prog 6 #[v] w (RetQ w (.bool (decide (4096 < xs.length)))) := by
  obtain ⟨a, n, cap, rfl, hn, hmax, -⟩ := BytesR.shape h
  clear h
  have HH : Hid (decide ((4096 : Int) < (n : Int)) = decide (4096 < xs.length)) := by show _ = _; rw [← hn]; exact decide_eq_decide.2 (by omega)
  clear hn
  go_enter Tryz.func6, Tryz.ntmps6
  go_wp2_with fail
  go_ret
  exact ⟨ret_bool HH.out, Drew.refl _⟩
end Go.Proofs.YthgmojggpjnckaaGreat
