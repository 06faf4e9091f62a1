/- Proved: two equal systems are alike. -/
import Derived.Test.YthgmojggpjnckaaGreatChecked
import Derived.Test.YthgmojggpjnckaaGreatULikeLists
import Derived.Test.YthgmojggpjnckaaGreatUPkL
namespace Go.Proofs.YthgmojggpjnckaaGreat
open Go.ChangeShapes Go.WideShapes Go.ChangeAt Go.RowKit
set_option linter.unusedVariables false

set_option maxRecDepth 20000 in
set_option maxHeartbeats 1000000 in
theorem likeSystems_c (w : World) (mk : MK) (u v : Value) (y z : Zone) (t : List (List Int)) (h1 : RowsR y w u t) (h2 : RowsR z w v t) : Calls Tryz.prog 27 #[sysV mk u, sysV mk v] w (Ret w fun r _ => r = .bool true) := by
  have HL := Lib.hid (fun (w' : World) (e : Ext w w') => likeLists_c w' u v y z t t (stable_rows.ext h1 e) (stable_rows.ext h2 e))
  rw [show decide (t = t) = true by simp] at HL
  obtain ⟨a, n, k, rfl, -⟩ := SliceR.shape h1
  obtain ⟨a2, n2, k2, rfl, -⟩ := SliceR.shape h2
  clear h1 h2
  unfold sysV
  go_enter Tryz.func27, Tryz.ntmps27
  go_wp2_with fail
  have e0 := (Ext.alloc w (.cells #[.int .i64 mk.c, .int .i64 mk.d, .int .i64 mk.s, .int .i64 mk.m, .int .i64 mk.l, .slice a n k] 32)).trans (Ext.alloc _ (.cells #[.int .i64 mk.c, .int .i64 mk.d, .int .i64 mk.s, .int .i64 mk.m, .int .i64 mk.l, .slice a2 n2 k2] 32))
  refine Calls.mono (HL.out _ e0) ?_
  rintro e w1 hr
  obtain ⟨rfl, -, e1⟩ := retq_ext hr
  have HE := Lib.hid (e0.trans e1)
  clear hr e0 e1
  go_wp2_with fail
  go_ret
  exact ⟨_, rfl, rfl, HE.out⟩
end Go.Proofs.YthgmojggpjnckaaGreat
