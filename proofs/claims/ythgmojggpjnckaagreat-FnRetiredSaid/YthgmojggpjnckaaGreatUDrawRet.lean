/- Proved: the draws of the laws on doors and rows: l11DrawKey. -/
import Derived.Test.YthgmojggpjnckaaGreatChecked
import Derived.Deep.RegionLaw
import Derived.Deep.RegionHeld3
import Derived.Deep.Cut
import Derived.Test.YthgmojggpjnckaaGreatUDrawCost
namespace Go.Proofs.YthgmojggpjnckaaGreat
open Go.ChangeShapes Go.WideShapes Go.ChangeAt Go.RowKit
set_option linter.unusedVariables false

def NumD (w : World) (r : Value) (_ : World) : Prop := ∃ x : Int, r = .int .i64 x ∧ I64 x
set_option maxRecDepth 20000 in
set_option maxHeartbeats 1000000 in
theorem l11DrawKey_c (w : World) (g : Nat) (h : Src g w) (a : Option Addr) (n cap : Nat) (hn : n ≤ 14) :
    Calls Tryz.prog 68 #[.pointer (some ⟨g, 0, none⟩), .slice a n cap] w (DrawR g w (NumD w)) := by
  have hcall := l01Next_c w g h 12 (by unfold I64; omega)
  clear h
  go_enter Tryz.func68, Tryz.ntmps68
  go_wp2_with fail
  refine Calls.mono hcall ?_
  rintro e w1 ⟨_, rfl, ⟨x, rfl, hx0, hx1⟩, hd1⟩
  clear hcall
  go_wp2_with fail
  have hq0 : 0 ≤ x / 11 := by omega
  have hq1 : x / 11 ≤ 12 := by omega
  have hcall := l01Next_c w1 g hd1.src ((n : Int) + x / 11) (by unfold I64; omega)
  generalize x / 11 = q at *
  refine Calls.mono hcall ?_
  rintro e w2 ⟨_, rfl, ⟨y, rfl, hy0, hy1⟩, hd2⟩
  clear hcall
  have hy2 : y ≤ 100 := by omega
  go_wp2_with fail
  have hcall := l01Next_c w2 g hd2.src 20 (by unfold I64; omega)
  refine Calls.mono hcall ?_
  rintro e w3 ⟨_, rfl, ⟨u, rfl, hu0, hu1⟩, hd3⟩
  clear hcall
  have hz0 : 0 ≤ u / 19 := by omega
  have hz1 : u / 19 ≤ 20 := by omega
  go_wp2_with fail
  go_ret
  exact ⟨_, rfl, ⟨_, rfl, by unfold I64; omega⟩, hd1.trans (hd2.trans hd3)⟩
end Go.Proofs.YthgmojggpjnckaaGreat
