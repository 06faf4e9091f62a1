/- Proved: SystemWafers, program and reference. -/
import Derived.Test.YtegmognpofcfiaaGreatChecked
import Derived.Test.YtegmognpofcfiaaGreatUWafers
import Derived.Test.YtegmognpofcfiaaGreatUPkD
import Derived.Test.YtegmognpofcfiaaGreatUPkL
namespace Go.Proofs.YtegmognpofcfiaaGreat
open Go.ChangeShapes Go.WideShapes Go.ChangeAt Go.RowKit
set_option linter.unusedVariables false

def sysWaf (mk : MK) (t cuts : List (List Int)) : Int × Int := if designCode mk t cuts ≠ 0 then (0, designCode mk t cuts) else (sysWafers mk t cuts, 0)
theorem sysWaf_bad {mk : MK} {t cuts : List (List Int)} (h : designCode mk t cuts ≠ 0) : sysWaf mk t cuts = (0, designCode mk t cuts) := by unfold sysWaf; rw [if_pos h]
theorem sysWaf_ok {mk : MK} {t cuts : List (List Int)} (h : designCode mk t cuts = 0) : sysWaf mk t cuts = (sysWafers mk t cuts, 0) := by unfold sysWaf; rw [if_neg (by omega)]

set_option maxRecDepth 20000 in
set_option maxHeartbeats 1000000 in
theorem SystemWafers_c (w : World) (mk : MK) (v : Value) (z : Zone) (t : List (List Int)) (h : RowsR z w v t) (u : Value) (y : Zone) (cuts : List (List Int)) (hc : RowsR y w u cuts) :
    Calls Tryz.prog 16 #[sysV mk v, u] w (Ret w fun r _ => r = IntCode (sysWaf mk t cuts)) := by
  have H1 : Hid (designCode mk t cuts ≠ 0 → sysWaf mk t cuts = (0, designCode mk t cuts)) := sysWaf_bad
  have H2 : Hid (designCode mk t cuts = 0 → sysWaf mk t cuts = (sysWafers mk t cuts, 0)) := sysWaf_ok
  have HC1 := Lib.hid (fun (w' : World) (e : Ext w w') => designCode_c w' mk v z t (stable_rows.ext h e) u y cuts (stable_rows.ext hc e))
  have HC3 := Lib.hid (fun (h0 : designCode mk t cuts = 0) (w' : World) (e : Ext w w') => systemWafers_c w' mk v z t (stable_rows.ext h e) u y cuts (stable_rows.ext hc e) (designCode_zero h0).toPartOk)
  generalize hrc : designCode mk t cuts = rc at *
  generalize sysWaf mk t cuts = res at *
  generalize sysWafers mk t cuts = sw at *
  obtain ⟨a, n, cap, rfl, -⟩ := SliceR.shape h
  obtain ⟨a2, n2, cap2, rfl, -⟩ := SliceR.shape hc
  clear h hc hrc
  unfold sysV at *
  go_enter Tryz.func16, Tryz.ntmps16
  go_wp2_with fail
  generalize hw0 : World.alloc _ _ = w0
  obtain ⟨e0, S0⟩ := sys_box hw0
  clear hw0
  refine Calls.mono (HC1.out w0 e0) ?_
  rintro e w1 hr
  obtain ⟨r, rfl, rfl, e1⟩ := ret_ext hr
  clear hr HC1
  have et := e0.trans e1
  obtain ⟨c0, c1, c2, c3, c4, c5⟩ := S0.ext e1
  clear S0
  by_cases hd : rc = 0
  · have HH := Lib.hid (H2.out hd)
    have hcall := HC3.out hd w1 et
    have hb0 : (rc != 0) = false := by rw [hd]; rfl
    clear hd H1 H2 HC3
    go_wp2_with fail
    refine Calls.mono hcall ?_
    rintro e w3 hr
    obtain ⟨r, rfl, rfl, e3⟩ := ret_ext hr
    clear hr hcall c0 c1 c2 c3 c4 c5
    go_wp2_with fail
    go_ret2
    exact ⟨_, rfl, IntCode_mk HH.out, et.trans e3⟩
  · have HH := Lib.hid (H1.out hd)
    have hb0 : (rc != 0) = true := by rw [bne_iff_ne]; exact hd
    clear hd H1 H2 HC3
    go_wp2_with fail
    go_ret2
    exact ⟨_, rfl, IntCode_mk HH.out, et⟩

set_option maxRecDepth 20000 in
set_option maxHeartbeats 1000000 in
theorem SystemWafersSpec_c (w : World) (mk : MK) (v : Value) (z : Zone) (t : List (List Int)) (h : RowsR z w v t) (u : Value) (y : Zone) (cuts : List (List Int)) (hc : RowsR y w u cuts) :
    Calls Tryz.prog 17 #[sysV mk v, u] w (Ret w fun r _ => r = IntCode (sysWaf mk t cuts)) := by
  have H1 : Hid (designCode mk t cuts ≠ 0 → sysWaf mk t cuts = (0, designCode mk t cuts)) := sysWaf_bad
  have H2 : Hid (designCode mk t cuts = 0 → sysWaf mk t cuts = (sysWafers mk t cuts, 0)) := sysWaf_ok
  have HC1 := Lib.hid (fun (w' : World) (e : Ext w w') => l21Code_c w' mk v z t (stable_rows.ext h e) u y cuts (stable_rows.ext hc e))
  have HC3 := Lib.hid (fun (h0 : designCode mk t cuts = 0) (w' : World) (e : Ext w w') => l23Wafers_c w' mk v z t (stable_rows.ext h e) u y cuts (stable_rows.ext hc e) (designCode_zero h0).toPartOk)
  generalize hrc : designCode mk t cuts = rc at *
  generalize sysWaf mk t cuts = res at *
  generalize sysWafers mk t cuts = sw at *
  obtain ⟨a, n, cap, rfl, -⟩ := SliceR.shape h
  obtain ⟨a2, n2, cap2, rfl, -⟩ := SliceR.shape hc
  clear h hc hrc
  unfold sysV at *
  go_enter Tryz.func17, Tryz.ntmps17
  go_wp2_with fail
  generalize hw0 : World.alloc _ _ = w0
  obtain ⟨e0, S0⟩ := sys_box hw0
  clear hw0
  refine Calls.mono (HC1.out w0 e0) ?_
  rintro e w1 hr
  obtain ⟨r, rfl, rfl, e1⟩ := ret_ext hr
  clear hr HC1
  have et := e0.trans e1
  obtain ⟨c0, c1, c2, c3, c4, c5⟩ := S0.ext e1
  clear S0
  by_cases hd : rc = 0
  · have HH := Lib.hid (H2.out hd)
    have hcall := HC3.out hd w1 et
    have hb0 : (rc != 0) = false := by rw [hd]; rfl
    clear hd H1 H2 HC3
    go_wp2_with fail
    refine Calls.mono hcall ?_
    rintro e w3 hr
    obtain ⟨r, rfl, rfl, e3⟩ := ret_ext hr
    clear hr hcall c0 c1 c2 c3 c4 c5
    go_wp2_with fail
    go_ret2
    exact ⟨_, rfl, IntCode_mk HH.out, et.trans e3⟩
  · have HH := Lib.hid (H1.out hd)
    have hb0 : (rc != 0) = true := by rw [bne_iff_ne]; exact hd
    clear hd H1 H2 HC3
    go_wp2_with fail
    go_ret2
    exact ⟨_, rfl, IntCode_mk HH.out, et⟩
end Go.Proofs.YtegmognpofcfiaaGreat
