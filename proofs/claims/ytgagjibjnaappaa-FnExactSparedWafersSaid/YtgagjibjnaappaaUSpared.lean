/- Proved: SparedWafers, program and reference. -/
import Derived.Test.YtgagjibjnaappaaChecked
import Derived.Test.YtgagjibjnaappaaULeastWS
import Derived.Test.YtgagjibjnaappaaUCost
namespace Go.Proofs.Ytgagjibjnaappaa
open Go.ChangeShapes Go.WideShapes Go.ChangeAt Go.RowKit
set_option linter.unusedVariables false

theorem sub_small {mk : MK} {t cuts : List (List Int)} (h : designCode mk t cuts = 0) : IntKind.i64.wrap (sysWafers mk t cuts - (leastTo mk t (doorsOf t) : Int)) = sysWafers mk t cuts - (leastTo mk t (doorsOf t) : Int) := by
  have ok := designCode_zero h
  have h1 := sysWafers_bound (cuts := cuts) ok.toSysOk
  have h2 := leastTo_le ok.toSysOk (design_least h) (doorsOf t)
  have h3 := ok.doors
  have h4 : doorsOf t * 42 ≤ 12 * 42 := Nat.mul_le_mul_right _ h3.2
  exact IntWalk.i64_in _ (by omega)

set_option maxRecDepth 20000 in
set_option maxHeartbeats 1000000 in
theorem SparedWafers_c (w : World) (mk : MK) (v : Value) (z : Zone) (t : List (List Int)) (h : RowsR z w v t) (u : Value) (y : Zone) (cuts : List (List Int)) (hc : RowsR y w u cuts) :
    Calls Try.prog 46 #[sysV mk v, u] w (Ret w fun r _ => r = IntCode (spared mk t cuts)) := by
  have H1 : Hid (designCode mk t cuts ≠ 0 → spared mk t cuts = (0, designCode mk t cuts)) := spared_bad
  have H2 : Hid (designCode mk t cuts = 0 → spared mk t cuts = (sysWafers mk t cuts - (leastTo mk t (doorsOf t) : Int), 0)) := spared_ok
  have HSub : Hid (designCode mk t cuts = 0 → IntKind.i64.wrap (sysWafers mk t cuts - (leastTo mk t (doorsOf t) : Int)) = sysWafers mk t cuts - (leastTo mk t (doorsOf t) : Int)) := sub_small
  have HC1 := Lib.hid (fun (w' : World) (e : Ext w w') => designCode_c w' mk v z t (stable_rows.ext h e) u y cuts (stable_rows.ext hc e))
  have HC2 := Lib.hid (fun (h0 : designCode mk t cuts = 0) (w' : World) (e : Ext w w') => LeastWafers_c w' mk v z t (stable_rows.ext h e) (designCode_zero h0).sys (design_least h0))
  have HC3 := Lib.hid (fun (h0 : designCode mk t cuts = 0) (w' : World) (e : Ext w w') => systemWafers_c w' mk v z t (stable_rows.ext h e) u y cuts (stable_rows.ext hc e) (designCode_zero h0).toPartOk)
  generalize hrc : designCode mk t cuts = rc at *
  generalize spared mk t cuts = res at *
  generalize sysWafers mk t cuts = sw at *
  generalize leastTo mk t (doorsOf t) = lw at *
  obtain ⟨a, n, cap, rfl, -⟩ := SliceR.shape h
  obtain ⟨a2, n2, cap2, rfl, -⟩ := SliceR.shape hc
  clear h hc hrc
  unfold sysV at *
  go_enter Try.func46, Try.ntmps46
  go_wp2_with fail
  generalize hw0 : World.alloc _ _ = w0
  obtain ⟨e0, S0⟩ := sys_box hw0
  clear hw0
  refine Calls.mono (HC1.out w0 e0) ?_
  rintro e w1 hr
  obtain ⟨r, rfl, rfl, e1⟩ := ret_ext hr
  clear hr HC1
  have et := e0.trans e1
  have HS := Lib.hid (S0.ext e1)
  obtain ⟨c0, c1, c2, c3, c4, c5⟩ := S0.ext e1
  clear S0
  by_cases hd : rc = 0
  · have HH := Lib.hid (H2.out hd)
    have hsub := HSub.out hd
    have hcall := HC2.out hd w1 et
    replace HC3 := Lib.hid (HC3.out hd)
    have hb0 : (rc != 0) = false := by rw [hd]; rfl
    clear hd H1 H2 HC2 HSub
    unfold IntCode at hcall
    simp only at hcall
    go_wp2_with fail
    refine Calls.mono hcall ?_
    rintro e w2 hr
    obtain ⟨r, rfl, rfl, e2⟩ := ret_ext hr
    clear hr hcall c0 c1 c2 c3 c4 c5
    obtain ⟨c0, c1, c2, c3, c4, c5⟩ := HS.out.ext e2
    have et2 := et.trans e2
    have hcall := HC3.out w2 et2
    clear HC3
    go_wp2_with fail
    refine Calls.mono hcall ?_
    rintro e w3 hr
    obtain ⟨r, rfl, rfl, e3⟩ := ret_ext hr
    clear hr hcall c0 c1 c2 c3 c4 c5
    go_wp2_with fail
    go_ret2
    exact ⟨_, rfl, IntCode_mk HH.out, et2.trans e3⟩
  · have HH := Lib.hid (H1.out hd)
    have hb0 : (rc != 0) = true := by rw [bne_iff_ne]; exact hd
    clear hd H1 H2 HC2 HC3 HSub
    go_wp2_with fail
    go_ret2
    exact ⟨_, rfl, IntCode_mk HH.out, et⟩
set_option maxRecDepth 20000 in
set_option maxHeartbeats 1000000 in
theorem SparedWafersSpec_c (w : World) (mk : MK) (v : Value) (z : Zone) (t : List (List Int)) (h : RowsR z w v t) (u : Value) (y : Zone) (cuts : List (List Int)) (hc : RowsR y w u cuts) :
    Calls Try.prog 45 #[sysV mk v, u] w (Ret w fun r _ => r = IntCode (spared mk t cuts)) := by
  have H1 : Hid (designCode mk t cuts ≠ 0 → spared mk t cuts = (0, designCode mk t cuts)) := spared_bad
  have H2 : Hid (designCode mk t cuts = 0 → spared mk t cuts = (sysWafers mk t cuts - (leastTo mk t (doorsOf t) : Int), 0)) := spared_ok
  have HSub : Hid (designCode mk t cuts = 0 → IntKind.i64.wrap (sysWafers mk t cuts - (leastTo mk t (doorsOf t) : Int)) = sysWafers mk t cuts - (leastTo mk t (doorsOf t) : Int)) := sub_small
  have HC1 := Lib.hid (fun (w' : World) (e : Ext w w') => l21Code_c w' mk v z t (stable_rows.ext h e) u y cuts (stable_rows.ext hc e))
  have HC2 := Lib.hid (fun (h0 : designCode mk t cuts = 0) (w' : World) (e : Ext w w') => LeastWafersSpec_c w' mk v z t (stable_rows.ext h e) (designCode_zero h0).sys (design_least h0))
  have HC3 := Lib.hid (fun (h0 : designCode mk t cuts = 0) (w' : World) (e : Ext w w') => l23Wafers_c w' mk v z t (stable_rows.ext h e) u y cuts (stable_rows.ext hc e) (designCode_zero h0).toPartOk)
  generalize hrc : designCode mk t cuts = rc at *
  generalize spared mk t cuts = res at *
  generalize sysWafers mk t cuts = sw at *
  generalize leastTo mk t (doorsOf t) = lw at *
  obtain ⟨a, n, cap, rfl, -⟩ := SliceR.shape h
  obtain ⟨a2, n2, cap2, rfl, -⟩ := SliceR.shape hc
  clear h hc hrc
  unfold sysV at *
  go_enter Try.func45, Try.ntmps45
  go_wp2_with fail
  generalize hw0 : World.alloc _ _ = w0
  obtain ⟨e0, S0⟩ := sys_box hw0
  clear hw0
  refine Calls.mono (HC1.out w0 e0) ?_
  rintro e w1 hr
  obtain ⟨r, rfl, rfl, e1⟩ := ret_ext hr
  clear hr HC1
  have et := e0.trans e1
  have HS := Lib.hid (S0.ext e1)
  obtain ⟨c0, c1, c2, c3, c4, c5⟩ := S0.ext e1
  clear S0
  by_cases hd : rc = 0
  · have HH := Lib.hid (H2.out hd)
    have hsub := HSub.out hd
    have hcall := HC2.out hd w1 et
    replace HC3 := Lib.hid (HC3.out hd)
    have hb0 : (rc != 0) = false := by rw [hd]; rfl
    clear hd H1 H2 HC2 HSub
    unfold IntCode at hcall
    simp only at hcall
    go_wp2_with fail
    refine Calls.mono hcall ?_
    rintro e w2 hr
    obtain ⟨r, rfl, rfl, e2⟩ := ret_ext hr
    clear hr hcall c0 c1 c2 c3 c4 c5
    obtain ⟨c0, c1, c2, c3, c4, c5⟩ := HS.out.ext e2
    have et2 := et.trans e2
    have hcall := HC3.out w2 et2
    clear HC3
    go_wp2_with fail
    refine Calls.mono hcall ?_
    rintro e w3 hr
    obtain ⟨r, rfl, rfl, e3⟩ := ret_ext hr
    clear hr hcall c0 c1 c2 c3 c4 c5
    go_wp2_with fail
    go_ret2
    exact ⟨_, rfl, IntCode_mk HH.out, et2.trans e3⟩
  · have HH := Lib.hid (H1.out hd)
    have hb0 : (rc != 0) = true := by rw [bne_iff_ne]; exact hd
    clear hd H1 H2 HC2 HC3 HSub
    go_wp2_with fail
    go_ret2
    exact ⟨_, rfl, IntCode_mk HH.out, et⟩
end Go.Proofs.Ytgagjibjnaappaa
