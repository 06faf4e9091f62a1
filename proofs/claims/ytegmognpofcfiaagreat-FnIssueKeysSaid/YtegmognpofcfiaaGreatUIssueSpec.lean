/- Proved: IssueKeys of the reference. -/
import Derived.Test.YtegmognpofcfiaaGreatChecked
import Derived.Deep.RegionHeld3
import Derived.Test.YtegmognpofcfiaaGreatUIssueLaw
import Derived.Test.YtegmognpofcfiaaGreatUCands
import Derived.Test.YtegmognpofcfiaaGreatUPkD
import Derived.Test.YtegmognpofcfiaaGreatURowCodeSpec
import Derived.Test.YtegmognpofcfiaaGreatUPkA
namespace Go.Proofs.YtegmognpofcfiaaGreat
open Go.ChangeShapes Go.WideShapes Go.ChangeAt Go.RowKit
set_option linter.unusedVariables false

set_option maxRecDepth 20000 in
set_option maxHeartbeats 2000000 in
theorem IssueKeysSpec_c (w : World) (mk : MK) (v : Value) (z : Zone) (t : List (List Int)) (h : RowsR z w v t) (u : Value) (y : Zone) (cuts : List (List Int)) (hc : RowsR y w u cuts) (v3 : Value) (z3 : Zone) (row : List Int) (hr : IntsR z3 w v3 row) (most : Int) (hm : I64 most) :
    Calls Tryz.prog 46 #[sysV mk v, u, v3, .int .i64 most] w (Ret w (RowsCode w (issueKeys mk t cuts row most))) := by
  have H1 : Hid (designCode mk t cuts ≠ 0 → issueKeys mk t cuts row most = ([], 1)) := issueKeys_bad
  have H2 : Hid (designCode mk t cuts = 0 → inB most 0 300 = false → issueKeys mk t cuts row most = ([], 2)) := issueKeys_most
  have H3 : Hid (designCode mk t cuts = 0 → inB most 0 300 = true → rowCode mk t cuts row [] ≠ 0 → issueKeys mk t cuts row most = ([], rowCode mk t cuts row [])) := issueKeys_row
  have H4 : Hid (designCode mk t cuts = 0 → inB most 0 300 = true → rowCode mk t cuts row [] = 0 → issueKeys mk t cuts row most = (candL mk (fun k => decide (faults mk (t ++ [row]) (cuts ++ [k]) = 0)) most, 0)) := fun h1 h2 h3 => by rw [issueKeys_ok h1 h2 h3, candL_congr (cand_stays h3)]
  have HV := Lib.hid (designCode_val mk t cuts)
  have HC1 := Lib.hid (fun (w' : World) (e : Ext w w') => l21Code_c w' mk v z t (stable_rows.ext h e) u y cuts (stable_rows.ext hc e))
  have HC2 := Lib.hid (fun (w' : World) (e : Ext w w') => l24Row_c w' mk v z t (stable_rows.ext h e) u y cuts (stable_rows.ext hc e) v3 z3 row (stable_ints.ext hr e))
  have HC3 := Lib.hid (fun (h0 : rowCode mk t cuts row [] = 0) (w' : World) (e : Ext w w') => withFirst w' mk v z t (stable_rows.ext h e) v3 z3 row (stable_ints.ext hr e) (rowCode_zero h0))
  have HC4 := Lib.hid (fun (h0 : rowCode mk t cuts row [] = 0) (w' : World) (e : Ext w w') (v' : Value) (x1 : Zone) (g1 : RowsR x1 w' v' (t ++ [row])) => l16Candidates_c w' mk (designOk_mk (rowCode_zero h0).toDesignOk) v' x1 _ g1 u y cuts (stable_rows.ext hc e) (rowCode_front h0) (by have := (rowCode_zero h0).eq; simp; omega) most hm)
  generalize candL mk (fun k => decide (faults mk (t ++ [row]) (cuts ++ [k]) = 0)) most = cl at *
  generalize issueKeys mk t cuts row most = res at *
  generalize designCode mk t cuts = dc at *
  generalize rowCode mk t cuts row [] = rc at *
  have HI := Lib.hid (fun (w' : World) => l01In_c w' most 0 300)
  generalize inB most 0 300 = q at *
  obtain ⟨a, n, cap, rfl, -⟩ := SliceR.shape h
  obtain ⟨a2, n2, cap2, rfl, -⟩ := SliceR.shape hc
  obtain ⟨a3, n3, cap3, rfl, -⟩ := SliceR.shape hr
  clear h hc hr
  unfold sysV at *
  go_enter Tryz.func46, Tryz.ntmps46
  go_wp2_with fail
  generalize hw0 : World.alloc _ _ = w0
  obtain ⟨e0, S0⟩ := sys_box hw0
  clear hw0
  refine Calls.mono (HC1.out w0 e0) ?_
  rintro e w1 hr
  obtain ⟨r, rfl, rfl, e1⟩ := ret_ext hr
  clear hr
  have HS1 := Lib.hid (S0.ext e1)
  obtain ⟨c0, c1, c2, c3, c4, c5⟩ := HS1.out
  have et := e0.trans e1
  by_cases hd : dc = 0
  · subst hd
    go_wp2_with fail
    refine Calls.mono (HI.out w1) ?_
    rintro e w2 ⟨rfl, hd2⟩
    have et2 := et.trans (Ext.ofDrew hd2)
    clear c0 c1 c2 c3 c4 c5 S0
    obtain ⟨c0, c1, c2, c3, c4, c5⟩ := HS1.out.ext (Ext.ofDrew hd2)
    cases q with
    | false =>
      have HH := Lib.hid (H2.out (by trivial) (by trivial))
      go_wp2_with fail
      go_ret2
      exact ⟨_, rfl, RowsCode_nil HH.out, et2⟩
    | true =>
      have H3' := Lib.hid (H3.out (by trivial) (by trivial))
      have H4' := Lib.hid (H4.out (by trivial) (by trivial))
      clear H1 H2 H3 H4 HV
      go_wp2_with fail
      refine Calls.mono (HC2.out w2 et2) ?_
      rintro e w3 hr
      obtain ⟨r, rfl, rfl, e3⟩ := ret_ext hr
      clear hr c0 c1 c2 c3 c4 c5
      obtain ⟨c0, c1, c2, c3, c4, c5⟩ := HS1.out.ext ((Ext.ofDrew hd2).trans e3)
      have et3 := et2.trans e3
      by_cases hr0 : rc = 0
      · have HH := Lib.hid (H4'.out hr0)
        have hcall := HC3.out hr0 w3 et3
        have HD4 := Lib.hid (HC4.out hr0)
        have hb : (rc != 0) = false := by rw [hr0]; rfl
        clear H3' H4' HC3 HC4 hr0
        go_wp2_with fail
        refine Calls.mono hcall ?_
        rintro e w4 hr
        obtain ⟨r, rfl, ⟨v', rfl, g1⟩, e4⟩ := ret_ext hr
        clear hr hcall
        have et4 := et3.trans e4
        have hcall := HD4.out w4 et4 v' _ g1
        obtain ⟨a5, n5, k5, rfl, -⟩ := SliceR.shape g1
        clear HD4 g1
        go_wp2_with fail
        refine Calls.mono hcall ?_
        rintro e w5 hr
        obtain ⟨r, rfl, g5, e5⟩ := ret_ext hr
        clear hr hcall
        have et5 := et4.trans e5
        have HR : Hid (RowsR (.new w w5) w5 r cl) := stable_rows.sub g5 ⟨fun k hk => ⟨Nat.le_trans et4.size hk.1, hk.2⟩, fun h => h⟩
        obtain ⟨a6, n6, k6, rfl, -⟩ := SliceR.shape g5
        clear g5
        go_wp2_with fail
        go_ret2
        exact ⟨_, rfl, by rw [HH.out]; exact ⟨_, rfl, HR.out⟩, et5⟩
      · have HH := Lib.hid (H3'.out hr0)
        have hb : (rc != 0) = true := by rw [bne_iff_ne]; exact hr0
        clear H3' H4' hr0
        go_wp2_with fail
        go_ret2
        exact ⟨_, rfl, RowsCode_nil HH.out, et3⟩
  · have HH := Lib.hid (H1.out hd)
    obtain rfl : dc = 1 := by have := HV.out; omega
    clear hd H1 H2 H3 H4
    go_wp2_with fail
    go_ret2
    exact ⟨_, rfl, RowsCode_nil HH.out, et⟩
end Go.Proofs.YtegmognpofcfiaaGreat
