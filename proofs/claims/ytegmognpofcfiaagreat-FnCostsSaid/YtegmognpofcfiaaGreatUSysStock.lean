/- Proved: SystemStock, program and reference. -/
import Derived.Test.YtegmognpofcfiaaGreatChecked
import Derived.Deep.RegionLaw
import Derived.Test.YtegmognpofcfiaaGreatUStockSpec
import Derived.Test.YtegmognpofcfiaaGreatUPkD
import Derived.Test.YtegmognpofcfiaaGreatUPkL
import Derived.Test.YtegmognpofcfiaaGreatULockOk
namespace Go.Proofs.YtegmognpofcfiaaGreat
open Go.ChangeShapes Go.WideShapes Go.ChangeAt Go.RowKit
set_option linter.unusedVariables false

def systemStock (mk : MK) (t cuts : List (List Int)) : S3 × Int := if designCode mk t cuts ≠ 0 then (([], ([], [])), designCode mk t cuts) else (stockL mk.d (locks mk t cuts), 0)
theorem systemStock_bad {mk : MK} {t cuts : List (List Int)} (h : designCode mk t cuts ≠ 0) : systemStock mk t cuts = (([], ([], [])), designCode mk t cuts) := by unfold systemStock; rw [if_pos h]
theorem systemStock_ok {mk : MK} {t cuts : List (List Int)} (h : designCode mk t cuts = 0) : systemStock mk t cuts = (stockL mk.d (locks mk t cuts), 0) := by unfold systemStock; rw [if_neg (by omega)]
theorem Stock3.low {w w1 w' : World} {x : S3} {c : Int} {r : Value} (h : Stock3 w1 x c r w') (e : Ext w w1) : Stock3 w x c r w' := by
  obtain ⟨u0, u1, u2, l0, h0, l1, h1, l2, h2, rfl, ⟨q1, q2, q3, q4, q5, q6, q7⟩, i0, i1, i2⟩ := h
  have := e.size
  exact ⟨u0, u1, u2, l0, h0, l1, h1, l2, h2, rfl, ⟨by omega, q2, by omega, q4, by omega, q6, q7⟩, i0, i1, i2⟩
theorem Stock3.shape {w w' : World} {x : S3} {c : Int} {r : Value} (h : Stock3 w x c r w') : ∃ u0 u1 u2, r = .tuple #[u0, u1, u2, .int .i64 c] := by
  obtain ⟨u0, u1, u2, l0, h0, l1, h1, l2, h2, rfl, -⟩ := h
  exact ⟨u0, u1, u2, rfl⟩

set_option maxRecDepth 20000 in
set_option maxHeartbeats 1000000 in
theorem SystemStock_c (w : World) (mk : MK) (v : Value) (z : Zone) (t : List (List Int)) (h : RowsR z w v t) (u : Value) (y : Zone) (cuts : List (List Int)) (hc : RowsR y w u cuts) :
    Calls Tryz.prog 18 #[sysV mk v, u] w (Ret w (Stock3 w (systemStock mk t cuts).1 (systemStock mk t cuts).2)) := by
  have H1 : Hid (designCode mk t cuts ≠ 0 → systemStock mk t cuts = (([], ([], [])), designCode mk t cuts)) := systemStock_bad
  have H2 : Hid (designCode mk t cuts = 0 → systemStock mk t cuts = (stockL mk.d (locks mk t cuts), 0)) := systemStock_ok
  have HC1 := Lib.hid (fun (w' : World) (e : Ext w w') => designCode_c w' mk v z t (stable_rows.ext h e) u y cuts (stable_rows.ext hc e))
  have HC2 := Lib.hid (fun (h0 : designCode mk t cuts = 0) (w' : World) (e : Ext w w') => partLocks_c w' mk v z t (stable_rows.ext h e) u y cuts (stable_rows.ext hc e) (designCode_zero h0).toPartOk)
  have HC3 : Hid (designCode mk t cuts = 0 → ∀ (w' : World) (v' : Value) (z' : Zone), LocksR z' w' v' (locks mk t cuts) → Calls Tryz.prog 99 #[mk.v, v'] w' (Ret w' (Stock3 w' (stockL mk.d (locks mk t cuts)) 0))) := fun h0 w' v' z' g => by
    have ok := designCode_zero h0
    have hm := ok.sys
    exact StockOf_c w' mk (by unfold isSystem at hm; exact (Bool.and_eq_true_iff.1 hm).1) v' z' _ g (by rw [locks_len]; have := ok.doors; omega) (fun i hi => design_lock ok (by rw [locks_len] at hi; exact hi))
  generalize hrc : designCode mk t cuts = rc at *
  generalize systemStock mk t cuts = res at *
  generalize stockL mk.d (locks mk t cuts) = st at *
  obtain ⟨a, n, cap, rfl, -⟩ := SliceR.shape h
  obtain ⟨a2, n2, cap2, rfl, -⟩ := SliceR.shape hc
  clear h hc hrc
  unfold sysV at *
  go_enter Tryz.func18, Tryz.ntmps18
  go_wp2_with fail
  generalize hw0 : World.alloc _ _ = w0
  obtain ⟨e0, S0⟩ := sys_box hw0
  clear hw0
  refine Calls.mono (HC1.out w0 e0) ?_
  rintro e w1 hr
  obtain ⟨r, rfl, rfl, e1⟩ := ret_ext hr
  clear hr
  have et := e0.trans e1
  by_cases hd : rc = 0
  · have hb : (rc != 0) = false := by rw [hd]; rfl
    have HH := Lib.hid (H2.out hd)
    replace HC2 := Lib.hid (fun (w' : World) (e : Ext w1 w') => HC2.out hd w' (et.trans e))
    replace HC3 := Lib.hid (HC3.out hd)
    have HA := Lib.hid (fun (w' : World) (e : Ext w1 w') => SysAt.all ((S0.ext e1).ext e) (Ext.refl _))
    obtain ⟨c0, c1, c2, c3, c4, c5⟩ := S0.ext e1
    clear hd H1 H2 S0 HC1
    unfold MK.v at *
    go_wp2_with fail
    go_region_held3 (fun w' => w'.cell? ⟨w.heap.size, 0, none⟩ = some (.int .i64 mk.c) ∧ w'.cell? ⟨w.heap.size, 1, none⟩ = some (.int .i64 mk.d) ∧ w'.cell? ⟨w.heap.size, 2, none⟩ = some (.int .i64 mk.s) ∧ w'.cell? ⟨w.heap.size, 3, none⟩ = some (.int .i64 mk.m) ∧ w'.cell? ⟨w.heap.size, 4, none⟩ = some (.int .i64 mk.l) ∧ w'.cell? ⟨w.heap.size, 5, none⟩ = some (.slice a n cap)) (exact HA.out _ (by repeat (first | exact Ext.refl _ | assumption | (refine Ext.trans ?_ (Ext.alloc _ _)) | (refine Ext.trans ?_ (Ext.drew _)) | (refine Ext.trans ?_ (by assumption))))) (first | (go_at_call 100; (with_reducible refine (HC2.out _ (by repeat (first | exact Ext.refl _ | assumption | (refine Ext.trans ?_ (Ext.alloc _ _)) | (refine Ext.trans ?_ (Ext.drew _)) | (refine Ext.trans ?_ (by assumption))))).mono ?_); rintro e w7 hr7; obtain ⟨r7, rfl, o7, e7⟩ := ret_ext hr7; clear hr7; have e17 : Ext w1 w7 := (by repeat (first | exact Ext.refl _ | assumption | (refine Ext.trans ?_ (Ext.alloc _ _)) | (refine Ext.trans ?_ (Ext.drew _)) | (refine Ext.trans ?_ (by assumption)))); obtain ⟨a7, n7, k7, rfl, -⟩ := SliceR.shape o7) | (go_at_call 99; (with_reducible refine (HC3.out _ _ _ (stable_locks.ext o7 (by repeat (first | exact Ext.refl _ | assumption | (refine Ext.trans ?_ (Ext.alloc _ _)) | (refine Ext.trans ?_ (Ext.drew _)) | (refine Ext.trans ?_ (by assumption)))))).mono ?_); rintro e w8 hr8; obtain ⟨r8, rfl, o8, e8⟩ := ret_ext hr8; clear hr8; have e18 : Ext w1 w8 := (by repeat (first | exact Ext.refl _ | assumption | (refine Ext.trans ?_ (Ext.alloc _ _)) | (refine Ext.trans ?_ (Ext.drew _)) | (refine Ext.trans ?_ (by assumption)))); have O8 := Lib.hid (Stock3.low (w := w1) o8 (by repeat (first | exact Ext.refl _ | assumption | (refine Ext.trans ?_ (Ext.alloc _ _)) | (refine Ext.trans ?_ (Ext.drew _)) | (refine Ext.trans ?_ (by assumption))))); obtain ⟨x0, x1, x2, rfl⟩ := Stock3.shape o8; clear o8) | fail)
    all_goals
      clear HA HC2 HC3 o7
      go_wp2_with fail
      refine bodyPost_ret (v := .tuple #[x0, x1, x2, .int .i64 0]) (by simp [results, Tryz.results18, go_sem]) rfl ⟨_, rfl, ?_, et.trans e18⟩
      rw [HH.out]
      exact Stock3.low O8.out et
  · have hb : (rc != 0) = true := by rw [bne_iff_ne]; exact hd
    have HH := Lib.hid (H1.out hd)
    clear hd H1 H2 S0 HC2 HC3
    go_wp2_with fail
    refine bodyPost_ret (v := .tuple #[.slice none 0 0, .slice none 0 0, .slice none 0 0, .int .i64 rc]) (by simp [results, Tryz.results18, go_sem]) rfl ⟨_, rfl, ?_, et⟩
    rw [HH.out]
    exact Stock3.none et.size
set_option maxRecDepth 20000 in
set_option maxHeartbeats 1000000 in
theorem SystemStockSpec_c (w : World) (mk : MK) (v : Value) (z : Zone) (t : List (List Int)) (h : RowsR z w v t) (u : Value) (y : Zone) (cuts : List (List Int)) (hc : RowsR y w u cuts) :
    Calls Tryz.prog 19 #[sysV mk v, u] w (Ret w (Stock3 w (systemStock mk t cuts).1 (systemStock mk t cuts).2)) := by
  have H1 : Hid (designCode mk t cuts ≠ 0 → systemStock mk t cuts = (([], ([], [])), designCode mk t cuts)) := systemStock_bad
  have H2 : Hid (designCode mk t cuts = 0 → systemStock mk t cuts = (stockL mk.d (locks mk t cuts), 0)) := systemStock_ok
  have HC1 := Lib.hid (fun (w' : World) (e : Ext w w') => l21Code_c w' mk v z t (stable_rows.ext h e) u y cuts (stable_rows.ext hc e))
  have HC2 := Lib.hid (fun (h0 : designCode mk t cuts = 0) (w' : World) (e : Ext w w') => l15Locks_c w' mk v z t (stable_rows.ext h e) u y cuts (stable_rows.ext hc e) (designCode_zero h0).toPartOk)
  have HC3 : Hid (designCode mk t cuts = 0 → ∀ (w' : World) (v' : Value) (z' : Zone), LocksR z' w' v' (locks mk t cuts) → Calls Tryz.prog 101 #[mk.v, v'] w' (Ret w' (Stock3 w' (stockL mk.d (locks mk t cuts)) 0))) := fun h0 w' v' z' g => by
    have ok := designCode_zero h0
    have hm := ok.sys
    exact StockOfSpec_c w' mk (by unfold isSystem at hm; exact (Bool.and_eq_true_iff.1 hm).1) v' z' _ g (by rw [locks_len]; have := ok.doors; omega) (fun i hi => design_lock ok (by rw [locks_len] at hi; exact hi))
  generalize hrc : designCode mk t cuts = rc at *
  generalize systemStock mk t cuts = res at *
  generalize stockL mk.d (locks mk t cuts) = st at *
  obtain ⟨a, n, cap, rfl, -⟩ := SliceR.shape h
  obtain ⟨a2, n2, cap2, rfl, -⟩ := SliceR.shape hc
  clear h hc hrc
  unfold sysV at *
  go_enter Tryz.func19, Tryz.ntmps19
  go_wp2_with fail
  generalize hw0 : World.alloc _ _ = w0
  obtain ⟨e0, S0⟩ := sys_box hw0
  clear hw0
  refine Calls.mono (HC1.out w0 e0) ?_
  rintro e w1 hr
  obtain ⟨r, rfl, rfl, e1⟩ := ret_ext hr
  clear hr
  have et := e0.trans e1
  by_cases hd : rc = 0
  · have hb : (rc != 0) = false := by rw [hd]; rfl
    have HH := Lib.hid (H2.out hd)
    replace HC2 := Lib.hid (fun (w' : World) (e : Ext w1 w') => HC2.out hd w' (et.trans e))
    replace HC3 := Lib.hid (HC3.out hd)
    have HA := Lib.hid (fun (w' : World) (e : Ext w1 w') => SysAt.all ((S0.ext e1).ext e) (Ext.refl _))
    obtain ⟨c0, c1, c2, c3, c4, c5⟩ := S0.ext e1
    clear hd H1 H2 S0 HC1
    unfold MK.v at *
    go_wp2_with fail
    go_region_held3 (fun w' => w'.cell? ⟨w.heap.size, 0, none⟩ = some (.int .i64 mk.c) ∧ w'.cell? ⟨w.heap.size, 1, none⟩ = some (.int .i64 mk.d) ∧ w'.cell? ⟨w.heap.size, 2, none⟩ = some (.int .i64 mk.s) ∧ w'.cell? ⟨w.heap.size, 3, none⟩ = some (.int .i64 mk.m) ∧ w'.cell? ⟨w.heap.size, 4, none⟩ = some (.int .i64 mk.l) ∧ w'.cell? ⟨w.heap.size, 5, none⟩ = some (.slice a n cap)) (exact HA.out _ (by repeat (first | exact Ext.refl _ | assumption | (refine Ext.trans ?_ (Ext.alloc _ _)) | (refine Ext.trans ?_ (Ext.drew _)) | (refine Ext.trans ?_ (by assumption))))) (first | (go_at_call 102; (with_reducible refine (HC2.out _ (by repeat (first | exact Ext.refl _ | assumption | (refine Ext.trans ?_ (Ext.alloc _ _)) | (refine Ext.trans ?_ (Ext.drew _)) | (refine Ext.trans ?_ (by assumption))))).mono ?_); rintro e w7 hr7; obtain ⟨r7, rfl, o7, e7⟩ := ret_ext hr7; clear hr7; have e17 : Ext w1 w7 := (by repeat (first | exact Ext.refl _ | assumption | (refine Ext.trans ?_ (Ext.alloc _ _)) | (refine Ext.trans ?_ (Ext.drew _)) | (refine Ext.trans ?_ (by assumption)))); obtain ⟨a7, n7, k7, rfl, -⟩ := SliceR.shape o7) | (go_at_call 101; (with_reducible refine (HC3.out _ _ _ (stable_locks.ext o7 (by repeat (first | exact Ext.refl _ | assumption | (refine Ext.trans ?_ (Ext.alloc _ _)) | (refine Ext.trans ?_ (Ext.drew _)) | (refine Ext.trans ?_ (by assumption)))))).mono ?_); rintro e w8 hr8; obtain ⟨r8, rfl, o8, e8⟩ := ret_ext hr8; clear hr8; have e18 : Ext w1 w8 := (by repeat (first | exact Ext.refl _ | assumption | (refine Ext.trans ?_ (Ext.alloc _ _)) | (refine Ext.trans ?_ (Ext.drew _)) | (refine Ext.trans ?_ (by assumption)))); have O8 := Lib.hid (Stock3.low (w := w1) o8 (by repeat (first | exact Ext.refl _ | assumption | (refine Ext.trans ?_ (Ext.alloc _ _)) | (refine Ext.trans ?_ (Ext.drew _)) | (refine Ext.trans ?_ (by assumption))))); obtain ⟨x0, x1, x2, rfl⟩ := Stock3.shape o8; clear o8) | fail)
    all_goals
      clear HA HC2 HC3 o7
      go_wp2_with fail
      refine bodyPost_ret (v := .tuple #[x0, x1, x2, .int .i64 0]) (by simp [results, Tryz.results19, go_sem]) rfl ⟨_, rfl, ?_, et.trans e18⟩
      rw [HH.out]
      exact Stock3.low O8.out et
  · have hb : (rc != 0) = true := by rw [bne_iff_ne]; exact hd
    have HH := Lib.hid (H1.out hd)
    clear hd H1 H2 S0 HC2 HC3
    go_wp2_with fail
    refine bodyPost_ret (v := .tuple #[.slice none 0 0, .slice none 0 0, .slice none 0 0, .int .i64 rc]) (by simp [results, Tryz.results19, go_sem]) rfl ⟨_, rfl, ?_, et⟩
    rw [HH.out]
    exact Stock3.none et.size
end Go.Proofs.YtegmognpofcfiaaGreat
