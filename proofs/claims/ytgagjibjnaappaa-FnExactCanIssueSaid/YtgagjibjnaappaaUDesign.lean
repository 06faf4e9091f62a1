/- Proved: whether cuts are a design of a system, program and reference. -/
import Derived.Test.YtgagjibjnaappaaChecked
import Derived.Test.YtgagjibjnaappaaUFaultsImpl
namespace Go.Proofs.Ytgagjibjnaappaa
open Go.ChangeShapes Go.WideShapes Go.ChangeAt Go.RowKit
set_option linter.unusedVariables false

structure DesignOk (mk : MK) (t cuts : List (List Int)) : Prop extends PartOk mk t cuts where
  eq : cuts.length = t.length
  sys : isSystem mk t = true
  keys : areKeysB mk cuts = true
theorem sysCode_zero {mk : MK} {t cuts : List (List Int)} (h : sysCode mk t cuts = 0) : DesignOk mk t cuts ∧ isDesign mk t cuts = decide (faults mk t cuts = 0) := by
  unfold sysCode at h
  cases h1 : isSystem mk t with
  | false => rw [h1, if_pos rfl] at h; omega
  | true =>
    rw [h1, if_neg (by decide)] at h
    cases h2 : (decide (cuts.length = t.length) && areKeysB mk cuts) with
    | false => rw [h2, if_pos rfl] at h; omega
    | true =>
      obtain ⟨h3, h4⟩ := Bool.and_eq_true_iff.1 h2
      have h3 := of_decide_eq_true h3
      exact ⟨⟨⟨sysOk h1, by omega, keysOk h4⟩, h3, h1, h4⟩, by unfold isDesign; rw [h1, h2]; rfl⟩
theorem sysCode_bad {mk : MK} {t cuts : List (List Int)} (h : sysCode mk t cuts ≠ 0) : isDesign mk t cuts = false := by
  unfold sysCode at h
  unfold isDesign
  cases h1 : isSystem mk t with
  | false => rfl
  | true =>
    rw [h1, if_neg (by decide)] at h
    cases h2 : (decide (cuts.length = t.length) && areKeysB mk cuts) with
    | false => rfl
    | true => rw [h2, if_neg (by decide)] at h; exact absurd rfl h
theorem designOk {mk : MK} {t cuts : List (List Int)} (h : isDesign mk t cuts = true) : DesignOk mk t cuts := by
  by_cases e : sysCode mk t cuts = 0
  · exact (sysCode_zero e).1
  · rw [sysCode_bad e] at h; cases h

set_option maxRecDepth 20000 in
set_option maxHeartbeats 1000000 in
theorem IsDesign_c (w : World) (mk : MK) (v : Value) (z : Zone) (t : List (List Int)) (h : RowsR z w v t) (u : Value) (y : Zone) (cuts : List (List Int)) (hc : RowsR y w u cuts) :
    Calls Try.prog 70 #[sysV mk v, u] w (Ret w fun r _ => r = .bool (isDesign mk t cuts)) := by
  have HZ : Hid (sysCode mk t cuts = 0 → isDesign mk t cuts = decide (faults mk t cuts = 0)) := fun h => (sysCode_zero h).2
  have HB : Hid (sysCode mk t cuts ≠ 0 → isDesign mk t cuts = false) := sysCode_bad
  have HC1 := Lib.hid (fun (w' : World) (e : Ext w w') => cutsCode_c w' mk v z t (stable_rows.ext h e) u y cuts (stable_rows.ext hc e))
  have HC2 : Hid (sysCode mk t cuts = 0 → ∀ w', Ext w w' → Calls Try.prog 107 #[sysV mk v, u] w' (Ret w' (LenP (faults mk t cuts)))) := fun h0 w' e => partFaults_c w' mk v z t (stable_rows.ext h e) u y cuts (stable_rows.ext hc e) (sysCode_zero h0).1.toPartOk
  generalize isDesign mk t cuts = res at *
  generalize sysCode mk t cuts = sc at *
  generalize faults mk t cuts = fs at *
  obtain ⟨a, n, cap, rfl, -⟩ := SliceR.shape h
  obtain ⟨a2, n2, cap2, rfl, -⟩ := SliceR.shape hc
  clear h hc
  unfold sysV at *
  go_enter Try.func70, Try.ntmps70
  go_wp2_with fail
  generalize hw0 : World.alloc _ _ = w0
  obtain ⟨e0, S0⟩ := sys_box hw0
  clear hw0
  refine Calls.mono (HC1.out w0 e0) ?_
  rintro e w1 hr
  obtain ⟨r, rfl, rfl, e1⟩ := ret_ext hr
  clear hr
  obtain ⟨c0, c1, c2, c3, c4, c5⟩ := S0.ext e1
  have et := e0.trans e1
  by_cases hs : sc = 0
  · have hb : (sc == 0) = true := by simpa using hs
    have HH := Lib.hid (HZ.out hs)
    have hcall := HC2.out hs w1 et
    clear hs HB HZ S0
    go_wp2_with fail
    refine Calls.mono hcall ?_
    rintro e w2 hr
    obtain ⟨r, rfl, ⟨a3, m3, c3, rfl, hm3, hmm⟩, e2⟩ := ret_ext hr
    clear hr hcall
    by_cases hf : fs = 0
    · have hm0 : ((m3 : Int) == 0) = true := by rw [hm3, hf]; rfl
      have HR : Hid (res = true) := by show _ = _; rw [HH.out]; exact decide_eq_true hf
      clear hf hm3
      go_wp2_with fail
      go_ret
      exact ⟨.bool true, rfl, congrArg Value.bool HR.out.symm, et.trans e2⟩
    · have hm0 : ((m3 : Int) == 0) = false := by rw [beq_eq_false_iff_ne]; omega
      have HR : Hid (res = false) := by show _ = _; rw [HH.out]; exact decide_eq_false hf
      clear hf hm3
      go_wp2_with fail
      go_ret
      exact ⟨.bool false, rfl, congrArg Value.bool HR.out.symm, et.trans e2⟩
  · have hb : (sc == 0) = false := by simpa using hs
    have HH := Lib.hid (HB.out hs)
    clear hs HB HZ S0
    go_wp2_with fail
    go_ret
    exact ⟨.bool false, rfl, congrArg Value.bool HH.out.symm, et⟩

set_option maxRecDepth 20000 in
set_option maxHeartbeats 1000000 in
theorem IsDesignSpec_c (w : World) (mk : MK) (v : Value) (z : Zone) (t : List (List Int)) (h : RowsR z w v t) (u : Value) (y : Zone) (cuts : List (List Int)) (hc : RowsR y w u cuts) :
    Calls Try.prog 68 #[sysV mk v, u] w (Ret w fun r _ => r = .bool (isDesign mk t cuts)) := by
  have HZ : Hid (sysCode mk t cuts = 0 → isDesign mk t cuts = decide (faults mk t cuts = 0)) := fun h => (sysCode_zero h).2
  have HB : Hid (sysCode mk t cuts ≠ 0 → isDesign mk t cuts = false) := sysCode_bad
  have HC1 := Lib.hid (fun (w' : World) (e : Ext w w') => l15Code_c w' mk v z t (stable_rows.ext h e) u y cuts (stable_rows.ext hc e))
  have HC2 : Hid (sysCode mk t cuts = 0 → ∀ w', Ext w w' → Calls Try.prog 104 #[sysV mk v, u] w' (Ret w' (LenP (faults mk t cuts)))) := fun h0 w' e => l15False_c w' mk v z t (stable_rows.ext h e) u y cuts (stable_rows.ext hc e) (sysCode_zero h0).1.toPartOk
  generalize isDesign mk t cuts = res at *
  generalize sysCode mk t cuts = sc at *
  generalize faults mk t cuts = fs at *
  obtain ⟨a, n, cap, rfl, -⟩ := SliceR.shape h
  obtain ⟨a2, n2, cap2, rfl, -⟩ := SliceR.shape hc
  clear h hc
  unfold sysV at *
  go_enter Try.func68, Try.ntmps68
  go_wp2_with fail
  generalize hw0 : World.alloc _ _ = w0
  obtain ⟨e0, S0⟩ := sys_box hw0
  clear hw0
  refine Calls.mono (HC1.out w0 e0) ?_
  rintro e w1 hr
  obtain ⟨r, rfl, rfl, e1⟩ := ret_ext hr
  clear hr
  obtain ⟨c0, c1, c2, c3, c4, c5⟩ := S0.ext e1
  have et := e0.trans e1
  by_cases hs : sc = 0
  · have hb : (sc == 0) = true := by simpa using hs
    have HH := Lib.hid (HZ.out hs)
    have hcall := HC2.out hs w1 et
    clear hs HB HZ S0
    go_wp2_with fail
    refine Calls.mono hcall ?_
    rintro e w2 hr
    obtain ⟨r, rfl, ⟨a3, m3, c3, rfl, hm3, hmm⟩, e2⟩ := ret_ext hr
    clear hr hcall
    by_cases hf : fs = 0
    · have hm0 : ((m3 : Int) == 0) = true := by rw [hm3, hf]; rfl
      have HR : Hid (res = true) := by show _ = _; rw [HH.out]; exact decide_eq_true hf
      clear hf hm3
      go_wp2_with fail
      go_ret
      exact ⟨.bool true, rfl, congrArg Value.bool HR.out.symm, et.trans e2⟩
    · have hm0 : ((m3 : Int) == 0) = false := by rw [beq_eq_false_iff_ne]; omega
      have HR : Hid (res = false) := by show _ = _; rw [HH.out]; exact decide_eq_false hf
      clear hf hm3
      go_wp2_with fail
      go_ret
      exact ⟨.bool false, rfl, congrArg Value.bool HR.out.symm, et.trans e2⟩
  · have hb : (sc == 0) = false := by simpa using hs
    have HH := Lib.hid (HB.out hs)
    clear hs HB HZ S0
    go_wp2_with fail
    go_ret
    exact ⟨.bool false, rfl, congrArg Value.bool HH.out.symm, et⟩

def designCode (mk : MK) (t cuts : List (List Int)) : Int := if isDesign mk t cuts = true then 0 else 1
theorem designCode_zero {mk : MK} {t cuts : List (List Int)} (h : designCode mk t cuts = 0) : DesignOk mk t cuts := by
  unfold designCode at h
  cases e : isDesign mk t cuts with
  | true => exact designOk e
  | false => rw [e, if_neg (by decide)] at h; omega

set_option maxRecDepth 20000 in
theorem designCode_c (w : World) (mk : MK) (v : Value) (z : Zone) (t : List (List Int)) (h : RowsR z w v t) (u : Value) (y : Zone) (cuts : List (List Int)) (hc : RowsR y w u cuts) :
    Calls Try.prog 52 #[sysV mk v, u] w (Ret w fun r _ => r = .int .i64 (designCode mk t cuts)) := by
  have HC1 := Lib.hid (fun (w' : World) (e : Ext w w') => IsDesign_c w' mk v z t (stable_rows.ext h e) u y cuts (stable_rows.ext hc e))
  unfold designCode
  generalize isDesign mk t cuts = q at *
  obtain ⟨a, n, cap, rfl, -⟩ := SliceR.shape h
  obtain ⟨a2, n2, cap2, rfl, -⟩ := SliceR.shape hc
  clear h hc
  unfold sysV at *
  go_enter Try.func52, Try.ntmps52
  go_wp2_with fail
  generalize hw0 : World.alloc _ _ = w0
  obtain ⟨e0, S0⟩ := sys_box hw0
  clear hw0
  refine Calls.mono (HC1.out w0 e0) ?_
  rintro e w1 hr
  obtain ⟨r, rfl, rfl, e1⟩ := ret_ext hr
  clear hr
  cases q with
  | true =>
    go_wp2_with fail
    go_ret
    exact ⟨.int .i64 0, rfl, rfl, e0.trans e1⟩
  | false =>
    go_wp2_with fail
    go_ret
    exact ⟨.int .i64 1, rfl, rfl, e0.trans e1⟩
set_option maxRecDepth 20000 in
theorem l21Code_c (w : World) (mk : MK) (v : Value) (z : Zone) (t : List (List Int)) (h : RowsR z w v t) (u : Value) (y : Zone) (cuts : List (List Int)) (hc : RowsR y w u cuts) :
    Calls Try.prog 48 #[sysV mk v, u] w (Ret w fun r _ => r = .int .i64 (designCode mk t cuts)) := by
  have HC1 := Lib.hid (fun (w' : World) (e : Ext w w') => IsDesignSpec_c w' mk v z t (stable_rows.ext h e) u y cuts (stable_rows.ext hc e))
  unfold designCode
  generalize isDesign mk t cuts = q at *
  obtain ⟨a, n, cap, rfl, -⟩ := SliceR.shape h
  obtain ⟨a2, n2, cap2, rfl, -⟩ := SliceR.shape hc
  clear h hc
  unfold sysV at *
  go_enter Try.func48, Try.ntmps48
  go_wp2_with fail
  generalize hw0 : World.alloc _ _ = w0
  obtain ⟨e0, S0⟩ := sys_box hw0
  clear hw0
  refine Calls.mono (HC1.out w0 e0) ?_
  rintro e w1 hr
  obtain ⟨r, rfl, rfl, e1⟩ := ret_ext hr
  clear hr
  cases q with
  | true =>
    go_wp2_with fail
    go_ret
    exact ⟨.int .i64 0, rfl, rfl, e0.trans e1⟩
  | false =>
    go_wp2_with fail
    go_ret
    exact ⟨.int .i64 1, rfl, rfl, e0.trans e1⟩
end Go.Proofs.Ytgagjibjnaappaa
