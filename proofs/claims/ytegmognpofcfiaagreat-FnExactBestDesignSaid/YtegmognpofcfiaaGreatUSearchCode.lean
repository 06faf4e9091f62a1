/- Proved: searchCode of the program, no cuts. -/
import Derived.Test.YtegmognpofcfiaaGreatChecked
import Derived.Test.YtegmognpofcfiaaGreatUFindSpec
import Derived.Test.YtegmognpofcfiaaGreatUPkB
import Derived.Test.YtegmognpofcfiaaGreatUPkD
namespace Go.Proofs.YtegmognpofcfiaaGreat
open Go.ChangeShapes Go.WideShapes Go.ChangeAt Go.RowKit
set_option linter.unusedVariables false

theorem partOk_nil {mk : MK} {t : List (List Int)} (h : isSystem mk t = true) : PartOk mk t [] := ⟨sysOk h, Nat.zero_le _, by simp⟩
theorem areKeysB_nil (mk : MK) : areKeysB mk [] = true := rfl
theorem faults_nil (mk : MK) (t : List (List Int)) : faults mk t [] = 0 := by rw [faults_zero]; intro k hk; simp at hk
def partC (mk : MK) (t : List (List Int)) : Int := if isSystem mk t = true then 0 else 1

set_option maxRecDepth 20000 in
set_option maxHeartbeats 1000000 in
theorem partCode0_c (w : World) (mk : MK) (v : Value) (z : Zone) (t : List (List Int)) (h : RowsR z w v t) :
    Calls Tryz.prog 211 #[sysV mk v, .slice none 0 0] w (Ret w fun r _ => r = .int .i64 (partC mk t)) := by
  have HM : Hid (isSystem mk t = true → (2 ≤ mk.d ∧ mk.d ≤ 8) ∧ 0 ≤ mk.m) := fun h => by
    obtain ⟨-, a, -, b, -⟩ := isMaker_iff.1 (sysMaker h)
    exact ⟨a, by omega⟩
  have HP : Hid (partC mk t = if isSystem mk t = true then 0 else 1) := rfl
  have HC1 := Lib.hid (fun (w' : World) (e : Ext w w') => IsSystem_c w' mk v z t (stable_rows.ext h e))
  have HC2 := Lib.hid (fun (w' : World) (h1 : 2 ≤ mk.d ∧ mk.d ≤ 8) (h2 : 0 ≤ mk.m) => by
    have := areKeys_c w' mk h1 h2 (.slice none 0 0) (.old w') [] (SliceR.nil _ _ _)
    rw [areKeysB_nil] at this
    exact this)
  generalize isSystem mk t = q at *
  generalize partC mk t = res at *
  obtain ⟨a, n, cap, rfl, -⟩ := SliceR.shape h
  clear h
  unfold sysV MK.v at *
  go_enter Tryz.func211, Tryz.ntmps211
  go_wp2_with fail
  generalize hw0 : World.alloc _ _ = w0
  obtain ⟨e0, S0⟩ := sys_box hw0
  clear hw0
  have HS := Lib.hid S0
  clear S0
  refine Calls.mono (HC1.out w0 e0) ?_
  rintro e w1 hr
  obtain ⟨r, rfl, rfl, e1⟩ := ret_ext hr
  clear hr
  have et := e0.trans e1
  obtain ⟨c0, c1, c2, c3, c4, c5⟩ := HS.out.all e1
  cases q with
  | false =>
    go_wp2_with fail
    go_ret
    exact ⟨.int .i64 1, rfl, congrArg (Value.int .i64) HP.out.symm, et⟩
  | true =>
    have hb0 : ¬ ((n : Int) < 0) := by omega
    have hb1 : decide ((n : Int) < 0) = false := decide_eq_false hb0
    obtain ⟨m1, m2⟩ := HM.out rfl
    have hcall := HC2.out w1 m1 m2
    go_wp2_with fail
    refine Calls.mono hcall ?_
    rintro e w2 hr
    obtain ⟨r, rfl, rfl, e2⟩ := ret_ext hr
    clear hr hcall
    go_wp2_with fail
    go_ret
    exact ⟨.int .i64 0, rfl, congrArg (Value.int .i64) HP.out.symm, et.trans e2⟩

set_option maxRecDepth 20000 in
set_option maxHeartbeats 1000000 in
theorem isOpenPart0_c (w : World) (mk : MK) (v : Value) (z : Zone) (t : List (List Int)) (h : RowsR z w v t) (hs : isSystem mk t = true) :
    Calls Tryz.prog 213 #[sysV mk v, .slice none 0 0] w (Ret w fun r _ => r = .bool true) := by
  have HC := Lib.hid (fun (w' : World) (e : Ext w w') => by
    have := partFaults_c w' mk v z t (stable_rows.ext h e) (.slice none 0 0) (.old w') [] (SliceR.nil _ _ _) (partOk_nil hs)
    rw [faults_nil] at this
    exact this)
  obtain ⟨a, n, cap, rfl, -⟩ := SliceR.shape h
  clear h
  unfold sysV at *
  go_enter Tryz.func213, Tryz.ntmps213
  go_wp2_with fail
  generalize hw0 : World.alloc _ _ = w0
  obtain ⟨e0, S0⟩ := sys_box hw0
  clear hw0
  refine Calls.mono (HC.out w0 e0) ?_
  rintro e w1 hr
  obtain ⟨r, rfl, ⟨a7, n7, k7, rfl, rfl, -⟩, e1⟩ := ret_ext hr
  clear hr
  have et := e0.trans e1
  go_wp2_with fail
  go_ret
  exact ⟨.bool true, rfl, rfl, et⟩

set_option maxRecDepth 20000 in
set_option maxHeartbeats 1000000 in
theorem isLimit_c (w : World) (limit : Int) : Calls Tryz.prog 212 #[.int .i64 limit] w (RetQ w (.bool (inB limit 0 4000))) := by
  have HI := Lib.hid (fun (w' : World) => within_c w' limit 0 4000)
  generalize inB limit 0 4000 = q at *
  go_enter Tryz.func212, Tryz.ntmps212
  go_wp2_with fail
  refine Calls.mono (HI.out w) ?_
  rintro e w2 ⟨rfl, hd2⟩
  go_wp2_with fail
  go_ret
  exact ⟨rfl, hd2⟩

set_option maxRecDepth 20000 in
set_option maxHeartbeats 1000000 in
theorem searchCode_c (w : World) (mk : MK) (v : Value) (z : Zone) (t : List (List Int)) (h : RowsR z w v t) (limit : Int) (hl : I64 limit) :
    Calls Tryz.prog 151 #[sysV mk v, .slice none 0 0, .int .i64 limit] w (Ret w fun r _ => r = .int .i64 (searchC mk t limit)) := by
  have H1 : Hid (isSystem mk t = false → searchC mk t limit = 1) := searchC_sys
  have H2 : Hid (isSystem mk t = true → inB limit 0 4000 = false → searchC mk t limit = 2) := searchC_lim
  have H3 : Hid (isSystem mk t = true → inB limit 0 4000 = true → searchC mk t limit = 0) := searchC_ok
  have HP : Hid (partC mk t = if isSystem mk t = true then 0 else 1) := rfl
  have HC1 := Lib.hid (fun (w' : World) (e : Ext w w') => partCode0_c w' mk v z t (stable_rows.ext h e))
  have HC2 := Lib.hid (fun (w' : World) => isLimit_c w' limit)
  have HC3 := Lib.hid (fun (hs : isSystem mk t = true) (w' : World) (e : Ext w w') => isOpenPart0_c w' mk v z t (stable_rows.ext h e) hs)
  generalize searchC mk t limit = res at *
  generalize partC mk t = pc at *
  generalize isSystem mk t = q at *
  generalize inB limit 0 4000 = q2 at *
  obtain ⟨a, n, cap, rfl, -⟩ := SliceR.shape h
  clear h
  unfold sysV at *
  go_enter Tryz.func151, Tryz.ntmps151
  go_wp2_with fail
  generalize hw0 : World.alloc _ _ = w0
  obtain ⟨e0, S0⟩ := sys_box hw0
  clear hw0
  have HS := Lib.hid S0
  clear S0
  refine Calls.mono (HC1.out w0 e0) ?_
  rintro e w1 hr
  obtain ⟨r, rfl, rfl, e1⟩ := ret_ext hr
  clear hr
  have et := e0.trans e1
  obtain ⟨c0, c1, c2, c3, c4, c5⟩ := HS.out.all e1
  cases q with
  | false =>
    have hp : pc = 1 := HP.out
    subst hp
    have HH := Lib.hid (H1.out rfl)
    go_wp2_with fail
    go_ret
    exact ⟨.int .i64 1, rfl, congrArg (Value.int .i64) HH.out.symm, et⟩
  | true =>
    have hp : pc = 0 := HP.out
    subst hp
    have H2' := Lib.hid (H2.out rfl)
    have H3' := Lib.hid (H3.out rfl)
    have hcall := HC3.out rfl
    have HC3' := Lib.hid hcall
    clear H1 H2 H3 HP hcall HC3
    go_wp2_with fail
    refine Calls.mono (HC2.out w1) ?_
    rintro e w2 hr
    obtain ⟨rfl, hd, e2⟩ := retq_ext hr
    clear hr
    have et2 := et.trans e2
    cases q2 with
    | false =>
      have HH := Lib.hid (H2'.out rfl)
      go_wp2_with fail
      go_ret
      exact ⟨.int .i64 2, rfl, congrArg (Value.int .i64) HH.out.symm, et2⟩
    | true =>
      have HH := Lib.hid (H3'.out rfl)
      have hcall := HC3'.out w2 et2
      obtain ⟨d0, d1, d2, d3, d4, d5⟩ := HS.out.all (e1.trans e2)
      clear c0 c1 c2 c3 c4 c5
      go_wp2_with fail
      refine Calls.mono hcall ?_
      rintro e w3 hr
      obtain ⟨r, rfl, rfl, e3⟩ := ret_ext hr
      clear hr hcall
      go_wp2_with fail
      go_ret
      exact ⟨.int .i64 0, rfl, congrArg (Value.int .i64) HH.out.symm, et2.trans e3⟩
end Go.Proofs.YtegmognpofcfiaaGreat
