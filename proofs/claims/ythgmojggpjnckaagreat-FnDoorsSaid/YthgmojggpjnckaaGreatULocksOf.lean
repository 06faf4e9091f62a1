/- Proved: LocksOf, program and reference. -/
import Derived.Test.YthgmojggpjnckaaGreatChecked
import Derived.Test.YthgmojggpjnckaaGreatUPkC
import Derived.Test.YthgmojggpjnckaaGreatUPkD
import Derived.Test.YthgmojggpjnckaaGreatUPkL
import Derived.Test.YthgmojggpjnckaaGreatUPkB
namespace Go.Proofs.YthgmojggpjnckaaGreat
open Go.ChangeShapes Go.WideShapes Go.ChangeAt Go.RowKit
set_option linter.unusedVariables false

/-- a list of locks and a code -/
def LocksCode (w : World) (x : List (List (List Int)) × Int) (r : Value) (w' : World) : Prop := ∃ u, r = .tuple #[u, .int .i64 x.2] ∧ LocksR (.new w w') w' u x.1
def locksOf (mk : MK) (t cuts : List (List Int)) : List (List (List Int)) × Int := if sysCode mk t cuts = 0 then (locks mk t cuts, 0) else ([], sysCode mk t cuts)
theorem locksOf_bad {mk : MK} {t cuts : List (List Int)} (h : sysCode mk t cuts ≠ 0) : locksOf mk t cuts = ([], sysCode mk t cuts) := by unfold locksOf; rw [if_neg h]
theorem locksOf_ok {mk : MK} {t cuts : List (List Int)} (h : sysCode mk t cuts = 0) : locksOf mk t cuts = (locks mk t cuts, 0) := by unfold locksOf; rw [if_pos h]
theorem LocksCode.mk {w w' : World} {x : List (List (List Int)) × Int} {l : List (List (List Int))} {c : Int} {u : Value} (h : x = (l, c)) (hu : LocksR (.new w w') w' u l) : LocksCode w x (.tuple #[u, .int .i64 c]) w' := by
  subst h; exact ⟨u, rfl, hu⟩

set_option maxRecDepth 20000 in
set_option maxHeartbeats 1000000 in
theorem LocksOf_c (w : World) (mk : MK) (v : Value) (z : Zone) (t : List (List Int)) (h : RowsR z w v t) (u : Value) (y : Zone) (cuts : List (List Int)) (hc : RowsR y w u cuts) :
    Calls Tryz.prog 39 #[sysV mk v, u] w (Ret w (LocksCode w (locksOf mk t cuts))) := by
  have H1 : Hid (sysCode mk t cuts ≠ 0 → locksOf mk t cuts = ([], sysCode mk t cuts)) := locksOf_bad
  have H2 : Hid (sysCode mk t cuts = 0 → locksOf mk t cuts = (locks mk t cuts, 0)) := locksOf_ok
  have HC1 := Lib.hid (fun (w' : World) (e : Ext w w') => cutsCode_c w' mk v z t (stable_rows.ext h e) u y cuts (stable_rows.ext hc e))
  have HC3 := Lib.hid (fun (h0 : sysCode mk t cuts = 0) (w' : World) (e : Ext w w') => partLocks_c w' mk v z t (stable_rows.ext h e) u y cuts (stable_rows.ext hc e) (sysCode_zero h0).1.toPartOk)
  generalize hrc : sysCode mk t cuts = rc at *
  generalize locksOf mk t cuts = res at *
  generalize locks mk t cuts = ls at *
  obtain ⟨a, n, cap, rfl, -⟩ := SliceR.shape h
  obtain ⟨a2, n2, cap2, rfl, -⟩ := SliceR.shape hc
  clear h hc hrc
  unfold sysV at *
  go_enter Tryz.func39, Tryz.ntmps39
  go_wp2_with fail
  generalize hw0 : World.alloc _ _ = w0
  obtain ⟨e0, S0⟩ := sys_box hw0
  clear hw0
  refine Calls.mono (HC1.out w0 e0) ?_
  rintro e w1 hr
  obtain ⟨r, rfl, rfl, e1⟩ := ret_ext hr
  clear hr HC1
  have et := e0.trans e1
  obtain ⟨c0, c1, c2, c3, c4, c5⟩ := S0.ext e1
  clear S0
  by_cases hd : rc = 0
  · have HH := Lib.hid (H2.out hd)
    have hcall := HC3.out hd w1 et
    have hb0 : (rc != 0) = false := by rw [hd]; rfl
    clear hd H1 H2 HC3
    go_wp2_with fail
    refine Calls.mono hcall ?_
    rintro e w3 hr
    obtain ⟨r, rfl, hL, e3⟩ := ret_ext hr
    clear hr hcall c0 c1 c2 c3 c4 c5
    go_wp2_with fail
    go_ret2
    exact ⟨_, rfl, LocksCode.mk HH.out (stable_locks.grow hL et (Ext.refl _)), et.trans e3⟩
  · have HH := Lib.hid (H1.out hd)
    have hb0 : (rc != 0) = true := by rw [bne_iff_ne]; exact hd
    clear hd H1 H2 HC3
    go_wp2_with fail
    go_ret2
    exact ⟨_, rfl, LocksCode.mk HH.out (SliceR.nil _ _ _), et⟩

set_option maxRecDepth 20000 in
set_option maxHeartbeats 1000000 in
theorem LocksOfSpec_c (w : World) (mk : MK) (v : Value) (z : Zone) (t : List (List Int)) (h : RowsR z w v t) (u : Value) (y : Zone) (cuts : List (List Int)) (hc : RowsR y w u cuts) :
    Calls Tryz.prog 40 #[sysV mk v, u] w (Ret w (LocksCode w (locksOf mk t cuts))) := by
  have H1 : Hid (sysCode mk t cuts ≠ 0 → locksOf mk t cuts = ([], sysCode mk t cuts)) := locksOf_bad
  have H2 : Hid (sysCode mk t cuts = 0 → locksOf mk t cuts = (locks mk t cuts, 0)) := locksOf_ok
  have HC1 := Lib.hid (fun (w' : World) (e : Ext w w') => l15Code_c w' mk v z t (stable_rows.ext h e) u y cuts (stable_rows.ext hc e))
  have HC3 := Lib.hid (fun (h0 : sysCode mk t cuts = 0) (w' : World) (e : Ext w w') => l15Locks_c w' mk v z t (stable_rows.ext h e) u y cuts (stable_rows.ext hc e) (sysCode_zero h0).1.toPartOk)
  generalize hrc : sysCode mk t cuts = rc at *
  generalize locksOf mk t cuts = res at *
  generalize locks mk t cuts = ls at *
  obtain ⟨a, n, cap, rfl, -⟩ := SliceR.shape h
  obtain ⟨a2, n2, cap2, rfl, -⟩ := SliceR.shape hc
  clear h hc hrc
  unfold sysV at *
  go_enter Tryz.func40, Tryz.ntmps40
  go_wp2_with fail
  generalize hw0 : World.alloc _ _ = w0
  obtain ⟨e0, S0⟩ := sys_box hw0
  clear hw0
  refine Calls.mono (HC1.out w0 e0) ?_
  rintro e w1 hr
  obtain ⟨r, rfl, rfl, e1⟩ := ret_ext hr
  clear hr HC1
  have et := e0.trans e1
  obtain ⟨c0, c1, c2, c3, c4, c5⟩ := S0.ext e1
  clear S0
  by_cases hd : rc = 0
  · have HH := Lib.hid (H2.out hd)
    have hcall := HC3.out hd w1 et
    have hb0 : (rc != 0) = false := by rw [hd]; rfl
    clear hd H1 H2 HC3
    go_wp2_with fail
    refine Calls.mono hcall ?_
    rintro e w3 hr
    obtain ⟨r, rfl, hL, e3⟩ := ret_ext hr
    clear hr hcall c0 c1 c2 c3 c4 c5
    go_wp2_with fail
    go_ret2
    exact ⟨_, rfl, LocksCode.mk HH.out (stable_locks.grow hL et (Ext.refl _)), et.trans e3⟩
  · have HH := Lib.hid (H1.out hd)
    have hb0 : (rc != 0) = true := by rw [bne_iff_ne]; exact hd
    clear hd H1 H2 HC3
    go_wp2_with fail
    go_ret2
    exact ⟨_, rfl, LocksCode.mk HH.out (SliceR.nil _ _ _), et⟩
end Go.Proofs.YthgmojggpjnckaaGreat
