/- Proved: RoutesTo: program and reference compute the same, for all arguments. -/
import Derived.Test.YtoaoonmeoeifgaaChecked
import Derived.Test.YtoaoonmeoeifgaaURoutes
namespace Go.Proofs.Ytoaoonmeoeifgaa
open Go.ChangeShapes Go.WideShapes Go.ChangeAt Go.RowKit
set_option linter.unusedVariables false

theorem RowsCode_mk {w w' : World} {x : List (List Int) × Int} {c : Int} {ys : List (List Int)} {u : Value} (h : x = (ys, c)) (hr : RowsR (.new w w') w' u ys) : RowsCode w x (.tuple #[u, .int .i64 c]) w' := by
  rw [h]; exact ⟨_, rfl, hr⟩
theorem routesCode_rng (c : Int) (ds : List (List Int)) (f t : Int) (op : List Int) : routesCode c ds f t op = 0 ∨ routesCode c ds f t op = 1 ∨ routesCode c ds f t op = 2 ∨ routesCode c ds f t op = 5 := by
  unfold routesCode roomsCode
  repeat' split
  all_goals simp_all
def routesRes (x : Int × List (List Int)) (f t : Int) (op : List Int) (most : Int) : List (List Int) × Int :=
  if routesCode x.1 x.2 f t op = 1 then ([], 1) else if inB most 0 60 = false then ([], 2) else if routesCode x.1 x.2 f t op = 0 then ((routesL x.1 x.2 f t op).take most.toNat, 0) else ([], routesCode x.1 x.2 f t op)

set_option maxRecDepth 20000 in
set_option maxHeartbeats 2000000 in
theorem RoutesToSpec_c (w : World) (v vd : Value) (z y : Zone) (x : Int × List (List Int)) (f t most : Int) (hfi : I64 f) (hti : I64 t) (op : List Int) (h : RoomsR z w v x) (hd : IntsR y w vd op) :
    Calls Try.prog 41 #[v, .int .i64 f, .int .i64 t, vd, .int .i64 most] w (Ret w fun r w' => RowsCode w (routesRes x f t op most) r w') := by
  have hC := fun (wq : World) (hb : Ext w wq) => l25Two_c wq v vd z y x f t op (stable_Rooms.ext h hb) (stable_ints.ext hd hb)
  have hL := fun (m : Nat) (hm : m ≤ 60) (h1 : roomsOk x.1 x.2 = true) (h2 : rising op x.2.length = true) (h3 : 0 ≤ f) (h4 : f < x.1) (h5 : f ≠ t) (wq : World) (hb : Ext w wq) (vr : Value) (q : Zone) (hr : IntsR q wq vr [f]) => l25RoutesTop_c wq v vr vd z q y x op f t m (stable_Rooms.ext h hb) hr (stable_ints.ext hd hb) h1 h2 h3 h4 h5 (by omega)
  obtain ⟨c, ds⟩ := x
  obtain ⟨u, rfl, hc, hrr⟩ := h
  obtain ⟨a, n, cap, rfl, -⟩ := SliceR.shape hrr
  simp only at hC hL ⊢
  cases hin : inB most 0 60 with
  | false =>
    rcases routesCode_rng c ds f t op with hk | hk | hk | hk
    · have HH : Hid (routesRes (c, ds) f t op most = ([], 2)) := by show _ = _; unfold routesRes; simp only; rw [hk, hin]; rfl
      rw [hk] at hC
      generalize routesRes (c, ds) f t op most = res at *
      clear hL hk hrr hc
      go_enter Try.func41, Try.ntmps41
      go_wp2_with fail
      have hbx := box2 w (.int .i64 c) (.slice a n cap) 40
      generalize hwa : World.alloc w (.cells #[.int .i64 c, .slice a n cap] 40) = wa at *
      obtain ⟨e0, q0, q1, hsz⟩ := hbx
      clear hwa hsz
      refine Calls.mono (hC _ e0) ?_
      rintro e w1 hr1
      obtain ⟨r, rfl, rfl, b1⟩ := ret_ext hr1
      clear hr1
      replace q0 := b1.cell q0
      replace q1 := b1.cell q1
      go_wp2_with fail
      refine Calls.mono (l01In_c w1 most 0 60) ?_
      rw [hin]
      rintro e w2 ⟨rfl, d2⟩
      have b2 := Ext.ofDrew d2
      replace q0 := b2.cell q0
      replace q1 := b2.cell q1
      go_wp2_with fail
      go_ret2
      exact ⟨_, rfl, RowsCode_nil HH.out, e0.trans (b1.trans b2)⟩
    · have HH : Hid (routesRes (c, ds) f t op most = ([], 1)) := by show _ = _; unfold routesRes; simp only; rw [hk, hin]; rfl
      rw [hk] at hC
      generalize routesRes (c, ds) f t op most = res at *
      clear hL hk hrr hc
      go_enter Try.func41, Try.ntmps41
      go_wp2_with fail
      have hbx := box2 w (.int .i64 c) (.slice a n cap) 40
      generalize hwa : World.alloc w (.cells #[.int .i64 c, .slice a n cap] 40) = wa at *
      obtain ⟨e0, q0, q1, hsz⟩ := hbx
      clear hwa hsz
      refine Calls.mono (hC _ e0) ?_
      rintro e w1 hr1
      obtain ⟨r, rfl, rfl, b1⟩ := ret_ext hr1
      clear hr1
      replace q0 := b1.cell q0
      replace q1 := b1.cell q1
      go_wp2_with fail
      go_ret2
      exact ⟨_, rfl, RowsCode_nil HH.out, e0.trans b1⟩
    · have HH : Hid (routesRes (c, ds) f t op most = ([], 2)) := by show _ = _; unfold routesRes; simp only; rw [hk, hin]; rfl
      rw [hk] at hC
      generalize routesRes (c, ds) f t op most = res at *
      clear hL hk hrr hc
      go_enter Try.func41, Try.ntmps41
      go_wp2_with fail
      have hbx := box2 w (.int .i64 c) (.slice a n cap) 40
      generalize hwa : World.alloc w (.cells #[.int .i64 c, .slice a n cap] 40) = wa at *
      obtain ⟨e0, q0, q1, hsz⟩ := hbx
      clear hwa hsz
      refine Calls.mono (hC _ e0) ?_
      rintro e w1 hr1
      obtain ⟨r, rfl, rfl, b1⟩ := ret_ext hr1
      clear hr1
      replace q0 := b1.cell q0
      replace q1 := b1.cell q1
      go_wp2_with fail
      go_ret2
      exact ⟨_, rfl, RowsCode_nil HH.out, e0.trans b1⟩
    · have HH : Hid (routesRes (c, ds) f t op most = ([], 2)) := by show _ = _; unfold routesRes; simp only; rw [hk, hin]; rfl
      rw [hk] at hC
      generalize routesRes (c, ds) f t op most = res at *
      clear hL hk hrr hc
      go_enter Try.func41, Try.ntmps41
      go_wp2_with fail
      have hbx := box2 w (.int .i64 c) (.slice a n cap) 40
      generalize hwa : World.alloc w (.cells #[.int .i64 c, .slice a n cap] 40) = wa at *
      obtain ⟨e0, q0, q1, hsz⟩ := hbx
      clear hwa hsz
      refine Calls.mono (hC _ e0) ?_
      rintro e w1 hr1
      obtain ⟨r, rfl, rfl, b1⟩ := ret_ext hr1
      clear hr1
      replace q0 := b1.cell q0
      replace q1 := b1.cell q1
      go_wp2_with fail
      refine Calls.mono (l01In_c w1 most 0 60) ?_
      rw [hin]
      rintro e w2 ⟨rfl, d2⟩
      have b2 := Ext.ofDrew d2
      replace q0 := b2.cell q0
      replace q1 := b2.cell q1
      go_wp2_with fail
      go_ret2
      exact ⟨_, rfl, RowsCode_nil HH.out, e0.trans (b1.trans b2)⟩
  | true =>
    have hm60 : 0 ≤ most ∧ most ≤ 60 := by simpa [inB] using hin
    obtain ⟨m, rfl⟩ : ∃ m : Nat, most = m := ⟨most.toNat, by omega⟩
    rcases routesCode_rng c ds f t op with hk | hk | hk | hk
    · have HH : Hid (routesRes (c, ds) f t op m = ((routesL c ds f t op).take m, 0)) := by show _ = _; unfold routesRes; simp only; rw [hk, hin, Int.toNat_natCast]; rfl
      obtain ⟨k1, k2, ⟨k3, k4⟩, -, k7⟩ := routesCode_ok hk
      replace hL := hL m (by omega) k1 k2 k3 k4 k7
      rw [hk] at hC
      generalize routesRes (c, ds) f t op m = res at *
      generalize (routesL c ds f t op).take m = l at *
      clear hk hrr hc k1 k2 k3 k4 k7
      have HL := Lib.hid hL; clear hL
      go_enter Try.func41, Try.ntmps41
      go_wp2_with fail
      have hbx := box2 w (.int .i64 c) (.slice a n cap) 40
      generalize hwa : World.alloc w (.cells #[.int .i64 c, .slice a n cap] 40) = wa at *
      obtain ⟨e0, q0, q1, hsz⟩ := hbx
      clear hwa hsz
      refine Calls.mono (hC _ e0) ?_
      rintro e w1 hr1
      obtain ⟨r, rfl, rfl, b1⟩ := ret_ext hr1
      clear hr1
      replace q0 := b1.cell q0
      replace q1 := b1.cell q1
      go_wp2_with fail
      refine Calls.mono (l01In_c w1 m 0 60) ?_
      rw [hin]
      rintro e w2 ⟨rfl, d2⟩
      have b2 := Ext.ofDrew d2
      replace q0 := b2.cell q0
      replace q1 := b2.cell q1
      go_wp2_with fail
      refine Calls.mono (HL.out _ (by repeat (first | exact Ext.refl _ | assumption | (refine Ext.trans ?_ (Ext.alloc _ _)) | (refine Ext.trans ?_ (Ext.drew _)) | (refine Ext.trans ?_ (by assumption)))) _ _ (ints_one _ f 2 hfi)) ?_
      rintro e w3 hr3
      obtain ⟨r, rfl, r3, b3⟩ := ret_ext hr3
      clear hr3 q0 q1
      have hbw : Ext w w3 := (by repeat (first | exact Ext.refl _ | assumption | (refine Ext.trans ?_ (Ext.alloc _ _)) | (refine Ext.trans ?_ (Ext.drew _)) | (refine Ext.trans ?_ (by assumption))))
      have hR := stable_rows.grow r3 (w := w) (by repeat (first | exact Ext.refl _ | assumption | (refine Ext.trans ?_ (Ext.alloc _ _)) | (refine Ext.trans ?_ (Ext.drew _)) | (refine Ext.trans ?_ (by assumption)))) (Ext.refl _)
      go_wp2_with fail
      go_ret2
      exact ⟨_, rfl, RowsCode_mk HH.out hR, hbw⟩
    · have HH : Hid (routesRes (c, ds) f t op m = ([], 1)) := by show _ = _; unfold routesRes; simp only; rw [hk, hin]; rfl
      rw [hk] at hC
      generalize routesRes (c, ds) f t op m = res at *
      clear hL hk hrr hc
      go_enter Try.func41, Try.ntmps41
      go_wp2_with fail
      have hbx := box2 w (.int .i64 c) (.slice a n cap) 40
      generalize hwa : World.alloc w (.cells #[.int .i64 c, .slice a n cap] 40) = wa at *
      obtain ⟨e0, q0, q1, hsz⟩ := hbx
      clear hwa hsz
      refine Calls.mono (hC _ e0) ?_
      rintro e w1 hr1
      obtain ⟨r, rfl, rfl, b1⟩ := ret_ext hr1
      clear hr1
      replace q0 := b1.cell q0
      replace q1 := b1.cell q1
      go_wp2_with fail
      go_ret2
      exact ⟨_, rfl, RowsCode_nil HH.out, e0.trans b1⟩
    · have HH : Hid (routesRes (c, ds) f t op m = ([], 2)) := by show _ = _; unfold routesRes; simp only; rw [hk, hin]; rfl
      rw [hk] at hC
      generalize routesRes (c, ds) f t op m = res at *
      clear hL hk hrr hc
      go_enter Try.func41, Try.ntmps41
      go_wp2_with fail
      have hbx := box2 w (.int .i64 c) (.slice a n cap) 40
      generalize hwa : World.alloc w (.cells #[.int .i64 c, .slice a n cap] 40) = wa at *
      obtain ⟨e0, q0, q1, hsz⟩ := hbx
      clear hwa hsz
      refine Calls.mono (hC _ e0) ?_
      rintro e w1 hr1
      obtain ⟨r, rfl, rfl, b1⟩ := ret_ext hr1
      clear hr1
      replace q0 := b1.cell q0
      replace q1 := b1.cell q1
      go_wp2_with fail
      go_ret2
      exact ⟨_, rfl, RowsCode_nil HH.out, e0.trans b1⟩
    · have HH : Hid (routesRes (c, ds) f t op m = ([], 5)) := by show _ = _; unfold routesRes; simp only; rw [hk, hin]; rfl
      rw [hk] at hC
      generalize routesRes (c, ds) f t op m = res at *
      clear hL hk hrr hc
      go_enter Try.func41, Try.ntmps41
      go_wp2_with fail
      have hbx := box2 w (.int .i64 c) (.slice a n cap) 40
      generalize hwa : World.alloc w (.cells #[.int .i64 c, .slice a n cap] 40) = wa at *
      obtain ⟨e0, q0, q1, hsz⟩ := hbx
      clear hwa hsz
      refine Calls.mono (hC _ e0) ?_
      rintro e w1 hr1
      obtain ⟨r, rfl, rfl, b1⟩ := ret_ext hr1
      clear hr1
      replace q0 := b1.cell q0
      replace q1 := b1.cell q1
      go_wp2_with fail
      refine Calls.mono (l01In_c w1 m 0 60) ?_
      rw [hin]
      rintro e w2 ⟨rfl, d2⟩
      have b2 := Ext.ofDrew d2
      replace q0 := b2.cell q0
      replace q1 := b2.cell q1
      go_wp2_with fail
      go_ret2
      exact ⟨_, rfl, RowsCode_nil HH.out, e0.trans (b1.trans b2)⟩

set_option maxRecDepth 20000 in
set_option maxHeartbeats 2000000 in
theorem RoutesTo_c (w : World) (v vd : Value) (z y : Zone) (x : Int × List (List Int)) (f t most : Int) (hfi : I64 f) (hti : I64 t) (op : List Int) (h : RoomsR z w v x) (hd : IntsR y w vd op) :
    Calls Try.prog 42 #[v, .int .i64 f, .int .i64 t, vd, .int .i64 most] w (Ret w fun r w' => RowsCode w (routesRes x f t op most) r w') := by
  have hC := fun (wq : World) (hb : Ext w wq) => routesCode_c wq v vd z y x f t hfi hti op (stable_Rooms.ext h hb) (stable_ints.ext hd hb)
  have hL := fun (m : Nat) (hm : m ≤ 60) (h1 : roomsOk x.1 x.2 = true) (h2 : rising op x.2.length = true) (h3 : 0 ≤ f) (h4 : f < x.1) (wq : World) (hb : Ext w wq) => routesTo_c wq v vd z y x op f t m (stable_Rooms.ext h hb) (stable_ints.ext hd hb) h1 h2 h3 h4 (by omega)
  obtain ⟨c, ds⟩ := x
  obtain ⟨u, rfl, hc, hrr⟩ := h
  obtain ⟨a, n, cap, rfl, -⟩ := SliceR.shape hrr
  simp only at hC hL ⊢
  cases hin : inB most 0 60 with
  | false =>
    rcases routesCode_rng c ds f t op with hk | hk | hk | hk
    · have HH : Hid (routesRes (c, ds) f t op most = ([], 2)) := by show _ = _; unfold routesRes; simp only; rw [hk, hin]; rfl
      rw [hk] at hC
      generalize routesRes (c, ds) f t op most = res at *
      clear hL hk hrr hc
      go_enter Try.func42, Try.ntmps42
      go_wp2_with fail
      have hbx := box2 w (.int .i64 c) (.slice a n cap) 40
      generalize hwa : World.alloc w (.cells #[.int .i64 c, .slice a n cap] 40) = wa at *
      obtain ⟨e0, q0, q1, hsz⟩ := hbx
      clear hwa hsz
      refine Calls.mono (hC _ e0) ?_
      rintro e w1 hr1
      obtain ⟨r, rfl, rfl, b1⟩ := ret_ext hr1
      clear hr1
      replace q0 := b1.cell q0
      replace q1 := b1.cell q1
      go_wp2_with fail
      refine Calls.mono (within_c w1 most 0 60) ?_
      rw [hin]
      rintro e w2 ⟨rfl, d2⟩
      have b2 := Ext.ofDrew d2
      replace q0 := b2.cell q0
      replace q1 := b2.cell q1
      go_wp2_with fail
      go_ret2
      exact ⟨_, rfl, RowsCode_nil HH.out, e0.trans (b1.trans b2)⟩
    · have HH : Hid (routesRes (c, ds) f t op most = ([], 1)) := by show _ = _; unfold routesRes; simp only; rw [hk, hin]; rfl
      rw [hk] at hC
      generalize routesRes (c, ds) f t op most = res at *
      clear hL hk hrr hc
      go_enter Try.func42, Try.ntmps42
      go_wp2_with fail
      have hbx := box2 w (.int .i64 c) (.slice a n cap) 40
      generalize hwa : World.alloc w (.cells #[.int .i64 c, .slice a n cap] 40) = wa at *
      obtain ⟨e0, q0, q1, hsz⟩ := hbx
      clear hwa hsz
      refine Calls.mono (hC _ e0) ?_
      rintro e w1 hr1
      obtain ⟨r, rfl, rfl, b1⟩ := ret_ext hr1
      clear hr1
      replace q0 := b1.cell q0
      replace q1 := b1.cell q1
      go_wp2_with fail
      go_ret2
      exact ⟨_, rfl, RowsCode_nil HH.out, e0.trans b1⟩
    · have HH : Hid (routesRes (c, ds) f t op most = ([], 2)) := by show _ = _; unfold routesRes; simp only; rw [hk, hin]; rfl
      rw [hk] at hC
      generalize routesRes (c, ds) f t op most = res at *
      clear hL hk hrr hc
      go_enter Try.func42, Try.ntmps42
      go_wp2_with fail
      have hbx := box2 w (.int .i64 c) (.slice a n cap) 40
      generalize hwa : World.alloc w (.cells #[.int .i64 c, .slice a n cap] 40) = wa at *
      obtain ⟨e0, q0, q1, hsz⟩ := hbx
      clear hwa hsz
      refine Calls.mono (hC _ e0) ?_
      rintro e w1 hr1
      obtain ⟨r, rfl, rfl, b1⟩ := ret_ext hr1
      clear hr1
      replace q0 := b1.cell q0
      replace q1 := b1.cell q1
      go_wp2_with fail
      refine Calls.mono (within_c w1 most 0 60) ?_
      rw [hin]
      rintro e w2 ⟨rfl, d2⟩
      have b2 := Ext.ofDrew d2
      replace q0 := b2.cell q0
      replace q1 := b2.cell q1
      go_wp2_with fail
      go_ret2
      exact ⟨_, rfl, RowsCode_nil HH.out, e0.trans (b1.trans b2)⟩
    · have HH : Hid (routesRes (c, ds) f t op most = ([], 2)) := by show _ = _; unfold routesRes; simp only; rw [hk, hin]; rfl
      rw [hk] at hC
      generalize routesRes (c, ds) f t op most = res at *
      clear hL hk hrr hc
      go_enter Try.func42, Try.ntmps42
      go_wp2_with fail
      have hbx := box2 w (.int .i64 c) (.slice a n cap) 40
      generalize hwa : World.alloc w (.cells #[.int .i64 c, .slice a n cap] 40) = wa at *
      obtain ⟨e0, q0, q1, hsz⟩ := hbx
      clear hwa hsz
      refine Calls.mono (hC _ e0) ?_
      rintro e w1 hr1
      obtain ⟨r, rfl, rfl, b1⟩ := ret_ext hr1
      clear hr1
      replace q0 := b1.cell q0
      replace q1 := b1.cell q1
      go_wp2_with fail
      refine Calls.mono (within_c w1 most 0 60) ?_
      rw [hin]
      rintro e w2 ⟨rfl, d2⟩
      have b2 := Ext.ofDrew d2
      replace q0 := b2.cell q0
      replace q1 := b2.cell q1
      go_wp2_with fail
      go_ret2
      exact ⟨_, rfl, RowsCode_nil HH.out, e0.trans (b1.trans b2)⟩
  | true =>
    have hm60 : 0 ≤ most ∧ most ≤ 60 := by simpa [inB] using hin
    obtain ⟨m, rfl⟩ : ∃ m : Nat, most = m := ⟨most.toNat, by omega⟩
    rcases routesCode_rng c ds f t op with hk | hk | hk | hk
    · have HH : Hid (routesRes (c, ds) f t op m = ((routesL c ds f t op).take m, 0)) := by show _ = _; unfold routesRes; simp only; rw [hk, hin, Int.toNat_natCast]; rfl
      obtain ⟨k1, k2, ⟨k3, k4⟩, -, k7⟩ := routesCode_ok hk
      replace hL := hL m (by omega) k1 k2 k3 k4
      rw [hk] at hC
      generalize routesRes (c, ds) f t op m = res at *
      generalize (routesL c ds f t op).take m = l at *
      clear hk hrr hc k1 k2 k3 k4 k7
      have HL := Lib.hid hL; clear hL
      go_enter Try.func42, Try.ntmps42
      go_wp2_with fail
      have hbx := box2 w (.int .i64 c) (.slice a n cap) 40
      generalize hwa : World.alloc w (.cells #[.int .i64 c, .slice a n cap] 40) = wa at *
      obtain ⟨e0, q0, q1, hsz⟩ := hbx
      clear hwa hsz
      refine Calls.mono (hC _ e0) ?_
      rintro e w1 hr1
      obtain ⟨r, rfl, rfl, b1⟩ := ret_ext hr1
      clear hr1
      replace q0 := b1.cell q0
      replace q1 := b1.cell q1
      go_wp2_with fail
      refine Calls.mono (within_c w1 m 0 60) ?_
      rw [hin]
      rintro e w2 ⟨rfl, d2⟩
      have b2 := Ext.ofDrew d2
      replace q0 := b2.cell q0
      replace q1 := b2.cell q1
      go_wp2_with fail
      refine Calls.mono (HL.out _ (by repeat (first | exact Ext.refl _ | assumption | (refine Ext.trans ?_ (Ext.alloc _ _)) | (refine Ext.trans ?_ (Ext.drew _)) | (refine Ext.trans ?_ (by assumption))))) ?_
      rintro e w3 hr3
      obtain ⟨r, rfl, r3, b3⟩ := ret_ext hr3
      clear hr3 q0 q1
      have hbw : Ext w w3 := (by repeat (first | exact Ext.refl _ | assumption | (refine Ext.trans ?_ (Ext.alloc _ _)) | (refine Ext.trans ?_ (Ext.drew _)) | (refine Ext.trans ?_ (by assumption))))
      have hR := stable_rows.grow r3 (w := w) (by repeat (first | exact Ext.refl _ | assumption | (refine Ext.trans ?_ (Ext.alloc _ _)) | (refine Ext.trans ?_ (Ext.drew _)) | (refine Ext.trans ?_ (by assumption)))) (Ext.refl _)
      go_wp2_with fail
      go_ret2
      exact ⟨_, rfl, RowsCode_mk HH.out hR, hbw⟩
    · have HH : Hid (routesRes (c, ds) f t op m = ([], 1)) := by show _ = _; unfold routesRes; simp only; rw [hk, hin]; rfl
      rw [hk] at hC
      generalize routesRes (c, ds) f t op m = res at *
      clear hL hk hrr hc
      go_enter Try.func42, Try.ntmps42
      go_wp2_with fail
      have hbx := box2 w (.int .i64 c) (.slice a n cap) 40
      generalize hwa : World.alloc w (.cells #[.int .i64 c, .slice a n cap] 40) = wa at *
      obtain ⟨e0, q0, q1, hsz⟩ := hbx
      clear hwa hsz
      refine Calls.mono (hC _ e0) ?_
      rintro e w1 hr1
      obtain ⟨r, rfl, rfl, b1⟩ := ret_ext hr1
      clear hr1
      replace q0 := b1.cell q0
      replace q1 := b1.cell q1
      go_wp2_with fail
      go_ret2
      exact ⟨_, rfl, RowsCode_nil HH.out, e0.trans b1⟩
    · have HH : Hid (routesRes (c, ds) f t op m = ([], 2)) := by show _ = _; unfold routesRes; simp only; rw [hk, hin]; rfl
      rw [hk] at hC
      generalize routesRes (c, ds) f t op m = res at *
      clear hL hk hrr hc
      go_enter Try.func42, Try.ntmps42
      go_wp2_with fail
      have hbx := box2 w (.int .i64 c) (.slice a n cap) 40
      generalize hwa : World.alloc w (.cells #[.int .i64 c, .slice a n cap] 40) = wa at *
      obtain ⟨e0, q0, q1, hsz⟩ := hbx
      clear hwa hsz
      refine Calls.mono (hC _ e0) ?_
      rintro e w1 hr1
      obtain ⟨r, rfl, rfl, b1⟩ := ret_ext hr1
      clear hr1
      replace q0 := b1.cell q0
      replace q1 := b1.cell q1
      go_wp2_with fail
      refine Calls.mono (within_c w1 m 0 60) ?_
      rw [hin]
      rintro e w2 ⟨rfl, d2⟩
      have b2 := Ext.ofDrew d2
      replace q0 := b2.cell q0
      replace q1 := b2.cell q1
      go_wp2_with fail
      go_ret2
      exact ⟨_, rfl, RowsCode_nil HH.out, e0.trans (b1.trans b2)⟩
    · have HH : Hid (routesRes (c, ds) f t op m = ([], 5)) := by show _ = _; unfold routesRes; simp only; rw [hk, hin]; rfl
      rw [hk] at hC
      generalize routesRes (c, ds) f t op m = res at *
      clear hL hk hrr hc
      go_enter Try.func42, Try.ntmps42
      go_wp2_with fail
      have hbx := box2 w (.int .i64 c) (.slice a n cap) 40
      generalize hwa : World.alloc w (.cells #[.int .i64 c, .slice a n cap] 40) = wa at *
      obtain ⟨e0, q0, q1, hsz⟩ := hbx
      clear hwa hsz
      refine Calls.mono (hC _ e0) ?_
      rintro e w1 hr1
      obtain ⟨r, rfl, rfl, b1⟩ := ret_ext hr1
      clear hr1
      replace q0 := b1.cell q0
      replace q1 := b1.cell q1
      go_wp2_with fail
      refine Calls.mono (within_c w1 m 0 60) ?_
      rw [hin]
      rintro e w2 ⟨rfl, d2⟩
      have b2 := Ext.ofDrew d2
      replace q0 := b2.cell q0
      replace q1 := b2.cell q1
      go_wp2_with fail
      go_ret2
      exact ⟨_, rfl, RowsCode_nil HH.out, e0.trans (b1.trans b2)⟩
end Go.Proofs.Ytoaoonmeoeifgaa
