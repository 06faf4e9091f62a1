/- Proved: DoorsToChange: program and reference compute the same, for all arguments. -/
import Derived.Test.YtaogpbhgoeepbaaChecked
import Derived.Deep.RegionHeld3
import Derived.Test.YtaogpbhgoeepbaaURoutes
import Derived.Test.YtaogpbhgoeepbaaULeast
namespace Go.Proofs.Ytaogpbhgoeepbaa
open Go.ChangeShapes Go.WideShapes Go.ChangeAt Go.RowKit
set_option linter.unusedVariables false

def doorsToChange (x : Int × List (List Int)) (f t : Int) (op : List Int) : List Int × Int :=
  if (countRoutes x f t op).2 = 0 then (leastL (hitsB (routesL x.1 x.2 f t op)) x.2.length, 0) else ([], (countRoutes x f t op).2)
theorem doors_ok {x : Int × List (List Int)} {f t : Int} {op : List Int} (h : (countRoutes x f t op).2 = 0) : doorsToChange x f t op = (leastL (hitsB (routesL x.1 x.2 f t op)) x.2.length, 0) := by unfold doorsToChange; rw [if_pos h]
theorem doors_no {x : Int × List (List Int)} {f t : Int} {op : List Int} (h : (countRoutes x f t op).2 ≠ 0) : doorsToChange x f t op = ([], (countRoutes x f t op).2) := by unfold doorsToChange; rw [if_neg h]
theorem count_ok {x : Int × List (List Int)} {f t : Int} {op : List Int} (h : (countRoutes x f t op).2 = 0) : routesCode x.1 x.2 f t op = 0 ∧ (routesL x.1 x.2 f t op).length ≤ 60 := by
  by_cases hk : routesCode x.1 x.2 f t op = 0
  · refine ⟨hk, ?_⟩
    rw [countRoutes_ok hk] at h
    split at h
    · exact absurd h (by decide)
    · next hl => rw [List.length_take] at hl; omega
  · rw [countRoutes_no hk] at h; exact absurd h hk
theorem doors_length (x : Int × List (List Int)) (f t : Int) (op : List Int) : ((doorsToChange x f t op).1.length : Int) ≤ 1048576 := by
  by_cases h : (countRoutes x f t op).2 = 0
  · rw [doors_ok h]
    have := leastL_length (hitsB (routesL x.1 x.2 f t op)) x.2.length
    have := (roomsOk_sides (routesCode_ok (count_ok h).1).1).2.1
    simp only; omega
  · rw [doors_no h]; simp

set_option maxRecDepth 20000 in
set_option maxHeartbeats 2000000 in
theorem DoorsSpec_c (w : World) (v vd : Value) (z y : Zone) (x : Int × List (List Int)) (f t : Int) (hfi : I64 f) (op : List Int) (h : RoomsR z w v x) (hd : IntsR y w vd op) :
    Calls Try.prog 10 #[v, .int .i64 f, .int .i64 t, vd] w (Ret w fun r w' => IntsCode w (doorsToChange x f t op) r w') := by
  have hC := fun (wq : World) (hb : Ext w wq) => CountRoutesSpec_c wq v vd z y x f t hfi op (stable_Rooms.ext h hb) (stable_ints.ext hd hb)
  have hL := fun (h1 : roomsOk x.1 x.2 = true) (h2 : rising op x.2.length = true) (h3 : 0 ≤ f) (h4 : f < x.1) (h5 : f ≠ t) (wq : World) (hb : Ext w wq) (vr : Value) (q : Zone) (hr : IntsR q wq vr [f]) => l25RoutesTop_c wq v vr vd z q y x op f t 1000000 (stable_Rooms.ext h hb) hr (stable_ints.ext hd hb) h1 h2 h3 h4 h5 (by omega)
  obtain ⟨c, ds⟩ := x
  obtain ⟨u, rfl, hc, hrr⟩ := h
  obtain ⟨a, n, cap, rfl, hn, -⟩ := SliceR.shape hrr
  simp only at hn
  by_cases hk : (countRoutes (c, ds) f t op).2 = 0
  · have HH := Lib.hid (doors_ok (x := (c, ds)) hk)
    obtain ⟨g1, g2⟩ := count_ok hk
    obtain ⟨k1, k2, ⟨k3, k4⟩, -, k7⟩ := routesCode_ok g1
    replace hL := hL k1 k2 k3 k4 k7
    have hn12 : n ≤ 12 := by have : ds.length ≤ 12 := (roomsOk_sides k1).2.1; omega
    simp only at hC hL HH g2 ⊢
    rw [← hn] at HH
    rw [List.take_of_length_le (by omega)] at hL
    generalize doorsToChange (c, ds) f t op = res at *
    generalize routesL c ds f t op = l at *
    obtain ⟨cc, hcc⟩ : ∃ cc, countRoutes (c, ds) f t op = (cc, 0) := ⟨(countRoutes (c, ds) f t op).1, by rw [← hk]⟩
    rw [hcc] at hC
    have HLe := Lib.hid (fun (wq : World) (v : Value) (z : Zone) (h : RowsR z wq v l) => l26Least_c wq v z l n hn12 h)
    clear hk hcc g1 g2 k1 k2 k3 k4 k7 hrr hc hd hn
    have HL := Lib.hid hL; clear hL
    generalize leastL (hitsB l) n = ll at *
    go_enter Try.func10, Try.ntmps10
    go_wp2_with fail
    have hbx := box2 w (.int .i64 c) (.slice a n cap) 29
    generalize hwa : World.alloc w (.cells #[.int .i64 c, .slice a n cap] 29) = wa at *
    obtain ⟨e0, q0, q1, hsz⟩ := hbx
    clear hwa hsz
    refine Calls.mono (hC _ e0) ?_
    rintro e w1 hr1
    obtain ⟨r, rfl, rfl, b1⟩ := ret_ext hr1
    clear hr1
    unfold IntCode
    replace q0 := b1.cell q0
    replace q1 := b1.cell q1
    go_wp2_with fail
    refine Calls.mono (HL.out _ (by repeat (first | exact Ext.refl _ | assumption | (refine Ext.trans ?_ (Ext.alloc _ _)) | (refine Ext.trans ?_ (Ext.drew _)) | (refine Ext.trans ?_ (by assumption)))) _ _ (ints_one _ f 2 hfi)) ?_
    rintro e w2 hr2
    obtain ⟨r, rfl, r2, b2⟩ := ret_ext hr2
    clear hr2 HL hC
    have hb12 : Ext w1 w2 := (by repeat (first | exact Ext.refl _ | assumption | (refine Ext.trans ?_ (Ext.alloc _ _)) | (refine Ext.trans ?_ (Ext.drew _)) | (refine Ext.trans ?_ (by assumption))))
    replace q0 := hb12.cell q0
    replace q1 := hb12.cell q1
    go_wp2_with fail
    refine Calls.mono (HLe.out _ _ _ r2) ?_
    rintro e w3 hr3
    obtain ⟨r, rfl, r3, b3⟩ := ret_ext hr3
    clear hr3 q0 q1
    have hbw : Ext w w3 := (by repeat (first | exact Ext.refl _ | assumption | (refine Ext.trans ?_ (Ext.alloc _ _)) | (refine Ext.trans ?_ (Ext.drew _)) | (refine Ext.trans ?_ (by assumption))))
    have hb2' : Ext w w2 := (by repeat (first | exact Ext.refl _ | assumption | (refine Ext.trans ?_ (Ext.alloc _ _)) | (refine Ext.trans ?_ (Ext.drew _)) | (refine Ext.trans ?_ (by assumption))))
    have hres := stable_ints.grow r3 hb2' (Ext.refl _)
    go_wp2_with fail
    go_ret2
    exact ⟨_, rfl, IntsCode_mk HH.out hres, hbw⟩
  · have HH := Lib.hid (doors_no (x := (c, ds)) hk)
    simp only at hC HH ⊢
    generalize doorsToChange (c, ds) f t op = res at *
    generalize countRoutes (c, ds) f t op = cr at *
    obtain ⟨c1, c2⟩ := cr
    simp only at hk HH
    have hb : (c2 != 0) = true := by rw [bne_iff_ne]; exact hk
    clear hk hL hn hrr hc hd
    go_enter Try.func10, Try.ntmps10
    go_wp2_with fail
    refine Calls.mono (hC _ (Ext.alloc _ _)) ?_
    rintro e w1 hr1
    obtain ⟨r, rfl, rfl, b1⟩ := ret_ext hr1
    unfold IntCode
    go_wp2_with fail
    go_ret2
    exact ⟨_, rfl, IntsCode_nil HH.out, (Ext.alloc _ _).trans b1⟩

set_option maxRecDepth 20000 in
set_option maxHeartbeats 2000000 in
theorem Doors_c (w : World) (v vd : Value) (z y : Zone) (x : Int × List (List Int)) (f t : Int) (hfi : I64 f) (hti : I64 t) (op : List Int) (h : RoomsR z w v x) (hd : IntsR y w vd op) :
    Calls Try.prog 13 #[v, .int .i64 f, .int .i64 t, vd] w (Ret w fun r w' => IntsCode w (doorsToChange x f t op) r w') := by
  have hC := fun (wq : World) (hb : Ext w wq) => CountRoutes_c wq v vd z y x f t hfi hti op (stable_Rooms.ext h hb) (stable_ints.ext hd hb)
  have hL := fun (h1 : roomsOk x.1 x.2 = true) (h2 : rising op x.2.length = true) (h3 : 0 ≤ f) (h4 : f < x.1) (wq : World) (hb : Ext w wq) => routesTo_c wq v vd z y x op f t 60 (stable_Rooms.ext h hb) (stable_ints.ext hd hb) h1 h2 h3 h4 (by omega)
  obtain ⟨c, ds⟩ := x
  obtain ⟨u, rfl, hc, hrr⟩ := h
  obtain ⟨a, n, cap, rfl, hn, -⟩ := SliceR.shape hrr
  simp only at hn
  by_cases hk : (countRoutes (c, ds) f t op).2 = 0
  · have HH := Lib.hid (doors_ok (x := (c, ds)) hk)
    obtain ⟨g1, g2⟩ := count_ok hk
    obtain ⟨k1, k2, ⟨k3, k4⟩, -, k7⟩ := routesCode_ok g1
    replace hL := hL k1 k2 k3 k4
    have hn12 : n ≤ 12 := by have : ds.length ≤ 12 := (roomsOk_sides k1).2.1; omega
    simp only at hC hL HH g2 ⊢
    rw [← hn] at HH
    rw [List.take_of_length_le (by omega), show ((60 : Nat) : Int) = 60 from rfl] at hL
    generalize doorsToChange (c, ds) f t op = res at *
    generalize routesL c ds f t op = l at *
    obtain ⟨cc, hcc⟩ : ∃ cc, countRoutes (c, ds) f t op = (cc, 0) := ⟨(countRoutes (c, ds) f t op).1, by rw [← hk]⟩
    rw [hcc] at hC
    have HLe := Lib.hid (fun (wq : World) (v : Value) (z : Zone) (h : RowsR z wq v l) => leastHitting_c wq v z l n hn12 h)
    clear hk hcc g1 g2 k1 k2 k3 k4 k7 hrr hc hd hn
    have HL := Lib.hid hL; clear hL
    generalize leastL (hitsB l) n = ll at *
    go_enter Try.func13, Try.ntmps13
    go_wp2_with fail
    have hbx := box2 w (.int .i64 c) (.slice a n cap) 29
    generalize hwa : World.alloc w (.cells #[.int .i64 c, .slice a n cap] 29) = wa at *
    obtain ⟨e0, q0, q1, hsz⟩ := hbx
    clear hwa hsz
    refine Calls.mono (hC _ e0) ?_
    rintro e w1 hr1
    obtain ⟨r, rfl, rfl, b1⟩ := ret_ext hr1
    clear hr1
    unfold IntCode
    replace q0 := b1.cell q0
    replace q1 := b1.cell q1
    have HK : Hid (∀ w', Ext w1 w' → w'.cell? ⟨w.heap.size, 0, none⟩ = some (.int .i64 c) ∧ w'.cell? ⟨w.heap.size, 1, none⟩ = some (.slice a n cap)) := fun w' hb => ⟨hb.cell q0, hb.cell q1⟩
    go_wp2_with fail
    go_region_held3 (fun w' => w'.cell? ⟨w.heap.size, 0, none⟩ = some (.int .i64 c) ∧ w'.cell? ⟨w.heap.size, 1, none⟩ = some (.slice a n cap)) (exact HK.out _ (by repeat (first | exact Ext.refl _ | assumption | (refine Ext.trans ?_ (Ext.alloc _ _)) | (refine Ext.trans ?_ (Ext.drew _)) | (refine Ext.trans ?_ (by assumption))))) (first | (go_at_call 58; (with_reducible refine (HL.out _ (by repeat (first | exact Ext.refl _ | assumption | (refine Ext.trans ?_ (Ext.alloc _ _)) | (refine Ext.trans ?_ (Ext.drew _)) | (refine Ext.trans ?_ (by assumption))))).mono ?_); rintro e w7 hr7; obtain ⟨u7, rfl, r7, b7⟩ := ret_ext hr7; clear hr7) | (go_at_call 57; (with_reducible refine (HLe.out _ _ _ r7).mono ?_); rintro e w8 hr8; obtain ⟨u8, rfl, r8, b8⟩ := ret_ext hr8; clear hr8))
    have hbw : Ext w w8 := (by repeat (first | exact Ext.refl _ | assumption | (refine Ext.trans ?_ (Ext.alloc _ _)) | (refine Ext.trans ?_ (Ext.drew _)) | (refine Ext.trans ?_ (by assumption))))
    have hb7' : Ext w w7 := (by repeat (first | exact Ext.refl _ | assumption | (refine Ext.trans ?_ (Ext.alloc _ _)) | (refine Ext.trans ?_ (Ext.drew _)) | (refine Ext.trans ?_ (by assumption))))
    have hres := stable_ints.grow r8 hb7' (Ext.refl _)
    go_wp2_with fail
    go_ret2
    exact ⟨_, rfl, IntsCode_mk HH.out hres, hbw⟩
  · have HH := Lib.hid (doors_no (x := (c, ds)) hk)
    simp only at hC HH ⊢
    generalize doorsToChange (c, ds) f t op = res at *
    generalize countRoutes (c, ds) f t op = cr at *
    obtain ⟨c1, c2⟩ := cr
    simp only at hk HH
    have hb : (c2 != 0) = true := by rw [bne_iff_ne]; exact hk
    clear hk hL hn hrr hc hd
    go_enter Try.func13, Try.ntmps13
    go_wp2_with fail
    refine Calls.mono (hC _ (Ext.alloc _ _)) ?_
    rintro e w1 hr1
    obtain ⟨r, rfl, rfl, b1⟩ := ret_ext hr1
    unfold IntCode
    go_wp2_with fail
    go_ret2
    exact ⟨_, rfl, IntsCode_nil HH.out, (Ext.alloc _ _).trans b1⟩
end Go.Proofs.Ytaogpbhgoeepbaa
