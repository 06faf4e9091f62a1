/- Proved: CountRoutes and RoutesTo: program and reference compute the same, for all arguments. -/
import Derived.Test.YtaogpbhgoeepbaaChecked
import Derived.Test.YtaogpbhgoeepbaaURoutesEntry
import Derived.Test.YtaogpbhgoeepbaaURoutesSpec
namespace Go.Proofs.Ytaogpbhgoeepbaa
open Go.ChangeShapes Go.WideShapes Go.ChangeAt Go.RowKit
set_option linter.unusedVariables false

theorem marked_one {c f : Int} (h0 : 0 ≤ f) (h1 : f < c) : Marked c.toNat [f] (reach0 c f) := by
  refine ⟨reach0_length c f, fun q hq hqc => ?_⟩
  have e : has [f] q = decide (f = q) := by rw [Bool.eq_iff_iff]; simp [has]
  rw [e]
  unfold reach0
  rw [List.getD_eq_getElem?_getD, List.getElem?_set]
  by_cases h : f = q
  · subst h; rw [if_pos rfl, if_pos (by simp; omega)]; simp
  · rw [if_neg (by omega), List.getElem?_replicate]
    split <;> simp [h]
theorem l25RoutesTop_c (w : World) (v vr vo : Value) (z y q : Zone) (x : Int × List (List Int)) (op : List Int) (f t : Int) (most : Nat) (h : RoomsR z w v x) (hr : IntsR y w vr [f]) (ho : IntsR q w vo op)
    (hok : roomsOk x.1 x.2 = true) (hop : rising op x.2.length = true) (hf : 0 ≤ f) (hf' : f < x.1) (hft : f ≠ t) (hm : most ≤ 1000000) :
    Calls Try.prog 54 #[v, vr, .int .i64 t, vo, .int .i64 most] w (Ret w fun r w' => RowsR (.new w w') w' r ((routesL x.1 x.2 f t op).take most)) := by
  have hc := (roomsOk_sides hok).1
  refine l25Routes_c x.1.toNat w v vr vo z y q x [f] op t f (reach0 x.1 f) most h hr ho hok hop rfl (by simp; omega) (marked_one hf hf') ?_ (by omega) (fun e => absurd e hft) hm
  have := List.count_le_length (a := false) (l := reach0 x.1 f)
  rw [reach0_length] at this
  exact this
theorem routesL_few {c : Int} {ds : List (List Int)} {f t : Int} {op : List Int} (hok : roomsOk c ds = true) (hop : rising op ds.length = true) (hf : 0 ≤ f) (hf' : f < c) : (routesL c ds f t op).length ≤ 4096 := by
  have h12 : op.length ≤ 12 := by
    have h1 := rising_length hop
    have h2 := (roomsOk_sides hok).2.1
    omega
  unfold routesL
  refine routesN_4096 ?_ ?_ (fun d hd p => ?_) h12
  · have := (marked_one hf hf').2 f hf (by omega)
    rw [← this]; simp [has]
  · have := List.count_le_length (a := false) (l := reach0 c f)
    rw [reach0_length] at this; exact this
  · obtain ⟨i, hi, rfl⟩ := List.getElem_of_mem hd
    have hg := rising_ge hop i hi
    have e : op.getD i 0 = op[i] := by simp [hi]
    rw [e] at hg
    rw [reach0_length]
    have hr := other_range hok (p := p) (d := op[i]) (by omega) hg.2
    have := (roomsOk_sides hok).1
    rcases hr with hr | hr <;> omega

def countRoutes (x : Int × List (List Int)) (f t : Int) (op : List Int) : Int × Int :=
  if routesCode x.1 x.2 f t op = 0 then (if 60 < ((routesL x.1 x.2 f t op).take 61).length then (0, 3) else ((((routesL x.1 x.2 f t op).take 61).length : Int), 0)) else (0, routesCode x.1 x.2 f t op)
theorem countRoutes_no {x : Int × List (List Int)} {f t : Int} {op : List Int} (h : routesCode x.1 x.2 f t op ≠ 0) : countRoutes x f t op = (0, routesCode x.1 x.2 f t op) := by unfold countRoutes; rw [if_neg h]
theorem countRoutes_ok {x : Int × List (List Int)} {f t : Int} {op : List Int} (h : routesCode x.1 x.2 f t op = 0) : countRoutes x f t op = if 60 < ((routesL x.1 x.2 f t op).take 61).length then (0, 3) else ((((routesL x.1 x.2 f t op).take 61).length : Int), 0) := by unfold countRoutes; rw [if_pos h]

set_option maxRecDepth 20000 in
set_option maxHeartbeats 1000000 in
theorem CountRoutesSpec_c (w : World) (v vd : Value) (z y : Zone) (x : Int × List (List Int)) (f t : Int) (hfi : I64 f) (op : List Int) (h : RoomsR z w v x) (hd : IntsR y w vd op) :
    Calls Try.prog 53 #[v, .int .i64 f, .int .i64 t, vd] w (Ret w fun r _ => r = IntCode (countRoutes x f t op)) := by
  have hC := fun (wq : World) (hb : Ext w wq) => l25Two_c wq v vd z y x f t op (stable_Rooms.ext h hb) (stable_ints.ext hd hb)
  have hL := fun (h1 : roomsOk x.1 x.2 = true) (h2 : rising op x.2.length = true) (h3 : 0 ≤ f) (h4 : f < x.1) (h5 : f ≠ t) (wq : World) (hb : Ext w wq) (vr : Value) (q : Zone) (hr : IntsR q wq vr [f]) => l25RoutesTop_c wq v vr vd z q y x op f t 61 (stable_Rooms.ext h hb) hr (stable_ints.ext hd hb) h1 h2 h3 h4 h5 (by omega)
  obtain ⟨c, ds⟩ := x
  obtain ⟨u, rfl, hc, hrr⟩ := h
  obtain ⟨a, n, cap, rfl, -⟩ := SliceR.shape hrr
  by_cases hk : routesCode c ds f t op = 0
  · have HH := Lib.hid (countRoutes_ok (x := (c, ds)) hk)
    obtain ⟨k1, k2, ⟨k3, k4⟩, -, k7⟩ := routesCode_ok hk
    replace hL := hL k1 k2 k3 k4 k7
    simp only at hC hL HH ⊢
    rw [hk] at hC
    generalize countRoutes (c, ds) f t op = res at *
    have hll : ((routesL c ds f t op).take 61).length ≤ 61 := List.length_take_le _ _
    generalize (routesL c ds f t op).take 61 = l at *
    clear hk k1 k2 k3 k4 k7 hrr hc hd
    have HL := Lib.hid hL; clear hL
    go_enter Try.func53, Try.ntmps53
    go_wp2_with fail
    have hbx := box2 w (.int .i64 c) (.slice a n cap) 29
    generalize hwa : World.alloc w (.cells #[.int .i64 c, .slice a n cap] 29) = wa at *
    obtain ⟨e0, q0, q1, hsz⟩ := hbx
    clear hwa hsz
    refine Calls.mono (hC _ e0) ?_
    rintro e w1 hr1
    obtain ⟨r, rfl, rfl, b1⟩ := ret_ext hr1
    clear hr1
    replace q0 := b1.cell q0
    replace q1 := b1.cell q1
    go_wp2_with fail
    refine Calls.mono (HL.out _ (by repeat (first | exact Ext.refl _ | assumption | (refine Ext.trans ?_ (Ext.alloc _ _)) | (refine Ext.trans ?_ (Ext.drew _)) | (refine Ext.trans ?_ (by assumption)))) _ _ (ints_one _ f 2 hfi)) ?_
    rintro e w2 hr2
    obtain ⟨r, rfl, r2, b2⟩ := ret_ext hr2
    clear hr2 q0 q1
    have hbw : Ext w w2 := (by repeat (first | exact Ext.refl _ | assumption | (refine Ext.trans ?_ (Ext.alloc _ _)) | (refine Ext.trans ?_ (Ext.drew _)) | (refine Ext.trans ?_ (by assumption))))
    obtain ⟨al, nl, cl, rfl, hnl, -⟩ := SliceR.shape r2
    rw [← hnl] at HH hll
    clear hnl r2
    by_cases hgt : 60 < nl
    · rw [if_pos hgt] at HH
      go_wp2_with fail
      go_ret2
      exact ⟨_, rfl, IntCode_mk HH.out, hbw⟩
    · rw [if_neg hgt] at HH
      go_wp2_with fail
      go_ret2
      exact ⟨_, rfl, IntCode_mk HH.out, hbw⟩
  · have HH := Lib.hid (countRoutes_no (x := (c, ds)) hk)
    have hb : (routesCode c ds f t op != 0) = true := by rw [bne_iff_ne]; exact hk
    simp only at hC HH ⊢
    generalize countRoutes (c, ds) f t op = res at *
    generalize routesCode c ds f t op = k at *
    clear hk hL
    go_enter Try.func53, Try.ntmps53
    go_wp2_with fail
    refine Calls.mono (hC _ (Ext.alloc _ _)) ?_
    rintro e w1 hr1
    obtain ⟨r, rfl, rfl, b1⟩ := ret_ext hr1
    go_wp2_with fail
    go_ret2
    exact ⟨_, rfl, IntCode_mk HH.out, (Ext.alloc _ _).trans b1⟩

set_option maxRecDepth 20000 in
set_option maxHeartbeats 1000000 in
theorem CountRoutes_c (w : World) (v vd : Value) (z y : Zone) (x : Int × List (List Int)) (f t : Int) (hfi : I64 f) (hti : I64 t) (op : List Int) (h : RoomsR z w v x) (hd : IntsR y w vd op) :
    Calls Try.prog 56 #[v, .int .i64 f, .int .i64 t, vd] w (Ret w fun r _ => r = IntCode (countRoutes x f t op)) := by
  have hC := fun (wq : World) (hb : Ext w wq) => routesCode_c wq v vd z y x f t hfi hti op (stable_Rooms.ext h hb) (stable_ints.ext hd hb)
  have hL := fun (h1 : roomsOk x.1 x.2 = true) (h2 : rising op x.2.length = true) (h3 : 0 ≤ f) (h4 : f < x.1) (wq : World) (hb : Ext w wq) => routesTo_c wq v vd z y x op f t 61 (stable_Rooms.ext h hb) (stable_ints.ext hd hb) h1 h2 h3 h4 (by omega)
  obtain ⟨c, ds⟩ := x
  obtain ⟨u, rfl, hc, hrr⟩ := h
  obtain ⟨a, n, cap, rfl, -⟩ := SliceR.shape hrr
  by_cases hk : routesCode c ds f t op = 0
  · have HH := Lib.hid (countRoutes_ok (x := (c, ds)) hk)
    obtain ⟨k1, k2, ⟨k3, k4⟩, -, k7⟩ := routesCode_ok hk
    replace hL := hL k1 k2 k3 k4
    simp only at hC hL HH ⊢
    rw [hk] at hC
    generalize countRoutes (c, ds) f t op = res at *
    have hll : ((routesL c ds f t op).take 61).length ≤ 61 := List.length_take_le _ _
    generalize (routesL c ds f t op).take 61 = l at *
    clear hk k1 k2 k3 k4 k7 hrr hc hd
    have HL := Lib.hid hL; clear hL
    go_enter Try.func56, Try.ntmps56
    go_wp2_with fail
    have hbx := box2 w (.int .i64 c) (.slice a n cap) 29
    generalize hwa : World.alloc w (.cells #[.int .i64 c, .slice a n cap] 29) = wa at *
    obtain ⟨e0, q0, q1, hsz⟩ := hbx
    clear hwa hsz
    refine Calls.mono (hC _ e0) ?_
    rintro e w1 hr1
    obtain ⟨r, rfl, rfl, b1⟩ := ret_ext hr1
    clear hr1
    replace q0 := b1.cell q0
    replace q1 := b1.cell q1
    go_wp2_with fail
    refine Calls.mono (HL.out _ (by repeat (first | exact Ext.refl _ | assumption | (refine Ext.trans ?_ (Ext.alloc _ _)) | (refine Ext.trans ?_ (Ext.drew _)) | (refine Ext.trans ?_ (by assumption))))) ?_
    rintro e w2 hr2
    obtain ⟨r, rfl, r2, b2⟩ := ret_ext hr2
    clear hr2 q0 q1
    have hbw : Ext w w2 := (by repeat (first | exact Ext.refl _ | assumption | (refine Ext.trans ?_ (Ext.alloc _ _)) | (refine Ext.trans ?_ (Ext.drew _)) | (refine Ext.trans ?_ (by assumption))))
    obtain ⟨al, nl, cl, rfl, hnl, -⟩ := SliceR.shape r2
    rw [← hnl] at HH hll
    clear hnl r2
    by_cases hgt : 60 < nl
    · rw [if_pos hgt] at HH
      go_wp2_with fail
      go_ret2
      exact ⟨_, rfl, IntCode_mk HH.out, hbw⟩
    · rw [if_neg hgt] at HH
      go_wp2_with fail
      go_ret2
      exact ⟨_, rfl, IntCode_mk HH.out, hbw⟩
  · have HH := Lib.hid (countRoutes_no (x := (c, ds)) hk)
    have hb : (routesCode c ds f t op != 0) = true := by rw [bne_iff_ne]; exact hk
    simp only at hC HH ⊢
    generalize countRoutes (c, ds) f t op = res at *
    generalize routesCode c ds f t op = k at *
    clear hk hL
    go_enter Try.func56, Try.ntmps56
    go_wp2_with fail
    refine Calls.mono (hC _ (Ext.alloc _ _)) ?_
    rintro e w1 hr1
    obtain ⟨r, rfl, rfl, b1⟩ := ret_ext hr1
    go_wp2_with fail
    go_ret2
    exact ⟨_, rfl, IntCode_mk HH.out, (Ext.alloc _ _).trans b1⟩
end Go.Proofs.Ytaogpbhgoeepbaa
