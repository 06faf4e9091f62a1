/- Proved: IsBarrier: program and reference compute the same, for all arguments. -/
import Derived.Test.YtbkijealdjghgaaChecked
import Derived.Deep.RegionHeld3
import Derived.Test.YtbkijealdjghgaaUBehindLaw
namespace Go.Proofs.Ytbkijealdjghgaa
open Go.ChangeShapes Go.WideShapes Go.ChangeAt Go.RowKit
set_option linter.unusedVariables false


def isBarrier (x : Int × List (List Int)) (f t : Int) (shut : List Int) : Bool × Int := if routesCode x.1 x.2 f t shut = 0 then (!(reachL x.1 x.2 f (otherDoors x.2.length shut)).getD t.toNat false, 0) else (false, routesCode x.1 x.2 f t shut)
theorem isBarrier_ok {x : Int × List (List Int)} {f t : Int} {shut : List Int} (h : routesCode x.1 x.2 f t shut = 0) : isBarrier x f t shut = (!(reachL x.1 x.2 f (otherDoors x.2.length shut)).getD t.toNat false, 0) := by unfold isBarrier; rw [if_pos h]
theorem isBarrier_no {x : Int × List (List Int)} {f t : Int} {shut : List Int} (h : routesCode x.1 x.2 f t shut ≠ 0) : isBarrier x f t shut = (false, routesCode x.1 x.2 f t shut) := by unfold isBarrier; rw [if_neg h]

set_option maxRecDepth 20000 in
set_option maxHeartbeats 1000000 in
theorem IsBarrierSpec_c (w : World) (v vd : Value) (z y : Zone) (x : Int × List (List Int)) (f t : Int) (ht : I64 t) (shut : List Int) (h : RoomsR z w v x) (hd : IntsR y w vd shut) :
    Calls Try.prog 11 #[v, .int .i64 f, .int .i64 t, vd] w (Ret w fun r _ => r = BoolCode (isBarrier x f t shut)) := by
  have hC := fun (wq : World) (hb : Below w.heap.size w wq) => l25Two_c wq v vd z y x f t shut (stable_Rooms.below h hb) (stable_ints.below hd hb)
  have hO := fun (h12 : x.2.length ≤ 12) (wq : World) (hb : Below w.heap.size w wq) => l25But_c wq v vd z y x shut (stable_Rooms.below h hb) (stable_ints.below hd hb) h12
  have hR := fun (hok : roomsOk x.1 x.2 = true) (hf : 0 ≤ f) (hf' : f < x.1) (wq : World) (hb : Below w.heap.size w wq) (vo : Value) (q : Zone) (ho : IntsR q wq vo (otherDoors x.2.length shut)) => l25Reach_c wq v vo z q x (otherDoors x.2.length shut) f (stable_Rooms.below h hb) ho hok (otherDoors_rising _ _) hf hf'
  obtain ⟨c, ds⟩ := x
  obtain ⟨u, rfl, hc, hrr⟩ := h
  obtain ⟨a, n, cap, rfl, -⟩ := SliceR.shape hrr
  by_cases hk : routesCode c ds f t shut = 0
  · have HH := Lib.hid (isBarrier_ok (x := (c, ds)) hk)
    obtain ⟨k1, k2, ⟨k3, k4⟩, ⟨k5, k6⟩, k7⟩ := routesCode_ok hk
    have HS : Hid (has (reachInts c ds f (otherDoors ds.length shut)) t = (reachL c ds f (otherDoors ds.length shut)).getD t.toNat false) := has_reach k5 k6
    replace hO := hO (roomsOk_sides k1).2.1
    replace hR := hR k1 k3 k4
    simp only at hC hO hR HH ⊢
    rw [hk] at hC
    generalize isBarrier (c, ds) f t shut = res at *
    generalize (reachL c ds f (otherDoors ds.length shut)).getD t.toNat false = yes at *
    generalize reachInts c ds f (otherDoors ds.length shut) = out at *
    generalize otherDoors ds.length shut = od at *
    clear hk k1 k2 k3 k4 k5 k6 k7 hrr hc
    go_enter Try.func11, Try.ntmps11
    go_wp2_with fail
    generalize hw0 : World.alloc w _ = w0
    have b0 : Below w.heap.size w w0 := by rw [← hw0]; exact (Below.refl _ _).alloc (Nat.le_refl _) _
    have q0 : w0.cell? ⟨w.heap.size, 0, none⟩ = some (.int .i64 c) := by rw [← hw0]; simp
    have q1 : w0.cell? ⟨w.heap.size, 1, none⟩ = some (.slice a n cap) := by rw [← hw0]; simp
    have hsz : w.heap.size < w0.heap.size := by rw [← hw0]; simp
    clear hw0
    refine Calls.mono (hC _ b0) ?_
    rintro e w1 ⟨r, rfl, rfl, b1⟩
    replace q0 := (b1.cell (p := ⟨w.heap.size, 0, none⟩) hsz).trans q0
    replace q1 := (b1.cell (p := ⟨w.heap.size, 1, none⟩) hsz).trans q1
    have b1' := b0.trans (b1.mono b0.size)
    have hsz1 : w.heap.size < w1.heap.size := Nat.lt_of_lt_of_le hsz b1.size
    have HK : Hid (∀ w', Below w1.heap.size w1 w' → w'.cell? ⟨w.heap.size, 0, none⟩ = some (.int .i64 c) ∧ w'.cell? ⟨w.heap.size, 1, none⟩ = some (.slice a n cap)) := fun w' hb => ⟨(hb.cell (p := ⟨w.heap.size, 0, none⟩) hsz1).trans q0, (hb.cell (p := ⟨w.heap.size, 1, none⟩) hsz1).trans q1⟩
    have HO := Lib.hid hO
    have HR := Lib.hid hR
    clear hO hR hC
    go_wp2_with fail
    go_region_held3 (fun w' => w'.cell? ⟨w.heap.size, 0, none⟩ = some (.int .i64 c) ∧ w'.cell? ⟨w.heap.size, 1, none⟩ = some (.slice a n cap)) (first | exact HK.out _ (Below.refl _ _).drew | exact HK.out _ ((Below.refl _ _).drew.trans b7) | exact HK.out _ (((Below.refl _ _).drew.trans b7).trans (b8.mono b7.size)) | exact HK.out _ ((((Below.refl _ _).drew.trans b7).trans (b8.mono b7.size)).trans (b9.mono (Nat.le_trans b7.size b8.size))))
      (first | (go_at_call 34; refine (HO.out _ (b1'.trans ((Below.refl _ _).drew.mono b1'.size))).mono ?_; rintro e w7 ⟨u7, rfl, r7, b7⟩) | (go_at_call 33; refine (HR.out _ (b1'.trans (((Below.refl _ _).drew.trans b7).mono b1'.size)) _ _ r7).mono ?_; rintro e w8 ⟨u8, rfl, r8, b8⟩) | (go_at_call 35; refine (Calls.vq (Has_c _ _ _ _ _ r8 ht) (congrArg Value.bool HS.out)).ret'.mono ?_; rintro e w9 ⟨u9, rfl, rfl, b9⟩))
    go_wp2_with fail
    go_ret2
    exact ⟨_, rfl, BoolCode_mk HH.out, b1'.trans (((((Below.refl _ _).drew.trans b7).trans (b8.mono b7.size)).trans (b9.mono (Nat.le_trans b7.size b8.size))).mono b1'.size)⟩
  · have HH := Lib.hid (isBarrier_no (x := (c, ds)) hk)
    have hb : (routesCode c ds f t shut != 0) = true := by rw [bne_iff_ne]; exact hk
    simp only at hC HH ⊢
    generalize isBarrier (c, ds) f t shut = res at *
    generalize routesCode c ds f t shut = k at *
    clear hk hR hO
    go_enter Try.func11, Try.ntmps11
    go_wp2_with fail
    generalize hw0 : World.alloc w _ = w0
    have hb0 : Below w.heap.size w w0 := by rw [← hw0]; exact (Below.refl _ _).alloc (Nat.le_refl _) _
    clear hw0
    refine Calls.mono (hC _ hb0) ?_
    rintro e w1 ⟨r, rfl, rfl, b1⟩
    go_wp2_with fail
    go_ret2
    exact ⟨_, rfl, BoolCode_mk HH.out, hb0.trans (b1.mono hb0.size)⟩
end Go.Proofs.Ytbkijealdjghgaa
