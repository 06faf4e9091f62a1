/- Proved: the code of a plan of rooms, two different rooms and a list of doors: program and reference. -/
import Derived.Test.YtbkijealdjghgaaChecked
import Derived.Test.YtbkijealdjghgaaURoomsCode
namespace Go.Proofs.Ytbkijealdjghgaa
open Go.ChangeShapes Go.WideShapes Go.ChangeAt Go.RowKit
set_option linter.unusedVariables false

def routesCode (c : Int) (ds : List (List Int)) (f t : Int) (doors : List Int) : Int := if roomsCode c ds doors [f, t] = 0 then (if f = t then 5 else 0) else roomsCode c ds doors [f, t]
theorem routesCode_no {c : Int} {ds : List (List Int)} {f t : Int} {doors : List Int} (h : roomsCode c ds doors [f, t] ≠ 0) : routesCode c ds f t doors = roomsCode c ds doors [f, t] := by unfold routesCode; rw [if_neg h]
theorem routesCode_eq {c : Int} {ds : List (List Int)} {f t : Int} {doors : List Int} (h : roomsCode c ds doors [f, t] = 0) (h' : f = t) : routesCode c ds f t doors = 5 := by unfold routesCode; rw [if_pos h, if_pos h']
theorem routesCode_ne {c : Int} {ds : List (List Int)} {f t : Int} {doors : List Int} (h : roomsCode c ds doors [f, t] = 0) (h' : f ≠ t) : routesCode c ds f t doors = 0 := by unfold routesCode; rw [if_pos h, if_neg h']
theorem routesCode_ok {c : Int} {ds : List (List Int)} {f t : Int} {doors : List Int} (h : routesCode c ds f t doors = 0) : roomsOk c ds = true ∧ rising doors ds.length = true ∧ (0 ≤ f ∧ f < c) ∧ (0 ≤ t ∧ t < c) ∧ f ≠ t := by
  unfold routesCode at h
  split at h
  · next h1 =>
    obtain ⟨k1, k2, k3⟩ := roomsCode_ok h1
    split at h
    · exact absurd h (by decide)
    · next h2 => exact ⟨k1, k2, k3 f (by simp), k3 t (by simp), h2⟩
  · next h1 => exact absurd h h1

set_option maxRecDepth 20000 in
set_option maxHeartbeats 1000000 in
theorem routesCode_c (w : World) (v vd : Value) (z y : Zone) (x : Int × List (List Int)) (f t : Int) (hf : I64 f) (ht : I64 t) (doors : List Int) (h : RoomsR z w v x) (hd : IntsR y w vd doors) :
    Calls Try.prog 37 #[v, .int .i64 f, .int .i64 t, vd] w (Ret w fun r _ => r = .int .i64 (routesCode x.1 x.2 f t doors)) := by
  have hC := fun (wq : World) (hb : Below w.heap.size w wq) (vr : Value) (q : Zone) (hr : IntsR q wq vr [f, t]) => roomsCode_c wq v vd vr z y q x doors [f, t] (stable_Rooms.below h hb) (stable_ints.below hd hb) hr
  obtain ⟨c, ds⟩ := x
  obtain ⟨u, rfl, hc, hrr⟩ := h
  obtain ⟨a, n, cap, rfl, -⟩ := SliceR.shape hrr
  simp only at hC ⊢
  have HN := Lib.hid (routesCode_no (c := c) (ds := ds) (f := f) (t := t) (doors := doors))
  have HE := Lib.hid (routesCode_eq (c := c) (ds := ds) (f := f) (t := t) (doors := doors))
  have HD := Lib.hid (routesCode_ne (c := c) (ds := ds) (f := f) (t := t) (doors := doors))
  generalize routesCode c ds f t doors = res at *
  generalize roomsCode c ds doors [f, t] = k at *
  clear hrr hc
  have mid : ∀ w0 : World, w0 = (w.alloc (Obj.cells #[Value.int .i64 c, Value.slice a n cap] 26)).alloc (Obj.cells #[Value.int .i64 f, Value.int .i64 t] 2) → Below w.heap.size w w0 ∧ OwnP (Value.int .i64) 2 (w.heap.size + 1) w0 (.slice (some ⟨w.heap.size + 1, 0, none⟩) 2 2) [f, t] := by
    rintro w0 rfl
    refine ⟨((Below.refl _ _).alloc (Nat.le_refl _) _).alloc (by simp) _, ?_⟩
    have := OwnP.lit (f := Value.int .i64) (e := 2) (w := w.alloc (Obj.cells #[Value.int .i64 c, Value.slice a n cap] 26)) (B := w.heap.size + 1) (by simp) [f, t] #[Value.int .i64 f, Value.int .i64 t] rfl (by unfold maxLen; simp)
    simpa using this
  by_cases hk : k = 0
  · subst hk
    by_cases hft : f = t
    · have HH := Lib.hid (HE.out rfl hft)
      have hb : (f == t) = true := by rw [beq_iff_eq]; exact hft
      clear hft HE HD HN
      go_enter Try.func37, Try.ntmps37
      go_wp2_with fail
      generalize hw0 : World.alloc (World.alloc w _) _ = w0
      obtain ⟨b0, o0⟩ := mid w0 hw0.symm
      clear hw0 mid
      refine Calls.mono (hC _ b0 _ _ (OwnP.ints o0 (by intro y hy; simp at hy; rcases hy with rfl | rfl <;> assumption) (Nat.le_refl _))) ?_
      rintro e w1 ⟨r, rfl, rfl, b1⟩
      go_wp2_with fail
      go_ret
      exact ⟨_, rfl, congrArg (Value.int .i64) HH.out.symm, b0.trans (b1.mono b0.size)⟩
    · have HH := Lib.hid (HD.out rfl hft)
      have hb : (f == t) = false := by rw [beq_eq_false_iff_ne]; exact hft
      clear HE HD HN
      go_enter Try.func37, Try.ntmps37
      go_wp2_with fail
      generalize hw0 : World.alloc (World.alloc w _) _ = w0
      obtain ⟨b0, o0⟩ := mid w0 hw0.symm
      clear hw0 mid
      refine Calls.mono (hC _ b0 _ _ (OwnP.ints o0 (by intro y hy; simp at hy; rcases hy with rfl | rfl <;> assumption) (Nat.le_refl _))) ?_
      rintro e w1 ⟨r, rfl, rfl, b1⟩
      go_wp2_with fail
      go_ret
      exact ⟨_, rfl, congrArg (Value.int .i64) HH.out.symm, b0.trans (b1.mono b0.size)⟩
  · have HH := Lib.hid (HN.out hk)
    have hb : (k == 0) = false := by rw [beq_eq_false_iff_ne]; exact hk
    clear HE HD HN
    go_enter Try.func37, Try.ntmps37
    go_wp2_with fail
    generalize hw0 : World.alloc (World.alloc w _) _ = w0
    obtain ⟨b0, o0⟩ := mid w0 hw0.symm
    clear hw0 mid
    refine Calls.mono (hC _ b0 _ _ (OwnP.ints o0 (by intro y hy; simp at hy; rcases hy with rfl | rfl <;> assumption) (Nat.le_refl _))) ?_
    rintro e w1 ⟨r, rfl, rfl, b1⟩
    go_wp2_with fail
    go_ret
    exact ⟨_, rfl, congrArg (Value.int .i64) HH.out.symm, b0.trans (b1.mono b0.size)⟩

/-! ### the reference's -/
theorem roomsCode_two {c : Int} {ds : List (List Int)} {f t : Int} {doors : List Int} : roomsCode c ds doors [f, t] = if roomsCode c ds doors [f] = 0 then (if inB t 0 (c - 1) = true then 0 else 2) else roomsCode c ds doors [f] := by
  unfold roomsCode allB
  cases roomsOk c ds <;> cases rising doors ds.length <;> cases h1 : inB f 0 (c - 1) <;> cases h2 : inB t 0 (c - 1) <;> simp [h1, h2]
theorem l25Two_bad {c : Int} {ds : List (List Int)} {f t : Int} {doors : List Int} (h : roomsCode c ds doors [f] ≠ 0) : routesCode c ds f t doors = roomsCode c ds doors [f] := by
  have e : roomsCode c ds doors [f, t] = roomsCode c ds doors [f] := by rw [roomsCode_two, if_neg h]
  rw [routesCode_no (by rw [e]; exact h), e]
theorem l25Two_out {c : Int} {ds : List (List Int)} {f t : Int} {doors : List Int} (h : roomsCode c ds doors [f] = 0) (ht : inB t 0 (c - 1) = false) : routesCode c ds f t doors = 2 := by
  have e : roomsCode c ds doors [f, t] = 2 := by rw [roomsCode_two, if_pos h, if_neg (by rw [ht]; simp)]
  rw [routesCode_no (by rw [e]; decide), e]
theorem l25Two_in {c : Int} {ds : List (List Int)} {f t : Int} {doors : List Int} (h : roomsCode c ds doors [f] = 0) (ht : inB t 0 (c - 1) = true) : routesCode c ds f t doors = if f = t then 5 else 0 := by
  have e : roomsCode c ds doors [f, t] = 0 := by rw [roomsCode_two, if_pos h, if_pos ht]
  unfold routesCode
  rw [if_pos e]

set_option maxRecDepth 20000 in
set_option maxHeartbeats 1000000 in
theorem l25Two_c (w : World) (v vd : Value) (z y : Zone) (x : Int × List (List Int)) (f t : Int) (doors : List Int) (h : RoomsR z w v x) (hd : IntsR y w vd doors) :
    Calls Try.prog 38 #[v, .int .i64 f, .int .i64 t, vd] w (Ret w fun r _ => r = .int .i64 (routesCode x.1 x.2 f t doors)) := by
  have hC := fun (wq : World) (hb : Below w.heap.size w wq) => l25Code_c wq v vd z y x f doors (stable_Rooms.below h hb) (stable_ints.below hd hb)
  have hA := fun (hc : 2 ≤ x.1 ∧ x.1 ≤ 8) (wq : World) (hb : Below w.heap.size w wq) => l25Room_c wq v z x t (stable_Rooms.below h hb) hc
  obtain ⟨c, ds⟩ := x
  obtain ⟨u, rfl, hc, hrr⟩ := h
  obtain ⟨a, n, cap, rfl, -⟩ := SliceR.shape hrr
  simp only at hC hA ⊢
  by_cases hk : roomsCode c ds doors [f] = 0
  · replace hA := hA (roomsOk_sides (roomsCode_ok hk).1).1
    have HO := Lib.hid (l25Two_out (t := t) hk)
    have HI := Lib.hid (l25Two_in (t := t) hk)
    rw [hk] at hC
    generalize routesCode c ds f t doors = res at *
    generalize inB t 0 (c - 1) = q at *
    clear hk hrr hc
    go_enter Try.func38, Try.ntmps38
    go_wp2_with fail
    generalize hw0 : World.alloc w _ = w0
    have b0 : Below w.heap.size w w0 := by rw [← hw0]; exact (Below.refl _ _).alloc (Nat.le_refl _) _
    have q0 : w0.cell? ⟨w.heap.size, 0, none⟩ = some (.int .i64 c) := by rw [← hw0]; simp
    have q1 : w0.cell? ⟨w.heap.size, 1, none⟩ = some (.slice a n cap) := by rw [← hw0]; simp
    have hsz : w.heap.size < w0.heap.size := by rw [← hw0]; simp
    clear hw0
    refine Calls.mono (hC _ b0) ?_
    rintro e w1 ⟨r, rfl, rfl, b1⟩
    replace q0 := (b1.cell (p := ⟨w.heap.size, 0, none⟩) hsz).trans q0
    replace q1 := (b1.cell (p := ⟨w.heap.size, 1, none⟩) hsz).trans q1
    have b1' := b0.trans (b1.mono b0.size)
    go_wp2_with fail
    refine Calls.mono (hA _ b1') ?_
    rintro e w2 ⟨r, rfl, rfl, b2⟩
    have b2' := b1'.trans (b2.mono b1'.size)
    cases q with
    | false =>
      have HH := Lib.hid (HO.out rfl)
      clear HO HI
      go_wp2_with fail
      go_ret
      exact ⟨_, rfl, congrArg (Value.int .i64) HH.out.symm, b2'⟩
    | true =>
      by_cases hft : f = t
      · have HH : Hid (res = 5) := Lib.hid ((HI.out rfl).trans (if_pos hft))
        have hb : (f == t) = true := by rw [beq_iff_eq]; exact hft
        clear HO HI hft
        go_wp2_with fail
        go_ret
        exact ⟨_, rfl, congrArg (Value.int .i64) HH.out.symm, b2'⟩
      · have HH : Hid (res = 0) := Lib.hid ((HI.out rfl).trans (if_neg hft))
        have hb : (f == t) = false := by rw [beq_eq_false_iff_ne]; exact hft
        clear HO HI
        go_wp2_with fail
        go_ret
        exact ⟨_, rfl, congrArg (Value.int .i64) HH.out.symm, b2'⟩
  · have HH := Lib.hid (l25Two_bad (t := t) hk)
    have hb : (roomsCode c ds doors [f] == 0) = false := by rw [beq_eq_false_iff_ne]; exact hk
    generalize routesCode c ds f t doors = res at *
    generalize roomsCode c ds doors [f] = k at *
    clear hA hrr hc
    go_enter Try.func38, Try.ntmps38
    go_wp2_with fail
    generalize hw0 : World.alloc w _ = w0
    have b0 : Below w.heap.size w w0 := by rw [← hw0]; exact (Below.refl _ _).alloc (Nat.le_refl _) _
    clear hw0
    refine Calls.mono (hC _ b0) ?_
    rintro e w1 ⟨r, rfl, rfl, b1⟩
    go_wp2_with fail
    go_ret
    exact ⟨_, rfl, congrArg (Value.int .i64) HH.out.symm, b0.trans (b1.mono b0.size)⟩
end Go.Proofs.Ytbkijealdjghgaa
