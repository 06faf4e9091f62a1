/- Proved: the code of a plan of rooms, rooms and a list of doors: program and reference. -/
import Derived.Test.YtbkijealdjghgaaChecked
import Derived.Test.YtbkijealdjghgaaUReachLaw
import Derived.Test.YtbkijealdjghgaaUPkA
import Derived.Test.YtbkijealdjghgaaURisingFacts
namespace Go.Proofs.Ytbkijealdjghgaa
open Go.ChangeShapes Go.WideShapes Go.ChangeAt Go.RowKit
set_option linter.unusedVariables false

def roomsCode (c : Int) (ds : List (List Int)) (doors rooms : List Int) : Int := if roomsOk c ds = true then (if (allB rooms 0 (c - 1) && rising doors ds.length) = true then 0 else 2) else 1
theorem roomsCode_no {c : Int} {ds : List (List Int)} {doors rooms : List Int} (h : roomsOk c ds = false) : roomsCode c ds doors rooms = 1 := by unfold roomsCode; rw [h]; rfl
theorem roomsCode_yes {c : Int} {ds : List (List Int)} {doors rooms : List Int} {p q : Bool} (h : roomsOk c ds = true) (hp : allB rooms 0 (c - 1) = p) (hq : rising doors ds.length = q) : roomsCode c ds doors rooms = if (p && q) = true then 0 else 2 := by unfold roomsCode; rw [h, hp, hq]; rfl
theorem roomsCode_ok {c : Int} {ds : List (List Int)} {doors rooms : List Int} (h : roomsCode c ds doors rooms = 0) : roomsOk c ds = true ∧ rising doors ds.length = true ∧ ∀ f ∈ rooms, 0 ≤ f ∧ f < c := by
  unfold roomsCode at h
  split at h
  · next h1 =>
    split at h
    · next h2 =>
      rw [Bool.and_eq_true] at h2
      refine ⟨h1, h2.2, fun f hf => ?_⟩
      have := h2.1
      unfold allB at this
      rw [List.all_eq_true] at this
      have := this f hf
      simp [inB] at this
      omega
    · exact absurd h (by decide)
  · exact absurd h (by decide)
theorem allB_one (f lo hi : Int) : allB [f] lo hi = inB f lo hi := by simp [allB]

set_option maxRecDepth 20000 in
set_option maxHeartbeats 1000000 in
theorem roomsCode_c (w : World) (v vd vr : Value) (z y q : Zone) (x : Int × List (List Int)) (doors rooms : List Int) (h : RoomsR z w v x) (hd : IntsR y w vd doors) (hr : IntsR q w vr rooms) :
    Calls Try.prog 28 #[v, vd, vr] w (Ret w fun r _ => r = .int .i64 (roomsCode x.1 x.2 doors rooms)) := by
  have hIs := fun (wq : World) (hb : Below w.heap.size w wq) => IsRooms_c wq v z x (stable_Rooms.below h hb)
  obtain ⟨c, ds⟩ := x
  obtain ⟨u, rfl, hc, hrr⟩ := h
  simp only at hc hrr hIs ⊢
  obtain ⟨a, n, cap, rfl, hn, hm, -⟩ := SliceR.shape hrr
  cases hok : roomsOk c ds with
  | false =>
    have HH := Lib.hid (roomsCode_no (doors := doors) (rooms := rooms) hok)
    rw [hok] at hIs
    clear hok hn
    go_enter Try.func28, Try.ntmps28
    go_wp2_with fail
    generalize hw0 : World.alloc w _ = w0
    have hb0 : Below w.heap.size w w0 := by rw [← hw0]; exact (Below.refl _ _).alloc (Nat.le_refl _) _
    clear hw0
    refine Calls.mono (hIs _ hb0) ?_
    rintro e w1 ⟨r, rfl, rfl, b1⟩
    go_wp2_with fail
    go_ret
    exact ⟨_, rfl, congrArg (Value.int .i64) HH.out.symm, hb0.trans (b1.mono hb0.size)⟩
  | true =>
    have hcc := (roomsOk_sides hok).1
    rw [hok] at hIs
    have hA := fun (wq : World) (hb : Below w.heap.size w wq) => allWithin_c wq vr q rooms 0 (c - 1) (stable_ints.below hr hb)
    have hB := fun (wq : World) (hb : Below w.heap.size w wq) => IsRising_c wq vd y doors (n : Int) (stable_ints.below hd hb) (by unfold I64; omega)
    generalize hpa : allB rooms 0 (c - 1) = pa at hA
    generalize hpb' : rising doors (n : Int) = pb at hB
    have hpb : rising doors (ds.length : Int) = pb := by rw [← hn]; exact hpb'
    clear hpb'
    have HC : Hid (roomsCode c ds doors rooms = if (pa && pb) = true then 0 else 2) := Lib.hid (roomsCode_yes hok hpa hpb)
    have hwc : wrap64 (c - 1) = c - 1 := by unfold wrap64; omega
    clear hpa hpb hok hn
    have HA := Lib.hid hA; clear hA
    have HB := Lib.hid hB; clear hB
    go_enter Try.func28, Try.ntmps28
    go_wp2_with fail
    generalize hw0 : World.alloc w _ = w0
    have hb0 : Below w.heap.size w w0 := by rw [← hw0]; exact (Below.refl _ _).alloc (Nat.le_refl _) _
    have q0 : w0.cell? ⟨w.heap.size, 0, none⟩ = some (.int .i64 c) := by rw [← hw0]; simp
    have q1 : w0.cell? ⟨w.heap.size, 1, none⟩ = some (.slice a n cap) := by rw [← hw0]; simp
    have hsz : w.heap.size < w0.heap.size := by rw [← hw0]; simp
    clear hw0
    refine Calls.mono (hIs _ hb0) ?_
    rintro e w1 ⟨r, rfl, rfl, b1⟩
    replace q0 := (b1.cell (p := ⟨w.heap.size, 0, none⟩) hsz).trans q0
    replace q1 := (b1.cell (p := ⟨w.heap.size, 1, none⟩) hsz).trans q1
    have b1' := hb0.trans (b1.mono hb0.size)
    go_wp2_with fail
    refine Calls.mono (HA.out _ b1') ?_
    rintro e w2 ⟨rfl, d2⟩
    replace q1 := (d2.cell _).trans q1
    have b2' := b1'.trans (d2.below _)
    cases pa with
    | false =>
      have HH : Hid (roomsCode c ds doors rooms = 2) := Lib.hid (HC.out.trans rfl)
      clear HC
      go_wp2_with fail
      go_ret
      exact ⟨_, rfl, congrArg (Value.int .i64) HH.out.symm, b2'⟩
    | true =>
      go_wp2_with fail
      refine Calls.mono (HB.out _ b2') ?_
      rintro e w3 ⟨rfl, d3⟩
      have b3' := b2'.trans (d3.below _)
      cases pb with
      | false =>
        have HH : Hid (roomsCode c ds doors rooms = 2) := Lib.hid (HC.out.trans rfl)
        clear HC
        go_wp2_with fail
        go_ret
        exact ⟨_, rfl, congrArg (Value.int .i64) HH.out.symm, b3'⟩
      | true =>
        have HH : Hid (roomsCode c ds doors rooms = 0) := Lib.hid (HC.out.trans rfl)
        clear HC
        go_wp2_with fail
        go_ret
        exact ⟨_, rfl, congrArg (Value.int .i64) HH.out.symm, b3'⟩

/-! ### the reference's -/
theorem l25Room_c (w : World) (v : Value) (z : Zone) (x : Int × List (List Int)) (f : Int) (h : RoomsR z w v x) (hc : 2 ≤ x.1 ∧ x.1 ≤ 8) :
    Calls Try.prog 59 #[v, .int .i64 f] w (Ret w fun r _ => r = .bool (inB f 0 (x.1 - 1))) := by
  obtain ⟨c, ds⟩ := x
  obtain ⟨u, rfl, hcc, hrr⟩ := h
  simp only at hc hrr hcc ⊢
  obtain ⟨a, n, cap, rfl, -⟩ := SliceR.shape hrr
  have hwc : wrap64 (c - 1) = c - 1 := by unfold wrap64; omega
  go_enter Try.func59, Try.ntmps59
  go_wp2_with fail
  generalize hw0 : World.alloc w _ = w0
  have hb0 : Below w.heap.size w w0 := by rw [← hw0]; exact (Below.refl _ _).alloc (Nat.le_refl _) _
  have q0 : w0.cell? ⟨w.heap.size, 0, none⟩ = some (.int .i64 c) := by rw [← hw0]; simp
  clear hw0
  go_wp2_with fail
  refine Calls.mono (l01In_c w0 f 0 (c - 1)) ?_
  rintro e w1 ⟨rfl, d1⟩
  go_wp2_with fail
  go_ret
  exact ⟨_, rfl, rfl, hb0.trans (d1.below _)⟩

theorem l25Open_c (w : World) (v vd : Value) (z y : Zone) (x : Int × List (List Int)) (doors : List Int) (h : RoomsR z w v x) (hd : IntsR y w vd doors) :
    Calls Try.prog 60 #[v, vd] w (Ret w fun r _ => r = .bool (rising doors x.2.length)) := by
  obtain ⟨c, ds⟩ := x
  obtain ⟨u, rfl, hcc, hrr⟩ := h
  simp only at hrr hcc ⊢
  obtain ⟨a, n, cap, rfl, hn, hm, -⟩ := SliceR.shape hrr
  have hB := fun (wq : World) (hb : Below w.heap.size w wq) => l01Rises_c wq vd y doors (n : Int) (stable_ints.below hd hb) (by unfold I64; omega)
  rw [← hn]
  clear hn
  go_enter Try.func60, Try.ntmps60
  go_wp2_with fail
  generalize hw0 : World.alloc w _ = w0
  have hb0 : Below w.heap.size w w0 := by rw [← hw0]; exact (Below.refl _ _).alloc (Nat.le_refl _) _
  have q1 : w0.cell? ⟨w.heap.size, 1, none⟩ = some (.slice a n cap) := by rw [← hw0]; simp
  clear hw0
  go_wp2_with fail
  refine Calls.mono (hB w0 hb0) ?_
  rintro e w1 ⟨rfl, d1⟩
  go_wp2_with fail
  go_ret
  exact ⟨_, rfl, rfl, hb0.trans (d1.below _)⟩

set_option maxRecDepth 20000 in
set_option maxHeartbeats 1000000 in
theorem l25Code_c (w : World) (v vd : Value) (z y : Zone) (x : Int × List (List Int)) (f : Int) (doors : List Int) (h : RoomsR z w v x) (hd : IntsR y w vd doors) :
    Calls Try.prog 31 #[v, .int .i64 f, vd] w (Ret w fun r _ => r = .int .i64 (roomsCode x.1 x.2 doors [f])) := by
  have hIs := fun (wq : World) (hb : Below w.heap.size w wq) => IsRoomsSpec_c wq v z x (stable_Rooms.below h hb)
  have hA := fun (hc : 2 ≤ x.1 ∧ x.1 ≤ 8) (wq : World) (hb : Below w.heap.size w wq) => l25Room_c wq v z x f (stable_Rooms.below h hb) hc
  have hB := fun (wq : World) (hb : Below w.heap.size w wq) => l25Open_c wq v vd z y x doors (stable_Rooms.below h hb) (stable_ints.below hd hb)
  obtain ⟨c, ds⟩ := x
  obtain ⟨u, rfl, hc, hrr⟩ := h
  simp only at hc hrr hIs hA hB ⊢
  obtain ⟨a, n, cap, rfl, -⟩ := SliceR.shape hrr
  cases hok : roomsOk c ds with
  | false =>
    have HH := Lib.hid (roomsCode_no (doors := doors) (rooms := [f]) hok)
    rw [hok] at hIs
    clear hok
    go_enter Try.func31, Try.ntmps31
    go_wp2_with fail
    generalize hw0 : World.alloc w _ = w0
    have hb0 : Below w.heap.size w w0 := by rw [← hw0]; exact (Below.refl _ _).alloc (Nat.le_refl _) _
    clear hw0
    refine Calls.mono (hIs _ hb0) ?_
    rintro e w1 ⟨r, rfl, rfl, b1⟩
    go_wp2_with fail
    go_ret
    exact ⟨_, rfl, congrArg (Value.int .i64) HH.out.symm, hb0.trans (b1.mono hb0.size)⟩
  | true =>
    have hcc := (roomsOk_sides hok).1
    replace hA := hA hcc
    rw [hok] at hIs
    generalize hpa : inB f 0 (c - 1) = pa at hA
    generalize hpb : rising doors (ds.length : Int) = pb at hB
    have HC : Hid (roomsCode c ds doors [f] = if (pa && pb) = true then 0 else 2) := Lib.hid (roomsCode_yes hok (by rw [allB_one]; exact hpa) hpb)
    clear hpa hpb hok
    have HA := Lib.hid hA; clear hA
    have HB := Lib.hid hB; clear hB
    go_enter Try.func31, Try.ntmps31
    go_wp2_with fail
    generalize hw0 : World.alloc w _ = w0
    have hb0 : Below w.heap.size w w0 := by rw [← hw0]; exact (Below.refl _ _).alloc (Nat.le_refl _) _
    have q0 : w0.cell? ⟨w.heap.size, 0, none⟩ = some (.int .i64 c) := by rw [← hw0]; simp
    have q1 : w0.cell? ⟨w.heap.size, 1, none⟩ = some (.slice a n cap) := by rw [← hw0]; simp
    have hsz : w.heap.size < w0.heap.size := by rw [← hw0]; simp
    clear hw0
    refine Calls.mono (hIs _ hb0) ?_
    rintro e w1 ⟨r, rfl, rfl, b1⟩
    replace q0 := (b1.cell (p := ⟨w.heap.size, 0, none⟩) hsz).trans q0
    replace q1 := (b1.cell (p := ⟨w.heap.size, 1, none⟩) hsz).trans q1
    have b1' := hb0.trans (b1.mono hb0.size)
    have hsz1 : w.heap.size < w1.heap.size := Nat.lt_of_lt_of_le hsz b1.size
    go_wp2_with fail
    refine Calls.mono (HA.out _ b1') ?_
    rintro e w2 ⟨r, rfl, rfl, b2⟩
    replace q0 := (b2.cell (p := ⟨w.heap.size, 0, none⟩) hsz1).trans q0
    replace q1 := (b2.cell (p := ⟨w.heap.size, 1, none⟩) hsz1).trans q1
    have b2' := b1'.trans (b2.mono b1'.size)
    cases pa with
    | false =>
      have HH : Hid (roomsCode c ds doors [f] = 2) := Lib.hid (HC.out.trans rfl)
      clear HC
      go_wp2_with fail
      go_ret
      exact ⟨_, rfl, congrArg (Value.int .i64) HH.out.symm, b2'⟩
    | true =>
      go_wp2_with fail
      refine Calls.mono (HB.out _ b2') ?_
      rintro e w3 ⟨r, rfl, rfl, b3⟩
      have b3' := b2'.trans (b3.mono b2'.size)
      cases pb with
      | false =>
        have HH : Hid (roomsCode c ds doors [f] = 2) := Lib.hid (HC.out.trans rfl)
        clear HC
        go_wp2_with fail
        go_ret
        exact ⟨_, rfl, congrArg (Value.int .i64) HH.out.symm, b3'⟩
      | true =>
        have HH : Hid (roomsCode c ds doors [f] = 0) := Lib.hid (HC.out.trans rfl)
        clear HC
        go_wp2_with fail
        go_ret
        exact ⟨_, rfl, congrArg (Value.int .i64) HH.out.symm, b3'⟩
end Go.Proofs.Ytbkijealdjghgaa
