/- Proved: for every plan of rooms, every two rooms and every list of doors, laws.FnExactDoorsToChange returns true and changes nothing that was there; no condition. -/
import Derived.Test.YtaogpbhgoeepbaaRows
import Derived.Deep.RegionHeld3
import Derived.Test.YtaogpbhgoeepbaaUOpen
import Derived.Test.YtaogpbhgoeepbaaUDoors
import Derived.Test.YtaogpbhgoeepbaaUMarkRooms
import Derived.Test.YtaogpbhgoeepbaaUMarkInts
namespace Go.Proofs.Ytaogpbhgoeepbaa
open Go.ChangeShapes Go.WideShapes Go.ChangeAt Go.RowKit
set_option linter.unusedVariables false
namespace fnExactDoorsToChange

set_option maxRecDepth 20000 in
set_option maxHeartbeats 2000000 in
theorem walk (w : World) (CR : Int) (hCR : I64 CR) (vR : Value) (R : List (List Int)) (hR : RowsR (.old w) w vR R) (f : Int) (hf : I64 f) (t : Int) (ht : I64 t) (vop : Value) (op : List Int) (hop : IntsR (.old w) w vop op) :
    Calls Try.prog 3 #[.agg #[.int .i64 CR, vR], .int .i64 f, .int .i64 t, vop] w (Ret w fun r _ => r = .bool true) := by
  obtain ⟨aR, nR, cR, rfl, shR, -⟩ := SliceR.shape hR
  clear shR
  obtain ⟨aop, nop, cop, rfl, shop, -⟩ := SliceR.shape hop
  have Hnop := Lib.hid shop; clear shop
  rcases Nat.lt_or_ge 1048576 nop with hlop | hlop
  · go_enter Try.func3, Try.ntmps3
    go_wp2_with fail
    go_ret
    exact ⟨_, rfl, rfl, (Below.refl _ _).alloc (Nat.le_refl _) _⟩
  have hlop : op.length ≤ 1048576 := by rw [← Hnop.out]; exact hlop
  have cS : ∀ (wq : World) (yR : Value) (zR : Zone) (yop : Value) (zop : Zone) (gR : RowsR zR wq yR R) (gop : IntsR zop wq yop op), Calls Try.prog 10 #[.agg #[.int .i64 CR, yR], .int .i64 f, .int .i64 t, yop] wq (Ret wq fun r w' => ∃ u0, r = .tuple #[u0, .int .i64 (doorsToChange (CR, R) f t op).2] ∧ IntsR (.new wq w') w' u0 (doorsToChange (CR, R) f t op).1) := fun wq yR zR yop zop gR gop => (fun w v z x h f hf t ht u y op h' => DoorsSpec_c w v u z y x f t hf op h h') wq (.agg #[.int .i64 CR, yR]) zR (CR, R) ⟨_, rfl, hCR, gR⟩ f hf t ht yop zop op gop
  have cI : ∀ (wq : World) (yR : Value) (zR : Zone) (yop : Value) (zop : Zone) (gR : RowsR zR wq yR R) (gop : IntsR zop wq yop op), Calls Try.prog 13 #[.agg #[.int .i64 CR, yR], .int .i64 f, .int .i64 t, yop] wq (Ret wq fun r w' => ∃ u0, r = .tuple #[u0, .int .i64 (doorsToChange (CR, R) f t op).2] ∧ IntsR (.new wq w') w' u0 (doorsToChange (CR, R) f t op).1) := fun wq yR zR yop zop gR gop => (fun w v z x h f hf t ht u y op h' => Doors_c w v u z y x f t hf ht op h h') wq (.agg #[.int .i64 CR, yR]) zR (CR, R) ⟨_, rfl, hCR, gR⟩ f hf t ht yop zop op gop
  have LR0 : (((doorsToChange (CR, R) f t op).1).length : Int) ≤ 1048576 := doors_length _ _ _ _
  generalize (doorsToChange (CR, R) f t op).1 = res0 at cS cI LR0
  generalize (doorsToChange (CR, R) f t op).2 = res1 at cS cI LR0
  have CS := Lib.hid cS; have CI := Lib.hid cI; clear cS cI
  go_enter Try.func3, Try.ntmps3
  go_wp2_with fail
  generalize hwb1 : World.alloc _ _ = w1
  have b1 : Below w.heap.size w w1 := by rw [← hwb1]; exact (Below.refl _ _).alloc (Nat.le_refl _) _
  have s1 : w.heap.size < w1.heap.size := by rw [← hwb1]; simp
  have q0R : w1.cell? ⟨w.heap.size, 0, none⟩ = some (.int .i64 CR) := by rw [← hwb1]; clear hwb1; go_simp
  have q1R : w1.cell? ⟨w.heap.size, 1, none⟩ = some (.slice aR nR cR) := by rw [← hwb1]; clear hwb1; go_simp
  clear hwb1
  have B1 : Below w.heap.size w w1 := b1
  have szR := szRoomsA_c w1 CR _ _ R 1048576 hCR (stable_rows.below hR B1) (by omega) (by omega)
  rcases Nat.lt_or_ge (1048576 : Int).toNat (bulk R) with hbR | hbR
  · rw [szLeft_neg (by omega)] at szR
    refine Calls.mono szR ?_
    rintro e wx ⟨r, rfl, rfl, bx⟩
    go_wp2_with fail
    go_ret
    exact ⟨_, rfl, rfl, B1.trans (bx.mono B1.size)⟩
  rw [szLeft_pos (by omega)] at szR
  have lbR : bulk R ≤ 1048576 := by omega
  have lgR : (0 : Int) ≤ 1048576 - (bulk R : Int) := by omega
  have lhR : 1048576 - (bulk R : Int) ≤ 1048576 := by omega
  generalize (1048576 : Int) - (bulk R : Int) = lR at *
  refine Calls.mono szR ?_
  rintro e w2 ⟨r, rfl, rfl, hd2⟩
  clear szR
  have b2 : Below w1.heap.size w1 w2 := hd2
  have B2 : Below w.heap.size w w2 := B1.trans (b2.mono B1.size)
  have s2 : w1.heap.size ≤ w2.heap.size := b2.size
  replace q0R := (b2.cell (p := ⟨w.heap.size, 0, none⟩) (by show w.heap.size < w1.heap.size; omega)).trans q0R
  replace q1R := (b2.cell (p := ⟨w.heap.size, 1, none⟩) (by show w.heap.size < w1.heap.size; omega)).trans q1R
  go_wp2_with fail
  refine Calls.mono (toRoomsA_c w2 CR _ _ R hCR (stable_rows.below hR B2) lbR) ?_
  rintro e w3 ⟨rvsR, rfl, ⟨usR, rfl, rsR⟩, bb3⟩
  have b3 : Below w2.heap.size w2 w3 := bb3
  have B3 : Below w.heap.size w w3 := B2.trans (b3.mono B2.size)
  have s3 : w2.heap.size ≤ w3.heap.size := b3.size
  replace q0R := (b3.cell (p := ⟨w.heap.size, 0, none⟩) (by show w.heap.size < w2.heap.size; omega)).trans q0R
  replace q1R := (b3.cell (p := ⟨w.heap.size, 1, none⟩) (by show w.heap.size < w2.heap.size; omega)).trans q1R
  obtain ⟨asR, nsR, ksR, rfl, -⟩ := SliceR.shape rsR
  go_wp2_with fail
  refine Calls.mono (toInt64S_c w3 _ _ op (stable_ints.below hop B3) hlop) ?_
  rintro e w4 ⟨usop, rfl, rsop, bb4⟩
  have b4 : Below w3.heap.size w3 w4 := bb4
  have B4 : Below w.heap.size w w4 := B3.trans (b4.mono B3.size)
  have s4 : w3.heap.size ≤ w4.heap.size := b4.size
  replace rsR := stable_rows.below rsR b4
  replace q0R := (b4.cell (p := ⟨w.heap.size, 0, none⟩) (by show w.heap.size < w3.heap.size; omega)).trans q0R
  replace q1R := (b4.cell (p := ⟨w.heap.size, 1, none⟩) (by show w.heap.size < w3.heap.size; omega)).trans q1R
  go_wp2_with fail
  refine Calls.mono (CS.out w4 _ _ _ _ rsR rsop) ?_
  rintro e w5 ⟨rr5, rfl, ⟨S0, rfl, rS0⟩, bb5⟩
  have b5 : Below w4.heap.size w4 w5 := bb5
  have B5 : Below w.heap.size w w5 := B4.trans (b5.mono B4.size)
  have s5 : w4.heap.size ≤ w5.heap.size := b5.size
  replace rsR := stable_rows.below rsR b5
  replace rsop := stable_ints.below rsop b5
  replace q0R := (b5.cell (p := ⟨w.heap.size, 0, none⟩) (by show w.heap.size < w4.heap.size; omega)).trans q0R
  replace q1R := (b5.cell (p := ⟨w.heap.size, 1, none⟩) (by show w.heap.size < w4.heap.size; omega)).trans q1R
  clear rsR
  clear rsop
  go_wp2_with fail
  refine Calls.mono (toRoomsA_c w5 CR _ _ R hCR (stable_rows.below hR B5) lbR) ?_
  rintro e w6 ⟨rvxR, rfl, ⟨uxR, rfl, rxR⟩, bb6⟩
  have b6 : Below w5.heap.size w5 w6 := bb6
  have B6 : Below w.heap.size w w6 := B5.trans (b6.mono B5.size)
  have s6 : w5.heap.size ≤ w6.heap.size := b6.size
  replace rS0 := stable_ints.below rS0 b6
  replace q0R := (b6.cell (p := ⟨w.heap.size, 0, none⟩) (by show w.heap.size < w5.heap.size; omega)).trans q0R
  replace q1R := (b6.cell (p := ⟨w.heap.size, 1, none⟩) (by show w.heap.size < w5.heap.size; omega)).trans q1R
  obtain ⟨axR, nxR, kxR, rfl, -⟩ := SliceR.shape rxR
  go_wp2_with fail
  generalize hwb7 : World.alloc _ _ = w7
  have b7 : Below w6.heap.size w6 w7 := by rw [← hwb7]; exact (Below.refl _ _).alloc (Nat.le_refl _) _
  have s7 : w6.heap.size < w7.heap.size := by rw [← hwb7]; simp
  have p0R : w7.cell? ⟨w6.heap.size, 0, none⟩ = some (.int .i64 CR) := by rw [← hwb7]; clear hwb7; go_simp
  have p1R : w7.cell? ⟨w6.heap.size, 1, none⟩ = some (.slice axR nxR kxR) := by rw [← hwb7]; clear hwb7; go_simp
  clear hwb7
  have B7 : Below w.heap.size w w7 := B6.trans (b7.mono B6.size)
  replace rS0 := stable_ints.below rS0 b7
  replace rxR := stable_rows.below rxR b7
  replace q0R := (b7.cell (p := ⟨w.heap.size, 0, none⟩) (by show w.heap.size < w6.heap.size; omega)).trans q0R
  replace q1R := (b7.cell (p := ⟨w.heap.size, 1, none⟩) (by show w.heap.size < w6.heap.size; omega)).trans q1R
  refine Calls.mono (toInt64S_c w7 _ _ op (stable_ints.below hop B7) hlop) ?_
  rintro e w8 ⟨uxop, rfl, rxop, bb8⟩
  have b8 : Below w7.heap.size w7 w8 := bb8
  have B8 : Below w.heap.size w w8 := B7.trans (b8.mono B7.size)
  have s8 : w7.heap.size ≤ w8.heap.size := b8.size
  replace rS0 := stable_ints.below rS0 b8
  replace rxR := stable_rows.below rxR b8
  replace q0R := (b8.cell (p := ⟨w.heap.size, 0, none⟩) (by show w.heap.size < w7.heap.size; omega)).trans q0R
  replace q1R := (b8.cell (p := ⟨w.heap.size, 1, none⟩) (by show w.heap.size < w7.heap.size; omega)).trans q1R
  replace p0R := (b8.cell (p := ⟨w6.heap.size, 0, none⟩) (by show w6.heap.size < w7.heap.size; omega)).trans p0R
  replace p1R := (b8.cell (p := ⟨w6.heap.size, 1, none⟩) (by show w6.heap.size < w7.heap.size; omega)).trans p1R
  go_wp2_with fail
  refine Calls.mono (CI.out w8 _ _ _ _ rxR rxop) ?_
  rintro e w9 ⟨rr9, rfl, ⟨G0, rfl, rG0⟩, bb9⟩
  have b9 : Below w8.heap.size w8 w9 := bb9
  have B9 : Below w.heap.size w w9 := B8.trans (b9.mono B8.size)
  have s9 : w8.heap.size ≤ w9.heap.size := b9.size
  replace rS0 := stable_ints.below rS0 b9
  replace rxR := stable_rows.below rxR b9
  replace rxop := stable_ints.below rxop b9
  replace q0R := (b9.cell (p := ⟨w.heap.size, 0, none⟩) (by show w.heap.size < w8.heap.size; omega)).trans q0R
  replace q1R := (b9.cell (p := ⟨w.heap.size, 1, none⟩) (by show w.heap.size < w8.heap.size; omega)).trans q1R
  replace p0R := (b9.cell (p := ⟨w6.heap.size, 0, none⟩) (by show w6.heap.size < w8.heap.size; omega)).trans p0R
  replace p1R := (b9.cell (p := ⟨w6.heap.size, 1, none⟩) (by show w6.heap.size < w8.heap.size; omega)).trans p1R
  go_wp2_with fail
  refine Calls.mono (Calls.vq (eqInt64S_c w9 _ _ _ _ res0 res0 rG0 rS0) (congrArg Value.bool (decide_eq_true rfl))) ?_
  rintro e w10 ⟨rfl, hd10⟩
  have b10 : Below w9.heap.size w9 w10 := hd10.below _
  have B10 : Below w.heap.size w w10 := B9.trans (b10.mono B9.size)
  have s10 : w9.heap.size ≤ w10.heap.size := b10.size
  replace rS0 := stable_ints.below rS0 b10
  replace rxR := stable_rows.below rxR b10
  replace rxop := stable_ints.below rxop b10
  replace rG0 := stable_ints.below rG0 b10
  replace q0R := (b10.cell (p := ⟨w.heap.size, 0, none⟩) (by show w.heap.size < w9.heap.size; omega)).trans q0R
  replace q1R := (b10.cell (p := ⟨w.heap.size, 1, none⟩) (by show w.heap.size < w9.heap.size; omega)).trans q1R
  replace p0R := (b10.cell (p := ⟨w6.heap.size, 0, none⟩) (by show w6.heap.size < w9.heap.size; omega)).trans p0R
  replace p1R := (b10.cell (p := ⟨w6.heap.size, 1, none⟩) (by show w6.heap.size < w9.heap.size; omega)).trans p1R
  have HK12 : Hid (∀ w', Below w10.heap.size w10 w' → w'.cell? ⟨w.heap.size, 0, none⟩ = some (.int .i64 CR) ∧ w'.cell? ⟨w.heap.size, 1, none⟩ = some (.slice aR nR cR) ∧ w'.cell? ⟨w6.heap.size, 0, none⟩ = some (.int .i64 CR) ∧ w'.cell? ⟨w6.heap.size, 1, none⟩ = some (.slice axR nxR kxR)) := fun w' hb => ⟨(hb.cell (by show w.heap.size < w10.heap.size; omega)).trans q0R, (hb.cell (by show w.heap.size < w10.heap.size; omega)).trans q1R, (hb.cell (by show w6.heap.size < w10.heap.size; omega)).trans p0R, (hb.cell (by show w6.heap.size < w10.heap.size; omega)).trans p1R⟩
  have HF12 := Lib.hid (stable_rows.below hR B10)
  have HX12 := Lib.hid rxR
  go_wp2_with fail
  go_region_held3 (fun w' => w'.cell? ⟨w.heap.size, 0, none⟩ = some (.int .i64 CR) ∧ w'.cell? ⟨w.heap.size, 1, none⟩ = some (.slice aR nR cR) ∧ w'.cell? ⟨w6.heap.size, 0, none⟩ = some (.int .i64 CR) ∧ w'.cell? ⟨w6.heap.size, 1, none⟩ = some (.slice axR nxR kxR)) (first | exact HK12.out _ (Below.refl _ _).drew | exact HK12.out _ ((Below.refl _ _).drew.trans bA12) | exact HK12.out _ (((Below.refl _ _).drew.trans bA12).trans (bB12.mono bA12.size)))
    (first | (go_at_call 11; refine (toRoomsA_c _ _ _ _ R hCR (stable_rows.below HF12.out (Below.refl _ _).drew) lbR).mono ?_; rintro e wA12 ⟨rv, rfl, ⟨uA12, rfl, rA12⟩, bA12⟩) | (go_at_call 15; refine (eqRoomsA_c _ _ _ _ _ _ R hCR (stable_rows.below HX12.out ((Below.refl _ _).drew.trans bA12)) rA12).mono ?_; rintro e w12 ⟨rv, rfl, rfl, bB12⟩))
  clear HK12 HF12 HX12
  have b12 : Below w10.heap.size w10 w12 := (((Below.refl _ _).drew.trans bA12).trans (bB12.mono bA12.size))
  have B12 : Below w.heap.size w w12 := B10.trans (b12.mono B10.size)
  have s12 : w10.heap.size ≤ w12.heap.size := b12.size
  replace rS0 := stable_ints.below rS0 b12
  replace rxR := stable_rows.below rxR b12
  replace rxop := stable_ints.below rxop b12
  replace rG0 := stable_ints.below rG0 b12
  replace q0R := (b12.cell (p := ⟨w.heap.size, 0, none⟩) (by show w.heap.size < w10.heap.size; omega)).trans q0R
  replace q1R := (b12.cell (p := ⟨w.heap.size, 1, none⟩) (by show w.heap.size < w10.heap.size; omega)).trans q1R
  replace p0R := (b12.cell (p := ⟨w6.heap.size, 0, none⟩) (by show w6.heap.size < w10.heap.size; omega)).trans p0R
  replace p1R := (b12.cell (p := ⟨w6.heap.size, 1, none⟩) (by show w6.heap.size < w10.heap.size; omega)).trans p1R
  go_wp2_with fail
  refine Calls.mono (toInt64S_c w12 _ _ op (stable_ints.below hop B12) hlop) ?_
  rintro e w13 ⟨ucop, rfl, rcop, bb13⟩
  have b13 : Below w12.heap.size w12 w13 := bb13
  have B13 : Below w.heap.size w w13 := B12.trans (b13.mono B12.size)
  have s13 : w12.heap.size ≤ w13.heap.size := b13.size
  replace rS0 := stable_ints.below rS0 b13
  replace rxR := stable_rows.below rxR b13
  replace rxop := stable_ints.below rxop b13
  replace rG0 := stable_ints.below rG0 b13
  replace q0R := (b13.cell (p := ⟨w.heap.size, 0, none⟩) (by show w.heap.size < w12.heap.size; omega)).trans q0R
  replace q1R := (b13.cell (p := ⟨w.heap.size, 1, none⟩) (by show w.heap.size < w12.heap.size; omega)).trans q1R
  replace p0R := (b13.cell (p := ⟨w6.heap.size, 0, none⟩) (by show w6.heap.size < w12.heap.size; omega)).trans p0R
  replace p1R := (b13.cell (p := ⟨w6.heap.size, 1, none⟩) (by show w6.heap.size < w12.heap.size; omega)).trans p1R
  go_wp2_with fail
  refine Calls.mono (Calls.vq (eqInt64S_c w13 _ _ _ _ op op rxop rcop) (congrArg Value.bool (decide_eq_true rfl))) ?_
  rintro e w14 ⟨rfl, hd14⟩
  have b14 : Below w13.heap.size w13 w14 := hd14.below _
  have B14 : Below w.heap.size w w14 := B13.trans (b14.mono B13.size)
  have s14 : w13.heap.size ≤ w14.heap.size := b14.size
  replace rS0 := stable_ints.below rS0 b14
  replace rxR := stable_rows.below rxR b14
  replace rxop := stable_ints.below rxop b14
  replace rG0 := stable_ints.below rG0 b14
  replace rcop := stable_ints.below rcop b14
  replace q0R := (b14.cell (p := ⟨w.heap.size, 0, none⟩) (by show w.heap.size < w13.heap.size; omega)).trans q0R
  replace q1R := (b14.cell (p := ⟨w.heap.size, 1, none⟩) (by show w.heap.size < w13.heap.size; omega)).trans q1R
  replace p0R := (b14.cell (p := ⟨w6.heap.size, 0, none⟩) (by show w6.heap.size < w13.heap.size; omega)).trans p0R
  replace p1R := (b14.cell (p := ⟨w6.heap.size, 1, none⟩) (by show w6.heap.size < w13.heap.size; omega)).trans p1R
  clear rcop
  have ofR : offs R R.length ≤ 1048576 := by have := offs_all R; omega
  go_wp2_with fail
  refine Calls.mono (markRooms_c w14 _ _ _ R _ rxR rfl (by omega) (by omega)) ?_
  rintro e w15 ⟨rfl, rmxR, wm15, hb15, hw15⟩
  have hz15 : w15.heap.size = wm15.heap.size := hw15.size
  have hy15 : w14.heap.size ≤ wm15.heap.size := hb15.size
  have B15 : Below w.heap.size w w15 := (B14.trans (hb15.mono B14.size)).trans (hw15.below (by simp only [Zone.new]; omega))
  clear rxR
  replace rS0 := stable_ints.within (stable_ints.below rS0 hb15) hw15 (fun k h1 h2 => by have q1 := h1.1; have q2 := h1.2; have q3 := h2.1; have q4 := h2.2; simp only [Zone.new] at q1 q2 q3 q4; omega)
  replace rxop := stable_ints.within (stable_ints.below rxop hb15) hw15 (fun k h1 h2 => by have q1 := h1.1; have q2 := h1.2; have q3 := h2.1; have q4 := h2.2; simp only [Zone.new] at q1 q2 q3 q4; omega)
  replace rG0 := stable_ints.within (stable_ints.below rG0 hb15) hw15 (fun k h1 h2 => by have q1 := h1.1; have q2 := h1.2; have q3 := h2.1; have q4 := h2.2; simp only [Zone.new] at q1 q2 q3 q4; omega)
  clear p0R
  clear p1R
  replace q0R := (hw15.cell (p := ⟨w.heap.size, 0, none⟩) (fun h => by have q1 := h.1; simp only [Zone.new] at q1; omega)).trans ((hb15.cell (p := ⟨w.heap.size, 0, none⟩) (by show w.heap.size < w14.heap.size; omega)).trans q0R)
  replace q1R := (hw15.cell (p := ⟨w.heap.size, 1, none⟩) (fun h => by have q1 := h.1; simp only [Zone.new] at q1; omega)).trans ((hb15.cell (p := ⟨w.heap.size, 1, none⟩) (by show w.heap.size < w14.heap.size; omega)).trans q1R)
  have s15 : w14.heap.size ≤ w15.heap.size := by omega
  clear hw15 hb15
  clear rmxR
  have ck1 : (0 : Int) ≤ 1 + (offs R R.length : Int) ∧ 1 + (offs R R.length : Int) ≤ 1048577 := by omega
  obtain ⟨ck1a, ck1b⟩ := ck1
  generalize (1 : Int) + (offs R R.length : Int) = k1 at *
  go_wp2_with fail
  refine Calls.mono (markInt64S_c w15 _ _ op _ rxop rfl (by omega) (by omega)) ?_
  rintro e w16 ⟨rfl, rmxop, hw16⟩
  have hz16 : w16.heap.size = w15.heap.size := hw16.size
  have B16 : Below w.heap.size w w16 := B15.trans (hw16.below (by simp only [Zone.new]; omega))
  clear rxop
  replace rS0 := stable_ints.within rS0 hw16 (fun k h1 h2 => by have q1 := h1.1; have q2 := h1.2; have q3 := h2.1; have q4 := h2.2; simp only [Zone.new] at q1 q2 q3 q4; omega)
  replace rG0 := stable_ints.within rG0 hw16 (fun k h1 h2 => by have q1 := h1.1; have q2 := h1.2; have q3 := h2.1; have q4 := h2.2; simp only [Zone.new] at q1 q2 q3 q4; omega)
  replace q0R := (hw16.cell (p := ⟨w.heap.size, 0, none⟩) (fun h => by have q1 := h.1; simp only [Zone.new] at q1; omega)).trans q0R
  replace q1R := (hw16.cell (p := ⟨w.heap.size, 1, none⟩) (fun h => by have q1 := h.1; simp only [Zone.new] at q1; omega)).trans q1R
  have s16 : w15.heap.size ≤ w16.heap.size := by omega
  clear hw16
  clear rmxop
  have ck2 : (0 : Int) ≤ k1 + (op.length : Int) ∧ k1 + (op.length : Int) ≤ 2097153 := by omega
  obtain ⟨ck2a, ck2b⟩ := ck2
  generalize (k1 : Int) + (op.length : Int) = k2 at *
  go_wp2_with fail
  refine Calls.mono (Calls.vq (eqInt64S_c w16 _ _ _ _ res0 res0 rG0 rS0) (congrArg Value.bool (decide_eq_true rfl))) ?_
  rintro e w17 ⟨rfl, hd17⟩
  have b17 : Below w16.heap.size w16 w17 := hd17.below _
  have B17 : Below w.heap.size w w17 := B16.trans (b17.mono B16.size)
  have s17 : w16.heap.size ≤ w17.heap.size := b17.size
  replace rS0 := stable_ints.below rS0 b17
  replace rG0 := stable_ints.below rG0 b17
  replace q0R := (b17.cell (p := ⟨w.heap.size, 0, none⟩) (by show w.heap.size < w16.heap.size; omega)).trans q0R
  replace q1R := (b17.cell (p := ⟨w.heap.size, 1, none⟩) (by show w.heap.size < w16.heap.size; omega)).trans q1R
  go_wp2_with fail
  refine Calls.mono (markInt64S_c w17 _ _ res0 _ rG0 rfl (by omega) (by omega)) ?_
  rintro e w18 ⟨rfl, rmG0, hw18⟩
  have hz18 : w18.heap.size = w17.heap.size := hw18.size
  have B18 : Below w.heap.size w w18 := B17.trans (hw18.below (by simp only [Zone.new]; omega))
  clear rG0
  replace rS0 := stable_ints.within rS0 hw18 (fun k h1 h2 => by have q1 := h1.1; have q2 := h1.2; have q3 := h2.1; have q4 := h2.2; simp only [Zone.new] at q1 q2 q3 q4; omega)
  replace q0R := (hw18.cell (p := ⟨w.heap.size, 0, none⟩) (fun h => by have q1 := h.1; simp only [Zone.new] at q1; omega)).trans q0R
  replace q1R := (hw18.cell (p := ⟨w.heap.size, 1, none⟩) (fun h => by have q1 := h.1; simp only [Zone.new] at q1; omega)).trans q1R
  have s18 : w17.heap.size ≤ w18.heap.size := by omega
  clear hw18
  obtain ⟨m1, em1⟩ : ∃ t : Int, t = 1 + (res0.length : Int) := ⟨_, rfl⟩
  rw [← em1]
  have gm1a : 0 ≤ m1 ∧ m1 ≤ 1048577 := by omega
  have Em1 := Lib.hid em1; clear em1; obtain ⟨gm1a, gm1b⟩ := gm1a
  go_wp2_with fail
  refine Calls.mono (Calls.vq (heldInt64S_c w18 _ _ res0.length _ rmG0 (by omega) (by have := Em1.out; omega)) (congrArg (Value.int .i64) Em1.out.symm)) ?_
  rintro e w19 ⟨rfl, hd19⟩
  have b19 : Below w18.heap.size w18 w19 := hd19.below _
  have B19 : Below w.heap.size w w19 := B18.trans (b19.mono B18.size)
  have s19 : w18.heap.size ≤ w19.heap.size := b19.size
  replace rS0 := stable_ints.below rS0 b19
  replace rmG0 := stable_ints.below rmG0 b19
  replace q0R := (b19.cell (p := ⟨w.heap.size, 0, none⟩) (by show w.heap.size < w18.heap.size; omega)).trans q0R
  replace q1R := (b19.cell (p := ⟨w.heap.size, 1, none⟩) (by show w.heap.size < w18.heap.size; omega)).trans q1R
  go_wp2_with fail
  refine Calls.mono (toRoomsA_c w19 CR _ _ R hCR (stable_rows.below hR B19) lbR) ?_
  rintro e w20 ⟨rvyR, rfl, ⟨uyR, rfl, ryR⟩, bb20⟩
  have b20 : Below w19.heap.size w19 w20 := bb20
  have B20 : Below w.heap.size w w20 := B19.trans (b20.mono B19.size)
  have s20 : w19.heap.size ≤ w20.heap.size := b20.size
  replace rS0 := stable_ints.below rS0 b20
  replace rmG0 := stable_ints.below rmG0 b20
  replace q0R := (b20.cell (p := ⟨w.heap.size, 0, none⟩) (by show w.heap.size < w19.heap.size; omega)).trans q0R
  replace q1R := (b20.cell (p := ⟨w.heap.size, 1, none⟩) (by show w.heap.size < w19.heap.size; omega)).trans q1R
  obtain ⟨ayR, nyR, kyR, rfl, -⟩ := SliceR.shape ryR
  go_wp2_with fail
  refine Calls.mono (toInt64S_c w20 _ _ op (stable_ints.below hop B20) hlop) ?_
  rintro e w21 ⟨uyop, rfl, ryop, bb21⟩
  have b21 : Below w20.heap.size w20 w21 := bb21
  have B21 : Below w.heap.size w w21 := B20.trans (b21.mono B20.size)
  have s21 : w20.heap.size ≤ w21.heap.size := b21.size
  replace rS0 := stable_ints.below rS0 b21
  replace rmG0 := stable_ints.below rmG0 b21
  replace ryR := stable_rows.below ryR b21
  replace q0R := (b21.cell (p := ⟨w.heap.size, 0, none⟩) (by show w.heap.size < w20.heap.size; omega)).trans q0R
  replace q1R := (b21.cell (p := ⟨w.heap.size, 1, none⟩) (by show w.heap.size < w20.heap.size; omega)).trans q1R
  go_wp2_with fail
  refine Calls.mono (CI.out w21 _ _ _ _ ryR ryop) ?_
  rintro e w22 ⟨rr22, rfl, ⟨H0, rfl, rH0⟩, bb22⟩
  have b22 : Below w21.heap.size w21 w22 := bb22
  have B22 : Below w.heap.size w w22 := B21.trans (b22.mono B21.size)
  have s22 : w21.heap.size ≤ w22.heap.size := b22.size
  replace rS0 := stable_ints.below rS0 b22
  replace rmG0 := stable_ints.below rmG0 b22
  replace ryR := stable_rows.below ryR b22
  replace ryop := stable_ints.below ryop b22
  replace q0R := (b22.cell (p := ⟨w.heap.size, 0, none⟩) (by show w.heap.size < w21.heap.size; omega)).trans q0R
  replace q1R := (b22.cell (p := ⟨w.heap.size, 1, none⟩) (by show w.heap.size < w21.heap.size; omega)).trans q1R
  clear ryR
  clear ryop
  go_wp2_with fail
  refine Calls.mono (Calls.vq (eqInt64S_c w22 _ _ _ _ res0 res0 rH0 rS0) (congrArg Value.bool (decide_eq_true rfl))) ?_
  rintro e w23 ⟨rfl, hd23⟩
  have b23 : Below w22.heap.size w22 w23 := hd23.below _
  have B23 : Below w.heap.size w w23 := B22.trans (b23.mono B22.size)
  have s23 : w22.heap.size ≤ w23.heap.size := b23.size
  replace rS0 := stable_ints.below rS0 b23
  replace rmG0 := stable_ints.below rmG0 b23
  replace rH0 := stable_ints.below rH0 b23
  replace q0R := (b23.cell (p := ⟨w.heap.size, 0, none⟩) (by show w.heap.size < w22.heap.size; omega)).trans q0R
  replace q1R := (b23.cell (p := ⟨w.heap.size, 1, none⟩) (by show w.heap.size < w22.heap.size; omega)).trans q1R
  go_wp2_with fail
  refine Calls.mono (Calls.vq (heldInt64S_c w23 _ _ res0.length _ rmG0 (by omega) (by have := Em1.out; omega)) (congrArg (Value.int .i64) Em1.out.symm)) ?_
  rintro e w24 ⟨rfl, hd24⟩
  have b24 : Below w23.heap.size w23 w24 := hd24.below _
  have B24 : Below w.heap.size w w24 := B23.trans (b24.mono B23.size)
  have s24 : w23.heap.size ≤ w24.heap.size := b24.size
  replace rS0 := stable_ints.below rS0 b24
  replace rmG0 := stable_ints.below rmG0 b24
  replace rH0 := stable_ints.below rH0 b24
  replace q0R := (b24.cell (p := ⟨w.heap.size, 0, none⟩) (by show w.heap.size < w23.heap.size; omega)).trans q0R
  replace q1R := (b24.cell (p := ⟨w.heap.size, 1, none⟩) (by show w.heap.size < w23.heap.size; omega)).trans q1R
  go_wp2_with fail
  go_ret
  exact ⟨_, rfl, rfl, B24⟩


/-! ### the row -/
theorem own : ownKnob Try.prog.godebug = none := by kernel_rfl
theorem laidOut : laidOutB Try.prog = true := by kernel_rfl
set_option maxRecDepth 100000 in
theorem lifted (os : Os) (started : os.Started) (H : Type) (enc : TypeId × Value → H) :
    ReturnsInHanded {} Try.checked os 3 .any (Rows.fnExactDoorsToChangeSpec.pre6 enc Try.prog Try.f3 Rows.fnExactDoorsToChangeRow.domain false) (Rows.fnExactDoorsToChangeSpec.post enc Try.prog Try.f3 false true false false) := by
  refine returnsInHanded_of_change (C := Try.checked) own started (by kernel_rfl) Try.func3
    (ChangeSpec.witness6 (enc := enc) (C := Try.checked) false ⟨#[], #[.agg #[.int .i64 0, .slice none 0 0], .int .i64 0, .int .i64 0, .slice none 0 0], []⟩ 8 (by kernel_rfl) (by kernel_rfl) (by kernel_rfl) (by kernel_rfl)) ?_
  intro W base args ds gs before hval0 hW hcnd _
  have hval : ∀ (j : Nat) t v, Try.f3.params[j]? = some t → args[j]? = some v → Value.okWide Try.prog W .any base t v := hval0
  have hW' := hW
  obtain ⟨p, q, hA0, hV, rfl, hfz, hnd⟩ := hW
  have hA : DataW.TrodAll enc Try.prog W 0 (fun _ => true) true Try.f3.params.toList args.toList ds p := hA0
  rw [Try.params3] at hA hval
  obtain ⟨v0, vs0, d0, ds0, p0, q0, hargs, rfl, rfl, h0, r0⟩ := trodAll_cons hA
  obtain ⟨v1, vs1, d1, ds1, p1, q1, rfl, rfl, rfl, h1, r1⟩ := trodAll_cons r0
  obtain ⟨v2, vs2, d2, ds2, p2, q2, rfl, rfl, rfl, h2, r2⟩ := trodAll_cons r1
  obtain ⟨v3, vs3, d3, ds3, p3, q3, rfl, rfl, rfl, h3, r3⟩ := trodAll_cons r2
  obtain ⟨rfl, rfl, rfl⟩ := trodAll_nil r3
  obtain rfl : args = #[v0, v1, v2, v3] := by cases args; simp_all
  obtain ⟨rfl, rfl⟩ := trodVars_none hV
  have k0 := h0
  have lt0 : ∀ x ∈ p0, x.block < W.heap.size := by obtain ⟨m, hm⟩ := k0; exact DataW.trod_lt m _ _ _ hm
  obtain ⟨c0, u0, y0, z0, m0, rfl, -, -, hc0, hu0⟩ := Joins.open_agg2 Try.underlying24 (by kernel_rfl) (by kernel_rfl) (hval 0 24 v0 rfl rfl) h0
  obtain ⟨a0, rfl, w0⟩ := open_I64 Try.underlying2 hc0
  obtain ⟨x0, b0⟩ := open_RowsR Try.underlying22 Try.underlying25 Try.underlying2 (by kernel_rfl) (by kernel_rfl) hu0
  have k1 := h1
  have lt1 : ∀ x ∈ p1, x.block < W.heap.size := by obtain ⟨m, hm⟩ := k1; exact DataW.trod_lt m _ _ _ hm
  obtain ⟨a1, rfl, -, -, g1⟩ := open_int Try.underlying2 (hval 1 2 v1 rfl rfl) h1
  have w1 := wf_i64 g1
  have k2 := h2
  have lt2 : ∀ x ∈ p2, x.block < W.heap.size := by obtain ⟨m, hm⟩ := k2; exact DataW.trod_lt m _ _ _ hm
  obtain ⟨a2, rfl, -, -, g2⟩ := open_int Try.underlying2 (hval 2 2 v2 rfl rfl) h2
  have w2 := wf_i64 g2
  have k3 := h3
  have lt3 : ∀ x ∈ p3, x.block < W.heap.size := by obtain ⟨m, hm⟩ := k3; exact DataW.trod_lt m _ _ _ hm
  obtain ⟨a3, len3, cap3, rfl⟩ := okWide_slice Try.underlying25 (hval 3 25 v3 rfl rfl)
  obtain ⟨x3, w3⟩ : ∃ xs, IntsR (.old W) W (.slice a3 len3 cap3) xs := by obtain ⟨fuel, hf⟩ := h3; exact open_IntsR Try.underlying25 Try.underlying2 (by kernel_rfl) hf
  clear hA0 hval0
  refine (walk W a0 w0 _ x0 b0 a1 w1 a2 w2 _ x3 w3).mono fun e W' hret => ?_
  obtain ⟨r, rfl, rfl, bel⟩ := hret
  exact ⟨_, rfl, _, _, _, [], _, [], hW', trodAll_mk1 (shut_bool Try.underlying4 _), (trodAll_cons_mk (Below.trod laidOut (by kernel_rfl) (of_decide_eq_true (by kernel_rfl)) k0 bel lt0) (trodAll_cons_mk (Below.trod laidOut (by kernel_rfl) (of_decide_eq_true (by kernel_rfl)) k1 bel lt1) (trodAll_cons_mk (Below.trod laidOut (by kernel_rfl) (of_decide_eq_true (by kernel_rfl)) k2 bel lt2) (trodAll_cons_mk (Below.trod laidOut (by kernel_rfl) (of_decide_eq_true (by kernel_rfl)) k3 bel lt3) trodAll_mk0)))), rfl, bel.frame _, fun h => by cases h⟩

theorem over : Rows.fnExactDoorsToChangeRow.holds Try.pinned (OpenSpec.ofChange Rows.fnExactDoorsToChangeSpec) :=
  OpenClaim.holds_of_wide 3 Try.f3 rfl rfl rfl rfl rfl rfl rfl ⟨rfl, rfl, rfl, rfl, rfl⟩ rfl rfl rfl rfl rfl (by kernel_rfl) Try.func3 (by kernel_rfl)
    (of_decide_eq_true (by kernel_rfl)) (by unfold Func.isWrapper; first | (rw [if_pos (by decide +kernel)]; kernel_rfl) | (rw [if_neg (by decide +kernel)]; exact ⟨rfl, rfl⟩))
    (fun os started H enc _ => lifted os started H enc)

theorem proved : Rows.FnExactDoorsToChangeSaid := over


end fnExactDoorsToChange
end Go.Proofs.Ytaogpbhgoeepbaa
