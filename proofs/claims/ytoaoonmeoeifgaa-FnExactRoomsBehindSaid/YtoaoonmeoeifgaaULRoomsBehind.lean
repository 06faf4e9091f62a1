/- Proved: for every plan of rooms, every room and every door, laws.FnExactRoomsBehind returns true and changes nothing that was there; no condition. -/
import Derived.Test.YtoaoonmeoeifgaaRows
import Derived.Deep.RegionHeld3
import Derived.Test.YtoaoonmeoeifgaaUOpen
import Derived.Test.YtoaoonmeoeifgaaUBehindSpec
import Derived.Test.YtoaoonmeoeifgaaUBehindImpl
import Derived.Test.YtoaoonmeoeifgaaUMarkRooms
namespace Go.Proofs.Ytoaoonmeoeifgaa
open Go.ChangeShapes Go.WideShapes Go.ChangeAt Go.RowKit
set_option linter.unusedVariables false
namespace fnExactRoomsBehind

set_option maxRecDepth 20000 in
set_option maxHeartbeats 2000000 in
theorem walk (w : World) (CR : Int) (hCR : I64 CR) (vR : Value) (R : List (List Int)) (hR : RowsR (.old w) w vR R) (f : Int) (hf : I64 f) (d : Int) (hd : I64 d) :
    Calls Try.prog 8 #[.agg #[.int .i64 CR, vR], .int .i64 f, .int .i64 d] w (Ret w fun r _ => r = .bool true) := by
  obtain ⟨aR, nR, cR, rfl, shR, -⟩ := SliceR.shape hR
  clear shR
  have cS : ∀ (wq : World) (yR : Value) (zR : Zone) (gR : RowsR zR wq yR R), Calls Try.prog 37 #[.agg #[.int .i64 CR, yR], .int .i64 f, .int .i64 d] wq (Ret wq fun r w' => ∃ u0, r = .tuple #[u0, .int .i64 (roomsBehind (CR, R) f d).2] ∧ IntsR (.new wq w') w' u0 (roomsBehind (CR, R) f d).1) := fun wq yR zR gR => (fun w v z x h f hf d hd => RoomsBehindSpec_c w v z x f d hd h) wq (.agg #[.int .i64 CR, yR]) zR (CR, R) ⟨_, rfl, hCR, gR⟩ f hf d hd
  have cI : ∀ (wq : World) (yR : Value) (zR : Zone) (gR : RowsR zR wq yR R), Calls Try.prog 38 #[.agg #[.int .i64 CR, yR], .int .i64 f, .int .i64 d] wq (Ret wq fun r w' => ∃ u0, r = .tuple #[u0, .int .i64 (roomsBehind (CR, R) f d).2] ∧ IntsR (.new wq w') w' u0 (roomsBehind (CR, R) f d).1) := fun wq yR zR gR => (fun w v z x h f hf d hd => RoomsBehind_c w v z x f d hf hd h) wq (.agg #[.int .i64 CR, yR]) zR (CR, R) ⟨_, rfl, hCR, gR⟩ f hf d hd
  have LR0 : (((roomsBehind (CR, R) f d).1).length : Int) ≤ 1048576 := roomsBehind_length _ _ _
  generalize (roomsBehind (CR, R) f d).1 = res0 at cS cI LR0
  generalize (roomsBehind (CR, R) f d).2 = res1 at cS cI LR0
  have CS := Lib.hid cS; have CI := Lib.hid cI; clear cS cI
  go_enter Try.func8, Try.ntmps8
  go_wp2_with fail
  generalize hwb1 : World.alloc _ _ = w1
  have b1 : Below w.heap.size w w1 := by rw [← hwb1]; exact (Below.refl _ _).alloc (Nat.le_refl _) _
  have s1 : w.heap.size < w1.heap.size := by rw [← hwb1]; simp
  have q0R : w1.cell? ⟨w.heap.size, 0, none⟩ = some (.int .i64 CR) := by rw [← hwb1]; clear hwb1; go_simp
  have q1R : w1.cell? ⟨w.heap.size, 1, none⟩ = some (.slice aR nR cR) := by rw [← hwb1]; clear hwb1; go_simp
  clear hwb1
  have B1 : Below w.heap.size w w1 := b1
  have szR := szRoomsA_c w1 CR _ _ R 1048576 hCR (stable_rows.below hR B1) (by omega) (by omega)
  rcases Nat.lt_or_ge (1048576 : Int).toNat (bulk R) with hbR | hbR
  · rw [szLeft_neg (by omega)] at szR
    refine Calls.mono szR ?_
    rintro e wx ⟨r, rfl, rfl, bx⟩
    go_wp2_with fail
    go_ret
    exact ⟨_, rfl, rfl, B1.trans (bx.mono B1.size)⟩
  rw [szLeft_pos (by omega)] at szR
  have lbR : bulk R ≤ 1048576 := by omega
  have lgR : (0 : Int) ≤ 1048576 - (bulk R : Int) := by omega
  have lhR : 1048576 - (bulk R : Int) ≤ 1048576 := by omega
  generalize (1048576 : Int) - (bulk R : Int) = lR at *
  refine Calls.mono szR ?_
  rintro e w2 ⟨r, rfl, rfl, hd2⟩
  clear szR
  have b2 : Below w1.heap.size w1 w2 := hd2
  have B2 : Below w.heap.size w w2 := B1.trans (b2.mono B1.size)
  have s2 : w1.heap.size ≤ w2.heap.size := b2.size
  replace q0R := (b2.cell (p := ⟨w.heap.size, 0, none⟩) (by show w.heap.size < w1.heap.size; omega)).trans q0R
  replace q1R := (b2.cell (p := ⟨w.heap.size, 1, none⟩) (by show w.heap.size < w1.heap.size; omega)).trans q1R
  go_wp2_with fail
  refine Calls.mono (toRoomsA_c w2 CR _ _ R hCR (stable_rows.below hR B2) lbR) ?_
  rintro e w3 ⟨rvsR, rfl, ⟨usR, rfl, rsR⟩, bb3⟩
  have b3 : Below w2.heap.size w2 w3 := bb3
  have B3 : Below w.heap.size w w3 := B2.trans (b3.mono B2.size)
  have s3 : w2.heap.size ≤ w3.heap.size := b3.size
  replace q0R := (b3.cell (p := ⟨w.heap.size, 0, none⟩) (by show w.heap.size < w2.heap.size; omega)).trans q0R
  replace q1R := (b3.cell (p := ⟨w.heap.size, 1, none⟩) (by show w.heap.size < w2.heap.size; omega)).trans q1R
  obtain ⟨asR, nsR, ksR, rfl, -⟩ := SliceR.shape rsR
  go_wp2_with fail
  refine Calls.mono (CS.out w3 _ _ rsR) ?_
  rintro e w4 ⟨rr4, rfl, ⟨S0, rfl, rS0⟩, bb4⟩
  have b4 : Below w3.heap.size w3 w4 := bb4
  have B4 : Below w.heap.size w w4 := B3.trans (b4.mono B3.size)
  have s4 : w3.heap.size ≤ w4.heap.size := b4.size
  replace rsR := stable_rows.below rsR b4
  replace q0R := (b4.cell (p := ⟨w.heap.size, 0, none⟩) (by show w.heap.size < w3.heap.size; omega)).trans q0R
  replace q1R := (b4.cell (p := ⟨w.heap.size, 1, none⟩) (by show w.heap.size < w3.heap.size; omega)).trans q1R
  clear rsR
  go_wp2_with fail
  refine Calls.mono (toRoomsA_c w4 CR _ _ R hCR (stable_rows.below hR B4) lbR) ?_
  rintro e w5 ⟨rvxR, rfl, ⟨uxR, rfl, rxR⟩, bb5⟩
  have b5 : Below w4.heap.size w4 w5 := bb5
  have B5 : Below w.heap.size w w5 := B4.trans (b5.mono B4.size)
  have s5 : w4.heap.size ≤ w5.heap.size := b5.size
  replace rS0 := stable_ints.below rS0 b5
  replace q0R := (b5.cell (p := ⟨w.heap.size, 0, none⟩) (by show w.heap.size < w4.heap.size; omega)).trans q0R
  replace q1R := (b5.cell (p := ⟨w.heap.size, 1, none⟩) (by show w.heap.size < w4.heap.size; omega)).trans q1R
  obtain ⟨axR, nxR, kxR, rfl, -⟩ := SliceR.shape rxR
  go_wp2_with fail
  generalize hwb6 : World.alloc _ _ = w6
  have b6 : Below w5.heap.size w5 w6 := by rw [← hwb6]; exact (Below.refl _ _).alloc (Nat.le_refl _) _
  have s6 : w5.heap.size < w6.heap.size := by rw [← hwb6]; simp
  have p0R : w6.cell? ⟨w5.heap.size, 0, none⟩ = some (.int .i64 CR) := by rw [← hwb6]; clear hwb6; go_simp
  have p1R : w6.cell? ⟨w5.heap.size, 1, none⟩ = some (.slice axR nxR kxR) := by rw [← hwb6]; clear hwb6; go_simp
  clear hwb6
  have B6 : Below w.heap.size w w6 := B5.trans (b6.mono B5.size)
  replace rS0 := stable_ints.below rS0 b6
  replace rxR := stable_rows.below rxR b6
  replace q0R := (b6.cell (p := ⟨w.heap.size, 0, none⟩) (by show w.heap.size < w5.heap.size; omega)).trans q0R
  replace q1R := (b6.cell (p := ⟨w.heap.size, 1, none⟩) (by show w.heap.size < w5.heap.size; omega)).trans q1R
  refine Calls.mono (CI.out w6 _ _ rxR) ?_
  rintro e w7 ⟨rr7, rfl, ⟨G0, rfl, rG0⟩, bb7⟩
  have b7 : Below w6.heap.size w6 w7 := bb7
  have B7 : Below w.heap.size w w7 := B6.trans (b7.mono B6.size)
  have s7 : w6.heap.size ≤ w7.heap.size := b7.size
  replace rS0 := stable_ints.below rS0 b7
  replace rxR := stable_rows.below rxR b7
  replace q0R := (b7.cell (p := ⟨w.heap.size, 0, none⟩) (by show w.heap.size < w6.heap.size; omega)).trans q0R
  replace q1R := (b7.cell (p := ⟨w.heap.size, 1, none⟩) (by show w.heap.size < w6.heap.size; omega)).trans q1R
  replace p0R := (b7.cell (p := ⟨w5.heap.size, 0, none⟩) (by show w5.heap.size < w6.heap.size; omega)).trans p0R
  replace p1R := (b7.cell (p := ⟨w5.heap.size, 1, none⟩) (by show w5.heap.size < w6.heap.size; omega)).trans p1R
  go_wp2_with fail
  refine Calls.mono (Calls.vq (eqInt64S_c w7 _ _ _ _ res0 res0 rG0 rS0) (congrArg Value.bool (decide_eq_true rfl))) ?_
  rintro e w8 ⟨rfl, hd8⟩
  have b8 : Below w7.heap.size w7 w8 := hd8.below _
  have B8 : Below w.heap.size w w8 := B7.trans (b8.mono B7.size)
  have s8 : w7.heap.size ≤ w8.heap.size := b8.size
  replace rS0 := stable_ints.below rS0 b8
  replace rxR := stable_rows.below rxR b8
  replace rG0 := stable_ints.below rG0 b8
  replace q0R := (b8.cell (p := ⟨w.heap.size, 0, none⟩) (by show w.heap.size < w7.heap.size; omega)).trans q0R
  replace q1R := (b8.cell (p := ⟨w.heap.size, 1, none⟩) (by show w.heap.size < w7.heap.size; omega)).trans q1R
  replace p0R := (b8.cell (p := ⟨w5.heap.size, 0, none⟩) (by show w5.heap.size < w7.heap.size; omega)).trans p0R
  replace p1R := (b8.cell (p := ⟨w5.heap.size, 1, none⟩) (by show w5.heap.size < w7.heap.size; omega)).trans p1R
  have HK10 : Hid (∀ w', Below w8.heap.size w8 w' → w'.cell? ⟨w.heap.size, 0, none⟩ = some (.int .i64 CR) ∧ w'.cell? ⟨w.heap.size, 1, none⟩ = some (.slice aR nR cR) ∧ w'.cell? ⟨w5.heap.size, 0, none⟩ = some (.int .i64 CR) ∧ w'.cell? ⟨w5.heap.size, 1, none⟩ = some (.slice axR nxR kxR)) := fun w' hb => ⟨(hb.cell (by show w.heap.size < w8.heap.size; omega)).trans q0R, (hb.cell (by show w.heap.size < w8.heap.size; omega)).trans q1R, (hb.cell (by show w5.heap.size < w8.heap.size; omega)).trans p0R, (hb.cell (by show w5.heap.size < w8.heap.size; omega)).trans p1R⟩
  have HF10 := Lib.hid (stable_rows.below hR B8)
  have HX10 := Lib.hid rxR
  go_wp2_with fail
  go_region_held3 (fun w' => w'.cell? ⟨w.heap.size, 0, none⟩ = some (.int .i64 CR) ∧ w'.cell? ⟨w.heap.size, 1, none⟩ = some (.slice aR nR cR) ∧ w'.cell? ⟨w5.heap.size, 0, none⟩ = some (.int .i64 CR) ∧ w'.cell? ⟨w5.heap.size, 1, none⟩ = some (.slice axR nxR kxR)) (first | exact HK10.out _ (Below.refl _ _).drew | exact HK10.out _ ((Below.refl _ _).drew.trans bA10) | exact HK10.out _ (((Below.refl _ _).drew.trans bA10).trans (bB10.mono bA10.size)))
    (first | (go_at_call 29; refine (toRoomsA_c _ _ _ _ R hCR (stable_rows.below HF10.out (Below.refl _ _).drew) lbR).mono ?_; rintro e wA10 ⟨rv, rfl, ⟨uA10, rfl, rA10⟩, bA10⟩) | (go_at_call 31; refine (eqRoomsA_c _ _ _ _ _ _ R hCR (stable_rows.below HX10.out ((Below.refl _ _).drew.trans bA10)) rA10).mono ?_; rintro e w10 ⟨rv, rfl, rfl, bB10⟩))
  clear HK10 HF10 HX10
  have b10 : Below w8.heap.size w8 w10 := (((Below.refl _ _).drew.trans bA10).trans (bB10.mono bA10.size))
  have B10 : Below w.heap.size w w10 := B8.trans (b10.mono B8.size)
  have s10 : w8.heap.size ≤ w10.heap.size := b10.size
  replace rS0 := stable_ints.below rS0 b10
  replace rxR := stable_rows.below rxR b10
  replace rG0 := stable_ints.below rG0 b10
  replace q0R := (b10.cell (p := ⟨w.heap.size, 0, none⟩) (by show w.heap.size < w8.heap.size; omega)).trans q0R
  replace q1R := (b10.cell (p := ⟨w.heap.size, 1, none⟩) (by show w.heap.size < w8.heap.size; omega)).trans q1R
  replace p0R := (b10.cell (p := ⟨w5.heap.size, 0, none⟩) (by show w5.heap.size < w8.heap.size; omega)).trans p0R
  replace p1R := (b10.cell (p := ⟨w5.heap.size, 1, none⟩) (by show w5.heap.size < w8.heap.size; omega)).trans p1R
  have ofR : offs R R.length ≤ 1048576 := by have := offs_all R; omega
  go_wp2_with fail
  refine Calls.mono (markRooms_c w10 _ _ _ R _ rxR rfl (by omega) (by omega)) ?_
  rintro e w11 ⟨rfl, rmxR, wm11, hb11, hw11⟩
  have hz11 : w11.heap.size = wm11.heap.size := hw11.size
  have hy11 : w10.heap.size ≤ wm11.heap.size := hb11.size
  have B11 : Below w.heap.size w w11 := (B10.trans (hb11.mono B10.size)).trans (hw11.below (by simp only [Zone.new]; omega))
  clear rxR
  replace rS0 := stable_ints.within (stable_ints.below rS0 hb11) hw11 (fun k h1 h2 => by have q1 := h1.1; have q2 := h1.2; have q3 := h2.1; have q4 := h2.2; simp only [Zone.new] at q1 q2 q3 q4; omega)
  replace rG0 := stable_ints.within (stable_ints.below rG0 hb11) hw11 (fun k h1 h2 => by have q1 := h1.1; have q2 := h1.2; have q3 := h2.1; have q4 := h2.2; simp only [Zone.new] at q1 q2 q3 q4; omega)
  clear p0R
  clear p1R
  replace q0R := (hw11.cell (p := ⟨w.heap.size, 0, none⟩) (fun h => by have q1 := h.1; simp only [Zone.new] at q1; omega)).trans ((hb11.cell (p := ⟨w.heap.size, 0, none⟩) (by show w.heap.size < w10.heap.size; omega)).trans q0R)
  replace q1R := (hw11.cell (p := ⟨w.heap.size, 1, none⟩) (fun h => by have q1 := h.1; simp only [Zone.new] at q1; omega)).trans ((hb11.cell (p := ⟨w.heap.size, 1, none⟩) (by show w.heap.size < w10.heap.size; omega)).trans q1R)
  have s11 : w10.heap.size ≤ w11.heap.size := by omega
  clear hw11 hb11
  clear rmxR
  have ck1 : (0 : Int) ≤ 1 + (offs R R.length : Int) ∧ 1 + (offs R R.length : Int) ≤ 1048577 := by omega
  obtain ⟨ck1a, ck1b⟩ := ck1
  generalize (1 : Int) + (offs R R.length : Int) = k1 at *
  go_wp2_with fail
  refine Calls.mono (Calls.vq (eqInt64S_c w11 _ _ _ _ res0 res0 rG0 rS0) (congrArg Value.bool (decide_eq_true rfl))) ?_
  rintro e w12 ⟨rfl, hd12⟩
  have b12 : Below w11.heap.size w11 w12 := hd12.below _
  have B12 : Below w.heap.size w w12 := B11.trans (b12.mono B11.size)
  have s12 : w11.heap.size ≤ w12.heap.size := b12.size
  replace rS0 := stable_ints.below rS0 b12
  replace rG0 := stable_ints.below rG0 b12
  replace q0R := (b12.cell (p := ⟨w.heap.size, 0, none⟩) (by show w.heap.size < w11.heap.size; omega)).trans q0R
  replace q1R := (b12.cell (p := ⟨w.heap.size, 1, none⟩) (by show w.heap.size < w11.heap.size; omega)).trans q1R
  go_wp2_with fail
  refine Calls.mono (markInt64S_c w12 _ _ res0 _ rG0 rfl (by omega) (by omega)) ?_
  rintro e w13 ⟨rfl, rmG0, hw13⟩
  have hz13 : w13.heap.size = w12.heap.size := hw13.size
  have B13 : Below w.heap.size w w13 := B12.trans (hw13.below (by simp only [Zone.new]; omega))
  clear rG0
  replace rS0 := stable_ints.within rS0 hw13 (fun k h1 h2 => by have q1 := h1.1; have q2 := h1.2; have q3 := h2.1; have q4 := h2.2; simp only [Zone.new] at q1 q2 q3 q4; omega)
  replace q0R := (hw13.cell (p := ⟨w.heap.size, 0, none⟩) (fun h => by have q1 := h.1; simp only [Zone.new] at q1; omega)).trans q0R
  replace q1R := (hw13.cell (p := ⟨w.heap.size, 1, none⟩) (fun h => by have q1 := h.1; simp only [Zone.new] at q1; omega)).trans q1R
  have s13 : w12.heap.size ≤ w13.heap.size := by omega
  clear hw13
  obtain ⟨m1, em1⟩ : ∃ t : Int, t = 1 + (res0.length : Int) := ⟨_, rfl⟩
  rw [← em1]
  have gm1a : 0 ≤ m1 ∧ m1 ≤ 1048577 := by omega
  have Em1 := Lib.hid em1; clear em1; obtain ⟨gm1a, gm1b⟩ := gm1a
  go_wp2_with fail
  refine Calls.mono (Calls.vq (heldInt64S_c w13 _ _ res0.length _ rmG0 (by omega) (by have := Em1.out; omega)) (congrArg (Value.int .i64) Em1.out.symm)) ?_
  rintro e w14 ⟨rfl, hd14⟩
  have b14 : Below w13.heap.size w13 w14 := hd14.below _
  have B14 : Below w.heap.size w w14 := B13.trans (b14.mono B13.size)
  have s14 : w13.heap.size ≤ w14.heap.size := b14.size
  replace rS0 := stable_ints.below rS0 b14
  replace rmG0 := stable_ints.below rmG0 b14
  replace q0R := (b14.cell (p := ⟨w.heap.size, 0, none⟩) (by show w.heap.size < w13.heap.size; omega)).trans q0R
  replace q1R := (b14.cell (p := ⟨w.heap.size, 1, none⟩) (by show w.heap.size < w13.heap.size; omega)).trans q1R
  go_wp2_with fail
  refine Calls.mono (toRoomsA_c w14 CR _ _ R hCR (stable_rows.below hR B14) lbR) ?_
  rintro e w15 ⟨rvyR, rfl, ⟨uyR, rfl, ryR⟩, bb15⟩
  have b15 : Below w14.heap.size w14 w15 := bb15
  have B15 : Below w.heap.size w w15 := B14.trans (b15.mono B14.size)
  have s15 : w14.heap.size ≤ w15.heap.size := b15.size
  replace rS0 := stable_ints.below rS0 b15
  replace rmG0 := stable_ints.below rmG0 b15
  replace q0R := (b15.cell (p := ⟨w.heap.size, 0, none⟩) (by show w.heap.size < w14.heap.size; omega)).trans q0R
  replace q1R := (b15.cell (p := ⟨w.heap.size, 1, none⟩) (by show w.heap.size < w14.heap.size; omega)).trans q1R
  obtain ⟨ayR, nyR, kyR, rfl, -⟩ := SliceR.shape ryR
  go_wp2_with fail
  refine Calls.mono (CI.out w15 _ _ ryR) ?_
  rintro e w16 ⟨rr16, rfl, ⟨H0, rfl, rH0⟩, bb16⟩
  have b16 : Below w15.heap.size w15 w16 := bb16
  have B16 : Below w.heap.size w w16 := B15.trans (b16.mono B15.size)
  have s16 : w15.heap.size ≤ w16.heap.size := b16.size
  replace rS0 := stable_ints.below rS0 b16
  replace rmG0 := stable_ints.below rmG0 b16
  replace ryR := stable_rows.below ryR b16
  replace q0R := (b16.cell (p := ⟨w.heap.size, 0, none⟩) (by show w.heap.size < w15.heap.size; omega)).trans q0R
  replace q1R := (b16.cell (p := ⟨w.heap.size, 1, none⟩) (by show w.heap.size < w15.heap.size; omega)).trans q1R
  clear ryR
  go_wp2_with fail
  refine Calls.mono (Calls.vq (eqInt64S_c w16 _ _ _ _ res0 res0 rH0 rS0) (congrArg Value.bool (decide_eq_true rfl))) ?_
  rintro e w17 ⟨rfl, hd17⟩
  have b17 : Below w16.heap.size w16 w17 := hd17.below _
  have B17 : Below w.heap.size w w17 := B16.trans (b17.mono B16.size)
  have s17 : w16.heap.size ≤ w17.heap.size := b17.size
  replace rS0 := stable_ints.below rS0 b17
  replace rmG0 := stable_ints.below rmG0 b17
  replace rH0 := stable_ints.below rH0 b17
  replace q0R := (b17.cell (p := ⟨w.heap.size, 0, none⟩) (by show w.heap.size < w16.heap.size; omega)).trans q0R
  replace q1R := (b17.cell (p := ⟨w.heap.size, 1, none⟩) (by show w.heap.size < w16.heap.size; omega)).trans q1R
  go_wp2_with fail
  refine Calls.mono (Calls.vq (heldInt64S_c w17 _ _ res0.length _ rmG0 (by omega) (by have := Em1.out; omega)) (congrArg (Value.int .i64) Em1.out.symm)) ?_
  rintro e w18 ⟨rfl, hd18⟩
  have b18 : Below w17.heap.size w17 w18 := hd18.below _
  have B18 : Below w.heap.size w w18 := B17.trans (b18.mono B17.size)
  have s18 : w17.heap.size ≤ w18.heap.size := b18.size
  replace rS0 := stable_ints.below rS0 b18
  replace rmG0 := stable_ints.below rmG0 b18
  replace rH0 := stable_ints.below rH0 b18
  replace q0R := (b18.cell (p := ⟨w.heap.size, 0, none⟩) (by show w.heap.size < w17.heap.size; omega)).trans q0R
  replace q1R := (b18.cell (p := ⟨w.heap.size, 1, none⟩) (by show w.heap.size < w17.heap.size; omega)).trans q1R
  go_wp2_with fail
  go_ret
  exact ⟨_, rfl, rfl, B18⟩


/-! ### the row -/
theorem own : ownKnob Try.prog.godebug = none := by kernel_rfl
theorem laidOut : laidOutB Try.prog = true := by kernel_rfl
set_option maxRecDepth 100000 in
theorem lifted (os : Os) (started : os.Started) (H : Type) (enc : TypeId × Value → H) :
    ReturnsInHanded {} Try.checked os 8 .any (Rows.fnExactRoomsBehindSpec.pre6 enc Try.prog Try.f8 Rows.fnExactRoomsBehindRow.domain false) (Rows.fnExactRoomsBehindSpec.post enc Try.prog Try.f8 false true false false) := by
  refine returnsInHanded_of_change (C := Try.checked) own started (by kernel_rfl) Try.func8
    (ChangeSpec.witness6 (enc := enc) (C := Try.checked) false ⟨#[], #[.agg #[.int .i64 0, .slice none 0 0], .int .i64 0, .int .i64 0], []⟩ 8 (by kernel_rfl) (by kernel_rfl) (by kernel_rfl) (by kernel_rfl)) ?_
  intro W base args ds gs before hval0 hW hcnd _
  have hval : ∀ (j : Nat) t v, Try.f8.params[j]? = some t → args[j]? = some v → Value.okWide Try.prog W .any base t v := hval0
  have hW' := hW
  obtain ⟨p, q, hA0, hV, rfl, hfz, hnd⟩ := hW
  have hA : DataW.TrodAll enc Try.prog W 0 (fun _ => true) true Try.f8.params.toList args.toList ds p := hA0
  rw [Try.params8] at hA hval
  obtain ⟨v0, vs0, d0, ds0, p0, q0, hargs, rfl, rfl, h0, r0⟩ := trodAll_cons hA
  obtain ⟨v1, vs1, d1, ds1, p1, q1, rfl, rfl, rfl, h1, r1⟩ := trodAll_cons r0
  obtain ⟨v2, vs2, d2, ds2, p2, q2, rfl, rfl, rfl, h2, r2⟩ := trodAll_cons r1
  obtain ⟨rfl, rfl, rfl⟩ := trodAll_nil r2
  obtain rfl : args = #[v0, v1, v2] := by cases args; simp_all
  obtain ⟨rfl, rfl⟩ := trodVars_none hV
  have k0 := h0
  have lt0 : ∀ x ∈ p0, x.block < W.heap.size := by obtain ⟨m, hm⟩ := k0; exact DataW.trod_lt m _ _ _ hm
  obtain ⟨c0, u0, y0, z0, m0, rfl, -, -, hc0, hu0⟩ := Joins.open_agg2 Try.underlying37 (by kernel_rfl) (by kernel_rfl) (hval 0 37 v0 rfl rfl) h0
  obtain ⟨a0, rfl, w0⟩ := open_I64 Try.underlying2 hc0
  obtain ⟨x0, b0⟩ := open_RowsR Try.underlying22 Try.underlying23 Try.underlying2 (by kernel_rfl) (by kernel_rfl) hu0
  have k1 := h1
  have lt1 : ∀ x ∈ p1, x.block < W.heap.size := by obtain ⟨m, hm⟩ := k1; exact DataW.trod_lt m _ _ _ hm
  obtain ⟨a1, rfl, -, -, g1⟩ := open_int Try.underlying2 (hval 1 2 v1 rfl rfl) h1
  have w1 := wf_i64 g1
  have k2 := h2
  have lt2 : ∀ x ∈ p2, x.block < W.heap.size := by obtain ⟨m, hm⟩ := k2; exact DataW.trod_lt m _ _ _ hm
  obtain ⟨a2, rfl, -, -, g2⟩ := open_int Try.underlying2 (hval 2 2 v2 rfl rfl) h2
  have w2 := wf_i64 g2
  clear hA0 hval0
  refine (walk W a0 w0 _ x0 b0 a1 w1 a2 w2).mono fun e W' hret => ?_
  obtain ⟨r, rfl, rfl, bel⟩ := hret
  exact ⟨_, rfl, _, _, _, [], _, [], hW', trodAll_mk1 (shut_bool Try.underlying4 _), (trodAll_cons_mk (Below.trod laidOut (by kernel_rfl) (of_decide_eq_true (by kernel_rfl)) k0 bel lt0) (trodAll_cons_mk (Below.trod laidOut (by kernel_rfl) (of_decide_eq_true (by kernel_rfl)) k1 bel lt1) (trodAll_cons_mk (Below.trod laidOut (by kernel_rfl) (of_decide_eq_true (by kernel_rfl)) k2 bel lt2) trodAll_mk0))), rfl, bel.frame _, fun h => by cases h⟩

theorem over : Rows.fnExactRoomsBehindRow.holds Try.pinned (OpenSpec.ofChange Rows.fnExactRoomsBehindSpec) :=
  OpenClaim.holds_of_wide 8 Try.f8 rfl rfl rfl rfl rfl rfl rfl ⟨rfl, rfl, rfl, rfl, rfl⟩ rfl rfl rfl rfl rfl (by kernel_rfl) Try.func8 (by kernel_rfl)
    (of_decide_eq_true (by kernel_rfl)) (by unfold Func.isWrapper; first | (rw [if_pos (by decide +kernel)]; kernel_rfl) | (rw [if_neg (by decide +kernel)]; exact ⟨rfl, rfl⟩))
    (fun os started H enc _ => lifted os started H enc)

theorem proved : Rows.FnExactRoomsBehindSaid := over


end fnExactRoomsBehind
end Go.Proofs.Ytoaoonmeoeifgaa
