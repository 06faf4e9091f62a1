/- Proved: for every system, every list of lists and every number, laws.FnExactThinDoors returns true and changes nothing that was there; no condition. -/
import Derived.Test.YtgagjibjnaappaaRows
import Derived.Deep.RegionHeld3
import Derived.Test.YtgagjibjnaappaaUOpenSys
import Derived.Test.YtgagjibjnaappaaUThinDoors
import Derived.Test.YtgagjibjnaappaaULawSystem
namespace Go.Proofs.Ytgagjibjnaappaa
open Go.ChangeShapes Go.WideShapes Go.ChangeAt Go.RowKit
set_option linter.unusedVariables false
namespace fnExactThinDoors

set_option maxRecDepth 20000 in
set_option maxHeartbeats 2000000 in
theorem walk (w : World) (MX : MK) (vX : Value) (X : List (List Int)) (hX : RowsR (.old w) w vX X) (vcuts : Value) (cuts : List (List Int)) (hcuts : RowsR (.old w) w vcuts cuts) (least : Int) (hleast : I64 least) :
    Calls Try.prog 11 #[.agg #[.int .i64 MX.c, .int .i64 MX.d, .int .i64 MX.s, .int .i64 MX.m, .int .i64 MX.l, vX], vcuts, .int .i64 least] w (Ret w fun r _ => r = .bool true) := by
  obtain ⟨aX, nX, cX, rfl, shX, -⟩ := SliceR.shape hX
  clear shX
  obtain ⟨acuts, ncuts, ccuts, rfl, shcuts, -⟩ := SliceR.shape hcuts
  clear shcuts
  have cS : ∀ (wq : World) (yX : Value) (zX : Zone) (ycuts : Value) (zcuts : Zone) (gX : RowsR zX wq yX X) (gcuts : RowsR zcuts wq ycuts cuts), Calls Try.prog 43 #[.agg #[.int .i64 MX.c, .int .i64 MX.d, .int .i64 MX.s, .int .i64 MX.m, .int .i64 MX.l, yX], ycuts, .int .i64 least] wq (Ret wq fun r w' => ∃ u0, r = .tuple #[u0, .int .i64 (thinDoors MX X cuts least).2] ∧ IntsR (.new wq w') w' u0 (thinDoors MX X cuts least).1) := fun wq yX zX ycuts zcuts gX gcuts => (fun w M v z x h u y cuts h2 least hle => ThinDoorsSpec_c w M v z x h u y cuts h2 least) wq MX yX zX X gX ycuts zcuts cuts gcuts least hleast
  have cI : ∀ (wq : World) (yX : Value) (zX : Zone) (ycuts : Value) (zcuts : Zone) (gX : RowsR zX wq yX X) (gcuts : RowsR zcuts wq ycuts cuts), Calls Try.prog 44 #[.agg #[.int .i64 MX.c, .int .i64 MX.d, .int .i64 MX.s, .int .i64 MX.m, .int .i64 MX.l, yX], ycuts, .int .i64 least] wq (Ret wq fun r w' => ∃ u0, r = .tuple #[u0, .int .i64 (thinDoors MX X cuts least).2] ∧ IntsR (.new wq w') w' u0 (thinDoors MX X cuts least).1) := fun wq yX zX ycuts zcuts gX gcuts => (fun w M v z x h u y cuts h2 least hle => ThinDoors_c w M v z x h u y cuts h2 least) wq MX yX zX X gX ycuts zcuts cuts gcuts least hleast
  have LR0 : (((thinDoors MX X cuts least).1).length : Int) ≤ 1048576 := thinDoors_length _ _ _ _
  generalize (thinDoors MX X cuts least).1 = res0 at cS cI LR0
  generalize (thinDoors MX X cuts least).2 = res1 at cS cI LR0
  have CS := Lib.hid cS; have CI := Lib.hid cI; clear cS cI
  go_enter Try.func11, Try.ntmps11
  go_wp2_with fail
  generalize hwb1 : World.alloc _ _ = w1
  have b1 : Below w.heap.size w w1 := by rw [← hwb1]; exact (Below.refl _ _).alloc (Nat.le_refl _) _
  have s1 : w.heap.size < w1.heap.size := by rw [← hwb1]; simp
  have q0X : w1.cell? ⟨w.heap.size, 0, none⟩ = some (.int .i64 MX.c) := by rw [← hwb1]; clear hwb1; go_simp
  have q1X : w1.cell? ⟨w.heap.size, 1, none⟩ = some (.int .i64 MX.d) := by rw [← hwb1]; clear hwb1; go_simp
  have q2X : w1.cell? ⟨w.heap.size, 2, none⟩ = some (.int .i64 MX.s) := by rw [← hwb1]; clear hwb1; go_simp
  have q3X : w1.cell? ⟨w.heap.size, 3, none⟩ = some (.int .i64 MX.m) := by rw [← hwb1]; clear hwb1; go_simp
  have q4X : w1.cell? ⟨w.heap.size, 4, none⟩ = some (.int .i64 MX.l) := by rw [← hwb1]; clear hwb1; go_simp
  have q5X : w1.cell? ⟨w.heap.size, 5, none⟩ = some (.slice aX nX cX) := by rw [← hwb1]; clear hwb1; go_simp
  clear hwb1
  have B1 : Below w.heap.size w w1 := b1
  have szX := szSystemA_c w1 MX _ _ X 1048576 (stable_rows.below hX B1) (by omega) (by omega)
  rcases Nat.lt_or_ge (1048576 : Int).toNat (bulk X) with hbX | hbX
  · rw [szLeft_neg (by omega)] at szX
    refine Calls.mono szX ?_
    rintro e wx ⟨r, rfl, rfl, bx⟩
    go_wp2_with fail
    go_ret
    exact ⟨_, rfl, rfl, B1.trans (bx.mono B1.size)⟩
  rw [szLeft_pos (by omega)] at szX
  have lbX : bulk X ≤ 1048576 := by omega
  have lgX : (0 : Int) ≤ 1048576 - (bulk X : Int) := by omega
  have lhX : 1048576 - (bulk X : Int) ≤ 1048576 := by omega
  generalize (1048576 : Int) - (bulk X : Int) = lX at *
  refine Calls.mono szX ?_
  rintro e w2 ⟨r, rfl, rfl, hd2⟩
  clear szX
  have b2 : Below w1.heap.size w1 w2 := hd2
  have B2 : Below w.heap.size w w2 := B1.trans (b2.mono B1.size)
  have s2 : w1.heap.size ≤ w2.heap.size := b2.size
  replace q0X := (b2.cell (p := ⟨w.heap.size, 0, none⟩) (by show w.heap.size < w1.heap.size; omega)).trans q0X
  replace q1X := (b2.cell (p := ⟨w.heap.size, 1, none⟩) (by show w.heap.size < w1.heap.size; omega)).trans q1X
  replace q2X := (b2.cell (p := ⟨w.heap.size, 2, none⟩) (by show w.heap.size < w1.heap.size; omega)).trans q2X
  replace q3X := (b2.cell (p := ⟨w.heap.size, 3, none⟩) (by show w.heap.size < w1.heap.size; omega)).trans q3X
  replace q4X := (b2.cell (p := ⟨w.heap.size, 4, none⟩) (by show w.heap.size < w1.heap.size; omega)).trans q4X
  replace q5X := (b2.cell (p := ⟨w.heap.size, 5, none⟩) (by show w.heap.size < w1.heap.size; omega)).trans q5X
  have szcuts := szInt64SS_c w2 _ _ cuts lX (stable_rows.below hcuts B2) (by omega) (by omega)
  go_wp2_with fail
  rcases Nat.lt_or_ge (lX : Int).toNat (bulk cuts) with hbcuts | hbcuts
  · rw [szLeft_neg (by omega)] at szcuts
    refine Calls.mono szcuts ?_
    rintro e wx ⟨rfl, hdx⟩
    go_wp2_with fail
    go_ret
    exact ⟨_, rfl, rfl, B2.trans (hdx.below _)⟩
  rw [szLeft_pos (by omega)] at szcuts
  have lbcuts : bulk cuts ≤ 1048576 := by omega
  have lgcuts : (0 : Int) ≤ lX - (bulk cuts : Int) := by omega
  have lhcuts : lX - (bulk cuts : Int) ≤ 1048576 := by omega
  generalize (lX : Int) - (bulk cuts : Int) = lcuts at *
  refine Calls.mono szcuts ?_
  rintro e w3 ⟨rfl, hd3⟩
  clear szcuts
  have b3 : Below w2.heap.size w2 w3 := hd3.below _
  have B3 : Below w.heap.size w w3 := B2.trans (b3.mono B2.size)
  have s3 : w2.heap.size ≤ w3.heap.size := b3.size
  replace q0X := (b3.cell (p := ⟨w.heap.size, 0, none⟩) (by show w.heap.size < w2.heap.size; omega)).trans q0X
  replace q1X := (b3.cell (p := ⟨w.heap.size, 1, none⟩) (by show w.heap.size < w2.heap.size; omega)).trans q1X
  replace q2X := (b3.cell (p := ⟨w.heap.size, 2, none⟩) (by show w.heap.size < w2.heap.size; omega)).trans q2X
  replace q3X := (b3.cell (p := ⟨w.heap.size, 3, none⟩) (by show w.heap.size < w2.heap.size; omega)).trans q3X
  replace q4X := (b3.cell (p := ⟨w.heap.size, 4, none⟩) (by show w.heap.size < w2.heap.size; omega)).trans q4X
  replace q5X := (b3.cell (p := ⟨w.heap.size, 5, none⟩) (by show w.heap.size < w2.heap.size; omega)).trans q5X
  go_wp2_with fail
  refine Calls.mono (toSystemA_c w3 MX _ _ X (stable_rows.below hX B3) lbX) ?_
  rintro e w4 ⟨rvsX, rfl, ⟨usX, rfl, rsX⟩, bb4⟩
  have b4 : Below w3.heap.size w3 w4 := bb4
  have B4 : Below w.heap.size w w4 := B3.trans (b4.mono B3.size)
  have s4 : w3.heap.size ≤ w4.heap.size := b4.size
  replace q0X := (b4.cell (p := ⟨w.heap.size, 0, none⟩) (by show w.heap.size < w3.heap.size; omega)).trans q0X
  replace q1X := (b4.cell (p := ⟨w.heap.size, 1, none⟩) (by show w.heap.size < w3.heap.size; omega)).trans q1X
  replace q2X := (b4.cell (p := ⟨w.heap.size, 2, none⟩) (by show w.heap.size < w3.heap.size; omega)).trans q2X
  replace q3X := (b4.cell (p := ⟨w.heap.size, 3, none⟩) (by show w.heap.size < w3.heap.size; omega)).trans q3X
  replace q4X := (b4.cell (p := ⟨w.heap.size, 4, none⟩) (by show w.heap.size < w3.heap.size; omega)).trans q4X
  replace q5X := (b4.cell (p := ⟨w.heap.size, 5, none⟩) (by show w.heap.size < w3.heap.size; omega)).trans q5X
  obtain ⟨asX, nsX, ksX, rfl, -⟩ := SliceR.shape rsX
  go_wp2_with fail
  refine Calls.mono (toInt64SS_c w4 _ _ cuts (stable_rows.below hcuts B4) lbcuts) ?_
  rintro e w5 ⟨uscuts, rfl, rscuts, bb5⟩
  have b5 : Below w4.heap.size w4 w5 := bb5
  have B5 : Below w.heap.size w w5 := B4.trans (b5.mono B4.size)
  have s5 : w4.heap.size ≤ w5.heap.size := b5.size
  replace rsX := stable_rows.below rsX b5
  replace q0X := (b5.cell (p := ⟨w.heap.size, 0, none⟩) (by show w.heap.size < w4.heap.size; omega)).trans q0X
  replace q1X := (b5.cell (p := ⟨w.heap.size, 1, none⟩) (by show w.heap.size < w4.heap.size; omega)).trans q1X
  replace q2X := (b5.cell (p := ⟨w.heap.size, 2, none⟩) (by show w.heap.size < w4.heap.size; omega)).trans q2X
  replace q3X := (b5.cell (p := ⟨w.heap.size, 3, none⟩) (by show w.heap.size < w4.heap.size; omega)).trans q3X
  replace q4X := (b5.cell (p := ⟨w.heap.size, 4, none⟩) (by show w.heap.size < w4.heap.size; omega)).trans q4X
  replace q5X := (b5.cell (p := ⟨w.heap.size, 5, none⟩) (by show w.heap.size < w4.heap.size; omega)).trans q5X
  go_wp2_with fail
  refine Calls.mono (CS.out w5 _ _ _ _ rsX rscuts) ?_
  rintro e w6 ⟨rr6, rfl, ⟨S0, rfl, rS0⟩, bb6⟩
  have b6 : Below w5.heap.size w5 w6 := bb6
  have B6 : Below w.heap.size w w6 := B5.trans (b6.mono B5.size)
  have s6 : w5.heap.size ≤ w6.heap.size := b6.size
  replace rsX := stable_rows.below rsX b6
  replace rscuts := stable_rows.below rscuts b6
  replace q0X := (b6.cell (p := ⟨w.heap.size, 0, none⟩) (by show w.heap.size < w5.heap.size; omega)).trans q0X
  replace q1X := (b6.cell (p := ⟨w.heap.size, 1, none⟩) (by show w.heap.size < w5.heap.size; omega)).trans q1X
  replace q2X := (b6.cell (p := ⟨w.heap.size, 2, none⟩) (by show w.heap.size < w5.heap.size; omega)).trans q2X
  replace q3X := (b6.cell (p := ⟨w.heap.size, 3, none⟩) (by show w.heap.size < w5.heap.size; omega)).trans q3X
  replace q4X := (b6.cell (p := ⟨w.heap.size, 4, none⟩) (by show w.heap.size < w5.heap.size; omega)).trans q4X
  replace q5X := (b6.cell (p := ⟨w.heap.size, 5, none⟩) (by show w.heap.size < w5.heap.size; omega)).trans q5X
  clear rsX
  clear rscuts
  go_wp2_with fail
  refine Calls.mono (toSystemA_c w6 MX _ _ X (stable_rows.below hX B6) lbX) ?_
  rintro e w7 ⟨rvxX, rfl, ⟨uxX, rfl, rxX⟩, bb7⟩
  have b7 : Below w6.heap.size w6 w7 := bb7
  have B7 : Below w.heap.size w w7 := B6.trans (b7.mono B6.size)
  have s7 : w6.heap.size ≤ w7.heap.size := b7.size
  replace rS0 := stable_ints.below rS0 b7
  replace q0X := (b7.cell (p := ⟨w.heap.size, 0, none⟩) (by show w.heap.size < w6.heap.size; omega)).trans q0X
  replace q1X := (b7.cell (p := ⟨w.heap.size, 1, none⟩) (by show w.heap.size < w6.heap.size; omega)).trans q1X
  replace q2X := (b7.cell (p := ⟨w.heap.size, 2, none⟩) (by show w.heap.size < w6.heap.size; omega)).trans q2X
  replace q3X := (b7.cell (p := ⟨w.heap.size, 3, none⟩) (by show w.heap.size < w6.heap.size; omega)).trans q3X
  replace q4X := (b7.cell (p := ⟨w.heap.size, 4, none⟩) (by show w.heap.size < w6.heap.size; omega)).trans q4X
  replace q5X := (b7.cell (p := ⟨w.heap.size, 5, none⟩) (by show w.heap.size < w6.heap.size; omega)).trans q5X
  obtain ⟨axX, nxX, kxX, rfl, -⟩ := SliceR.shape rxX
  go_wp2_with fail
  generalize hwb8 : World.alloc _ _ = w8
  have b8 : Below w7.heap.size w7 w8 := by rw [← hwb8]; exact (Below.refl _ _).alloc (Nat.le_refl _) _
  have s8 : w7.heap.size < w8.heap.size := by rw [← hwb8]; simp
  have p0X : w8.cell? ⟨w7.heap.size, 0, none⟩ = some (.int .i64 MX.c) := by rw [← hwb8]; clear hwb8; go_simp
  have p1X : w8.cell? ⟨w7.heap.size, 1, none⟩ = some (.int .i64 MX.d) := by rw [← hwb8]; clear hwb8; go_simp
  have p2X : w8.cell? ⟨w7.heap.size, 2, none⟩ = some (.int .i64 MX.s) := by rw [← hwb8]; clear hwb8; go_simp
  have p3X : w8.cell? ⟨w7.heap.size, 3, none⟩ = some (.int .i64 MX.m) := by rw [← hwb8]; clear hwb8; go_simp
  have p4X : w8.cell? ⟨w7.heap.size, 4, none⟩ = some (.int .i64 MX.l) := by rw [← hwb8]; clear hwb8; go_simp
  have p5X : w8.cell? ⟨w7.heap.size, 5, none⟩ = some (.slice axX nxX kxX) := by rw [← hwb8]; clear hwb8; go_simp
  clear hwb8
  have B8 : Below w.heap.size w w8 := B7.trans (b8.mono B7.size)
  replace rS0 := stable_ints.below rS0 b8
  replace rxX := stable_rows.below rxX b8
  replace q0X := (b8.cell (p := ⟨w.heap.size, 0, none⟩) (by show w.heap.size < w7.heap.size; omega)).trans q0X
  replace q1X := (b8.cell (p := ⟨w.heap.size, 1, none⟩) (by show w.heap.size < w7.heap.size; omega)).trans q1X
  replace q2X := (b8.cell (p := ⟨w.heap.size, 2, none⟩) (by show w.heap.size < w7.heap.size; omega)).trans q2X
  replace q3X := (b8.cell (p := ⟨w.heap.size, 3, none⟩) (by show w.heap.size < w7.heap.size; omega)).trans q3X
  replace q4X := (b8.cell (p := ⟨w.heap.size, 4, none⟩) (by show w.heap.size < w7.heap.size; omega)).trans q4X
  replace q5X := (b8.cell (p := ⟨w.heap.size, 5, none⟩) (by show w.heap.size < w7.heap.size; omega)).trans q5X
  refine Calls.mono (toInt64SS_c w8 _ _ cuts (stable_rows.below hcuts B8) lbcuts) ?_
  rintro e w9 ⟨uxcuts, rfl, rxcuts, bb9⟩
  have b9 : Below w8.heap.size w8 w9 := bb9
  have B9 : Below w.heap.size w w9 := B8.trans (b9.mono B8.size)
  have s9 : w8.heap.size ≤ w9.heap.size := b9.size
  replace rS0 := stable_ints.below rS0 b9
  replace rxX := stable_rows.below rxX b9
  replace q0X := (b9.cell (p := ⟨w.heap.size, 0, none⟩) (by show w.heap.size < w8.heap.size; omega)).trans q0X
  replace q1X := (b9.cell (p := ⟨w.heap.size, 1, none⟩) (by show w.heap.size < w8.heap.size; omega)).trans q1X
  replace q2X := (b9.cell (p := ⟨w.heap.size, 2, none⟩) (by show w.heap.size < w8.heap.size; omega)).trans q2X
  replace q3X := (b9.cell (p := ⟨w.heap.size, 3, none⟩) (by show w.heap.size < w8.heap.size; omega)).trans q3X
  replace q4X := (b9.cell (p := ⟨w.heap.size, 4, none⟩) (by show w.heap.size < w8.heap.size; omega)).trans q4X
  replace q5X := (b9.cell (p := ⟨w.heap.size, 5, none⟩) (by show w.heap.size < w8.heap.size; omega)).trans q5X
  replace p0X := (b9.cell (p := ⟨w7.heap.size, 0, none⟩) (by show w7.heap.size < w8.heap.size; omega)).trans p0X
  replace p1X := (b9.cell (p := ⟨w7.heap.size, 1, none⟩) (by show w7.heap.size < w8.heap.size; omega)).trans p1X
  replace p2X := (b9.cell (p := ⟨w7.heap.size, 2, none⟩) (by show w7.heap.size < w8.heap.size; omega)).trans p2X
  replace p3X := (b9.cell (p := ⟨w7.heap.size, 3, none⟩) (by show w7.heap.size < w8.heap.size; omega)).trans p3X
  replace p4X := (b9.cell (p := ⟨w7.heap.size, 4, none⟩) (by show w7.heap.size < w8.heap.size; omega)).trans p4X
  replace p5X := (b9.cell (p := ⟨w7.heap.size, 5, none⟩) (by show w7.heap.size < w8.heap.size; omega)).trans p5X
  go_wp2_with fail
  refine Calls.mono (CI.out w9 _ _ _ _ rxX rxcuts) ?_
  rintro e w10 ⟨rr10, rfl, ⟨G0, rfl, rG0⟩, bb10⟩
  have b10 : Below w9.heap.size w9 w10 := bb10
  have B10 : Below w.heap.size w w10 := B9.trans (b10.mono B9.size)
  have s10 : w9.heap.size ≤ w10.heap.size := b10.size
  replace rS0 := stable_ints.below rS0 b10
  replace rxX := stable_rows.below rxX b10
  replace rxcuts := stable_rows.below rxcuts b10
  replace q0X := (b10.cell (p := ⟨w.heap.size, 0, none⟩) (by show w.heap.size < w9.heap.size; omega)).trans q0X
  replace q1X := (b10.cell (p := ⟨w.heap.size, 1, none⟩) (by show w.heap.size < w9.heap.size; omega)).trans q1X
  replace q2X := (b10.cell (p := ⟨w.heap.size, 2, none⟩) (by show w.heap.size < w9.heap.size; omega)).trans q2X
  replace q3X := (b10.cell (p := ⟨w.heap.size, 3, none⟩) (by show w.heap.size < w9.heap.size; omega)).trans q3X
  replace q4X := (b10.cell (p := ⟨w.heap.size, 4, none⟩) (by show w.heap.size < w9.heap.size; omega)).trans q4X
  replace q5X := (b10.cell (p := ⟨w.heap.size, 5, none⟩) (by show w.heap.size < w9.heap.size; omega)).trans q5X
  replace p0X := (b10.cell (p := ⟨w7.heap.size, 0, none⟩) (by show w7.heap.size < w9.heap.size; omega)).trans p0X
  replace p1X := (b10.cell (p := ⟨w7.heap.size, 1, none⟩) (by show w7.heap.size < w9.heap.size; omega)).trans p1X
  replace p2X := (b10.cell (p := ⟨w7.heap.size, 2, none⟩) (by show w7.heap.size < w9.heap.size; omega)).trans p2X
  replace p3X := (b10.cell (p := ⟨w7.heap.size, 3, none⟩) (by show w7.heap.size < w9.heap.size; omega)).trans p3X
  replace p4X := (b10.cell (p := ⟨w7.heap.size, 4, none⟩) (by show w7.heap.size < w9.heap.size; omega)).trans p4X
  replace p5X := (b10.cell (p := ⟨w7.heap.size, 5, none⟩) (by show w7.heap.size < w9.heap.size; omega)).trans p5X
  go_wp2_with fail
  refine Calls.mono (Calls.vq (eqInt64S_c w10 _ _ _ _ res0 res0 rG0 rS0) (congrArg Value.bool (decide_eq_true rfl))) ?_
  rintro e w11 ⟨rfl, hd11⟩
  have b11 : Below w10.heap.size w10 w11 := hd11.below _
  have B11 : Below w.heap.size w w11 := B10.trans (b11.mono B10.size)
  have s11 : w10.heap.size ≤ w11.heap.size := b11.size
  replace rS0 := stable_ints.below rS0 b11
  replace rxX := stable_rows.below rxX b11
  replace rxcuts := stable_rows.below rxcuts b11
  replace rG0 := stable_ints.below rG0 b11
  replace q0X := (b11.cell (p := ⟨w.heap.size, 0, none⟩) (by show w.heap.size < w10.heap.size; omega)).trans q0X
  replace q1X := (b11.cell (p := ⟨w.heap.size, 1, none⟩) (by show w.heap.size < w10.heap.size; omega)).trans q1X
  replace q2X := (b11.cell (p := ⟨w.heap.size, 2, none⟩) (by show w.heap.size < w10.heap.size; omega)).trans q2X
  replace q3X := (b11.cell (p := ⟨w.heap.size, 3, none⟩) (by show w.heap.size < w10.heap.size; omega)).trans q3X
  replace q4X := (b11.cell (p := ⟨w.heap.size, 4, none⟩) (by show w.heap.size < w10.heap.size; omega)).trans q4X
  replace q5X := (b11.cell (p := ⟨w.heap.size, 5, none⟩) (by show w.heap.size < w10.heap.size; omega)).trans q5X
  replace p0X := (b11.cell (p := ⟨w7.heap.size, 0, none⟩) (by show w7.heap.size < w10.heap.size; omega)).trans p0X
  replace p1X := (b11.cell (p := ⟨w7.heap.size, 1, none⟩) (by show w7.heap.size < w10.heap.size; omega)).trans p1X
  replace p2X := (b11.cell (p := ⟨w7.heap.size, 2, none⟩) (by show w7.heap.size < w10.heap.size; omega)).trans p2X
  replace p3X := (b11.cell (p := ⟨w7.heap.size, 3, none⟩) (by show w7.heap.size < w10.heap.size; omega)).trans p3X
  replace p4X := (b11.cell (p := ⟨w7.heap.size, 4, none⟩) (by show w7.heap.size < w10.heap.size; omega)).trans p4X
  replace p5X := (b11.cell (p := ⟨w7.heap.size, 5, none⟩) (by show w7.heap.size < w10.heap.size; omega)).trans p5X
  have HK13 : Hid (∀ w', Below w11.heap.size w11 w' → w'.cell? ⟨w.heap.size, 0, none⟩ = some (.int .i64 MX.c) ∧ w'.cell? ⟨w.heap.size, 1, none⟩ = some (.int .i64 MX.d) ∧ w'.cell? ⟨w.heap.size, 2, none⟩ = some (.int .i64 MX.s) ∧ w'.cell? ⟨w.heap.size, 3, none⟩ = some (.int .i64 MX.m) ∧ w'.cell? ⟨w.heap.size, 4, none⟩ = some (.int .i64 MX.l) ∧ w'.cell? ⟨w.heap.size, 5, none⟩ = some (.slice aX nX cX) ∧ w'.cell? ⟨w7.heap.size, 0, none⟩ = some (.int .i64 MX.c) ∧ w'.cell? ⟨w7.heap.size, 1, none⟩ = some (.int .i64 MX.d) ∧ w'.cell? ⟨w7.heap.size, 2, none⟩ = some (.int .i64 MX.s) ∧ w'.cell? ⟨w7.heap.size, 3, none⟩ = some (.int .i64 MX.m) ∧ w'.cell? ⟨w7.heap.size, 4, none⟩ = some (.int .i64 MX.l) ∧ w'.cell? ⟨w7.heap.size, 5, none⟩ = some (.slice axX nxX kxX)) := fun w' hb => ⟨(hb.cell (by show w.heap.size < w11.heap.size; omega)).trans q0X, (hb.cell (by show w.heap.size < w11.heap.size; omega)).trans q1X, (hb.cell (by show w.heap.size < w11.heap.size; omega)).trans q2X, (hb.cell (by show w.heap.size < w11.heap.size; omega)).trans q3X, (hb.cell (by show w.heap.size < w11.heap.size; omega)).trans q4X, (hb.cell (by show w.heap.size < w11.heap.size; omega)).trans q5X, (hb.cell (by show w7.heap.size < w11.heap.size; omega)).trans p0X, (hb.cell (by show w7.heap.size < w11.heap.size; omega)).trans p1X, (hb.cell (by show w7.heap.size < w11.heap.size; omega)).trans p2X, (hb.cell (by show w7.heap.size < w11.heap.size; omega)).trans p3X, (hb.cell (by show w7.heap.size < w11.heap.size; omega)).trans p4X, (hb.cell (by show w7.heap.size < w11.heap.size; omega)).trans p5X⟩
  have HF13 := Lib.hid (stable_rows.below hX B11)
  have HX13 := Lib.hid rxX
  go_wp2_with fail
  go_region_held3 (fun w' => w'.cell? ⟨w.heap.size, 0, none⟩ = some (.int .i64 MX.c) ∧ w'.cell? ⟨w.heap.size, 1, none⟩ = some (.int .i64 MX.d) ∧ w'.cell? ⟨w.heap.size, 2, none⟩ = some (.int .i64 MX.s) ∧ w'.cell? ⟨w.heap.size, 3, none⟩ = some (.int .i64 MX.m) ∧ w'.cell? ⟨w.heap.size, 4, none⟩ = some (.int .i64 MX.l) ∧ w'.cell? ⟨w.heap.size, 5, none⟩ = some (.slice aX nX cX) ∧ w'.cell? ⟨w7.heap.size, 0, none⟩ = some (.int .i64 MX.c) ∧ w'.cell? ⟨w7.heap.size, 1, none⟩ = some (.int .i64 MX.d) ∧ w'.cell? ⟨w7.heap.size, 2, none⟩ = some (.int .i64 MX.s) ∧ w'.cell? ⟨w7.heap.size, 3, none⟩ = some (.int .i64 MX.m) ∧ w'.cell? ⟨w7.heap.size, 4, none⟩ = some (.int .i64 MX.l) ∧ w'.cell? ⟨w7.heap.size, 5, none⟩ = some (.slice axX nxX kxX)) (first | exact HK13.out _ (Below.refl _ _).drew | exact HK13.out _ ((Below.refl _ _).drew.trans bA13) | exact HK13.out _ (((Below.refl _ _).drew.trans bA13).trans (bB13.mono bA13.size)))
    (first | (go_at_call 16; refine (toSystemA_c _ _ _ _ X (stable_rows.below HF13.out (Below.refl _ _).drew) lbX).mono ?_; rintro e wA13 ⟨rv, rfl, ⟨uA13, rfl, rA13⟩, bA13⟩) | (go_at_call 20; refine (eqSystemA_c _ _ _ _ _ _ X (stable_rows.below HX13.out ((Below.refl _ _).drew.trans bA13)) rA13).mono ?_; rintro e w13 ⟨rv, rfl, rfl, bB13⟩))
  clear HK13 HF13 HX13
  have b13 : Below w11.heap.size w11 w13 := (((Below.refl _ _).drew.trans bA13).trans (bB13.mono bA13.size))
  have B13 : Below w.heap.size w w13 := B11.trans (b13.mono B11.size)
  have s13 : w11.heap.size ≤ w13.heap.size := b13.size
  replace rS0 := stable_ints.below rS0 b13
  replace rxX := stable_rows.below rxX b13
  replace rxcuts := stable_rows.below rxcuts b13
  replace rG0 := stable_ints.below rG0 b13
  replace q0X := (b13.cell (p := ⟨w.heap.size, 0, none⟩) (by show w.heap.size < w11.heap.size; omega)).trans q0X
  replace q1X := (b13.cell (p := ⟨w.heap.size, 1, none⟩) (by show w.heap.size < w11.heap.size; omega)).trans q1X
  replace q2X := (b13.cell (p := ⟨w.heap.size, 2, none⟩) (by show w.heap.size < w11.heap.size; omega)).trans q2X
  replace q3X := (b13.cell (p := ⟨w.heap.size, 3, none⟩) (by show w.heap.size < w11.heap.size; omega)).trans q3X
  replace q4X := (b13.cell (p := ⟨w.heap.size, 4, none⟩) (by show w.heap.size < w11.heap.size; omega)).trans q4X
  replace q5X := (b13.cell (p := ⟨w.heap.size, 5, none⟩) (by show w.heap.size < w11.heap.size; omega)).trans q5X
  replace p0X := (b13.cell (p := ⟨w7.heap.size, 0, none⟩) (by show w7.heap.size < w11.heap.size; omega)).trans p0X
  replace p1X := (b13.cell (p := ⟨w7.heap.size, 1, none⟩) (by show w7.heap.size < w11.heap.size; omega)).trans p1X
  replace p2X := (b13.cell (p := ⟨w7.heap.size, 2, none⟩) (by show w7.heap.size < w11.heap.size; omega)).trans p2X
  replace p3X := (b13.cell (p := ⟨w7.heap.size, 3, none⟩) (by show w7.heap.size < w11.heap.size; omega)).trans p3X
  replace p4X := (b13.cell (p := ⟨w7.heap.size, 4, none⟩) (by show w7.heap.size < w11.heap.size; omega)).trans p4X
  replace p5X := (b13.cell (p := ⟨w7.heap.size, 5, none⟩) (by show w7.heap.size < w11.heap.size; omega)).trans p5X
  go_wp2_with fail
  refine Calls.mono (toInt64SS_c w13 _ _ cuts (stable_rows.below hcuts B13) lbcuts) ?_
  rintro e w14 ⟨uccuts, rfl, rccuts, bb14⟩
  have b14 : Below w13.heap.size w13 w14 := bb14
  have B14 : Below w.heap.size w w14 := B13.trans (b14.mono B13.size)
  have s14 : w13.heap.size ≤ w14.heap.size := b14.size
  replace rS0 := stable_ints.below rS0 b14
  replace rxX := stable_rows.below rxX b14
  replace rxcuts := stable_rows.below rxcuts b14
  replace rG0 := stable_ints.below rG0 b14
  replace q0X := (b14.cell (p := ⟨w.heap.size, 0, none⟩) (by show w.heap.size < w13.heap.size; omega)).trans q0X
  replace q1X := (b14.cell (p := ⟨w.heap.size, 1, none⟩) (by show w.heap.size < w13.heap.size; omega)).trans q1X
  replace q2X := (b14.cell (p := ⟨w.heap.size, 2, none⟩) (by show w.heap.size < w13.heap.size; omega)).trans q2X
  replace q3X := (b14.cell (p := ⟨w.heap.size, 3, none⟩) (by show w.heap.size < w13.heap.size; omega)).trans q3X
  replace q4X := (b14.cell (p := ⟨w.heap.size, 4, none⟩) (by show w.heap.size < w13.heap.size; omega)).trans q4X
  replace q5X := (b14.cell (p := ⟨w.heap.size, 5, none⟩) (by show w.heap.size < w13.heap.size; omega)).trans q5X
  replace p0X := (b14.cell (p := ⟨w7.heap.size, 0, none⟩) (by show w7.heap.size < w13.heap.size; omega)).trans p0X
  replace p1X := (b14.cell (p := ⟨w7.heap.size, 1, none⟩) (by show w7.heap.size < w13.heap.size; omega)).trans p1X
  replace p2X := (b14.cell (p := ⟨w7.heap.size, 2, none⟩) (by show w7.heap.size < w13.heap.size; omega)).trans p2X
  replace p3X := (b14.cell (p := ⟨w7.heap.size, 3, none⟩) (by show w7.heap.size < w13.heap.size; omega)).trans p3X
  replace p4X := (b14.cell (p := ⟨w7.heap.size, 4, none⟩) (by show w7.heap.size < w13.heap.size; omega)).trans p4X
  replace p5X := (b14.cell (p := ⟨w7.heap.size, 5, none⟩) (by show w7.heap.size < w13.heap.size; omega)).trans p5X
  go_wp2_with fail
  refine Calls.mono (Calls.vq (eqInt64SS_c w14 _ _ _ _ cuts cuts rxcuts rccuts) (congrArg Value.bool (decide_eq_true rfl))) ?_
  rintro e w15 ⟨rfl, hd15⟩
  have b15 : Below w14.heap.size w14 w15 := hd15.below _
  have B15 : Below w.heap.size w w15 := B14.trans (b15.mono B14.size)
  have s15 : w14.heap.size ≤ w15.heap.size := b15.size
  replace rS0 := stable_ints.below rS0 b15
  replace rxX := stable_rows.below rxX b15
  replace rxcuts := stable_rows.below rxcuts b15
  replace rG0 := stable_ints.below rG0 b15
  replace rccuts := stable_rows.below rccuts b15
  replace q0X := (b15.cell (p := ⟨w.heap.size, 0, none⟩) (by show w.heap.size < w14.heap.size; omega)).trans q0X
  replace q1X := (b15.cell (p := ⟨w.heap.size, 1, none⟩) (by show w.heap.size < w14.heap.size; omega)).trans q1X
  replace q2X := (b15.cell (p := ⟨w.heap.size, 2, none⟩) (by show w.heap.size < w14.heap.size; omega)).trans q2X
  replace q3X := (b15.cell (p := ⟨w.heap.size, 3, none⟩) (by show w.heap.size < w14.heap.size; omega)).trans q3X
  replace q4X := (b15.cell (p := ⟨w.heap.size, 4, none⟩) (by show w.heap.size < w14.heap.size; omega)).trans q4X
  replace q5X := (b15.cell (p := ⟨w.heap.size, 5, none⟩) (by show w.heap.size < w14.heap.size; omega)).trans q5X
  replace p0X := (b15.cell (p := ⟨w7.heap.size, 0, none⟩) (by show w7.heap.size < w14.heap.size; omega)).trans p0X
  replace p1X := (b15.cell (p := ⟨w7.heap.size, 1, none⟩) (by show w7.heap.size < w14.heap.size; omega)).trans p1X
  replace p2X := (b15.cell (p := ⟨w7.heap.size, 2, none⟩) (by show w7.heap.size < w14.heap.size; omega)).trans p2X
  replace p3X := (b15.cell (p := ⟨w7.heap.size, 3, none⟩) (by show w7.heap.size < w14.heap.size; omega)).trans p3X
  replace p4X := (b15.cell (p := ⟨w7.heap.size, 4, none⟩) (by show w7.heap.size < w14.heap.size; omega)).trans p4X
  replace p5X := (b15.cell (p := ⟨w7.heap.size, 5, none⟩) (by show w7.heap.size < w14.heap.size; omega)).trans p5X
  clear rccuts
  have ofX : offs X X.length ≤ 1048576 := by have := offs_all X; omega
  have ofcuts : offs cuts cuts.length ≤ 1048576 := by have := offs_all cuts; omega
  go_wp2_with fail
  refine Calls.mono (markSystemA_c w15 _ _ _ X _ rxX rfl (by omega) (by omega)) ?_
  rintro e w16 ⟨rfl, rmxX, wm16, hb16, hw16⟩
  have hz16 : w16.heap.size = wm16.heap.size := hw16.size
  have hy16 : w15.heap.size ≤ wm16.heap.size := hb16.size
  have B16 : Below w.heap.size w w16 := (B15.trans (hb16.mono B15.size)).trans (hw16.below (by simp only [Zone.new]; omega))
  clear rxX
  replace rS0 := stable_ints.within (stable_ints.below rS0 hb16) hw16 (fun k h1 h2 => by have q1 := h1.1; have q2 := h1.2; have q3 := h2.1; have q4 := h2.2; simp only [Zone.new] at q1 q2 q3 q4; omega)
  replace rxcuts := stable_rows.within (stable_rows.below rxcuts hb16) hw16 (fun k h1 h2 => by have q1 := h1.1; have q2 := h1.2; have q3 := h2.1; have q4 := h2.2; simp only [Zone.new] at q1 q2 q3 q4; omega)
  replace rG0 := stable_ints.within (stable_ints.below rG0 hb16) hw16 (fun k h1 h2 => by have q1 := h1.1; have q2 := h1.2; have q3 := h2.1; have q4 := h2.2; simp only [Zone.new] at q1 q2 q3 q4; omega)
  clear p0X
  clear p1X
  clear p2X
  clear p3X
  clear p4X
  clear p5X
  replace q0X := (hw16.cell (p := ⟨w.heap.size, 0, none⟩) (fun h => by have q1 := h.1; simp only [Zone.new] at q1; omega)).trans ((hb16.cell (p := ⟨w.heap.size, 0, none⟩) (by show w.heap.size < w15.heap.size; omega)).trans q0X)
  replace q1X := (hw16.cell (p := ⟨w.heap.size, 1, none⟩) (fun h => by have q1 := h.1; simp only [Zone.new] at q1; omega)).trans ((hb16.cell (p := ⟨w.heap.size, 1, none⟩) (by show w.heap.size < w15.heap.size; omega)).trans q1X)
  replace q2X := (hw16.cell (p := ⟨w.heap.size, 2, none⟩) (fun h => by have q1 := h.1; simp only [Zone.new] at q1; omega)).trans ((hb16.cell (p := ⟨w.heap.size, 2, none⟩) (by show w.heap.size < w15.heap.size; omega)).trans q2X)
  replace q3X := (hw16.cell (p := ⟨w.heap.size, 3, none⟩) (fun h => by have q1 := h.1; simp only [Zone.new] at q1; omega)).trans ((hb16.cell (p := ⟨w.heap.size, 3, none⟩) (by show w.heap.size < w15.heap.size; omega)).trans q3X)
  replace q4X := (hw16.cell (p := ⟨w.heap.size, 4, none⟩) (fun h => by have q1 := h.1; simp only [Zone.new] at q1; omega)).trans ((hb16.cell (p := ⟨w.heap.size, 4, none⟩) (by show w.heap.size < w15.heap.size; omega)).trans q4X)
  replace q5X := (hw16.cell (p := ⟨w.heap.size, 5, none⟩) (fun h => by have q1 := h.1; simp only [Zone.new] at q1; omega)).trans ((hb16.cell (p := ⟨w.heap.size, 5, none⟩) (by show w.heap.size < w15.heap.size; omega)).trans q5X)
  have s16 : w15.heap.size ≤ w16.heap.size := by omega
  clear hw16 hb16
  clear rmxX
  have ck1 : (0 : Int) ≤ 1 + (offs X X.length : Int) ∧ 1 + (offs X X.length : Int) ≤ 1048577 := by omega
  obtain ⟨ck1a, ck1b⟩ := ck1
  generalize (1 : Int) + (offs X X.length : Int) = k1 at *
  go_wp2_with fail
  refine Calls.mono (markInt64SS_c w16 _ _ cuts _ rxcuts rfl (by omega) (by omega)) ?_
  rintro e w17 ⟨rfl, rmxcuts, hw17⟩
  have hz17 : w17.heap.size = w16.heap.size := hw17.size
  have B17 : Below w.heap.size w w17 := B16.trans (hw17.below (by simp only [Zone.new]; omega))
  clear rxcuts
  replace rS0 := stable_ints.within rS0 hw17 (fun k h1 h2 => by have q1 := h1.1; have q2 := h1.2; have q3 := h2.1; have q4 := h2.2; simp only [Zone.new] at q1 q2 q3 q4; omega)
  replace rG0 := stable_ints.within rG0 hw17 (fun k h1 h2 => by have q1 := h1.1; have q2 := h1.2; have q3 := h2.1; have q4 := h2.2; simp only [Zone.new] at q1 q2 q3 q4; omega)
  replace q0X := (hw17.cell (p := ⟨w.heap.size, 0, none⟩) (fun h => by have q1 := h.1; simp only [Zone.new] at q1; omega)).trans q0X
  replace q1X := (hw17.cell (p := ⟨w.heap.size, 1, none⟩) (fun h => by have q1 := h.1; simp only [Zone.new] at q1; omega)).trans q1X
  replace q2X := (hw17.cell (p := ⟨w.heap.size, 2, none⟩) (fun h => by have q1 := h.1; simp only [Zone.new] at q1; omega)).trans q2X
  replace q3X := (hw17.cell (p := ⟨w.heap.size, 3, none⟩) (fun h => by have q1 := h.1; simp only [Zone.new] at q1; omega)).trans q3X
  replace q4X := (hw17.cell (p := ⟨w.heap.size, 4, none⟩) (fun h => by have q1 := h.1; simp only [Zone.new] at q1; omega)).trans q4X
  replace q5X := (hw17.cell (p := ⟨w.heap.size, 5, none⟩) (fun h => by have q1 := h.1; simp only [Zone.new] at q1; omega)).trans q5X
  have s17 : w16.heap.size ≤ w17.heap.size := by omega
  clear hw17
  clear rmxcuts
  have ck2 : (0 : Int) ≤ k1 + (offs cuts cuts.length : Int) ∧ k1 + (offs cuts cuts.length : Int) ≤ 2097153 := by omega
  obtain ⟨ck2a, ck2b⟩ := ck2
  generalize (k1 : Int) + (offs cuts cuts.length : Int) = k2 at *
  go_wp2_with fail
  refine Calls.mono (Calls.vq (eqInt64S_c w17 _ _ _ _ res0 res0 rG0 rS0) (congrArg Value.bool (decide_eq_true rfl))) ?_
  rintro e w18 ⟨rfl, hd18⟩
  have b18 : Below w17.heap.size w17 w18 := hd18.below _
  have B18 : Below w.heap.size w w18 := B17.trans (b18.mono B17.size)
  have s18 : w17.heap.size ≤ w18.heap.size := b18.size
  replace rS0 := stable_ints.below rS0 b18
  replace rG0 := stable_ints.below rG0 b18
  replace q0X := (b18.cell (p := ⟨w.heap.size, 0, none⟩) (by show w.heap.size < w17.heap.size; omega)).trans q0X
  replace q1X := (b18.cell (p := ⟨w.heap.size, 1, none⟩) (by show w.heap.size < w17.heap.size; omega)).trans q1X
  replace q2X := (b18.cell (p := ⟨w.heap.size, 2, none⟩) (by show w.heap.size < w17.heap.size; omega)).trans q2X
  replace q3X := (b18.cell (p := ⟨w.heap.size, 3, none⟩) (by show w.heap.size < w17.heap.size; omega)).trans q3X
  replace q4X := (b18.cell (p := ⟨w.heap.size, 4, none⟩) (by show w.heap.size < w17.heap.size; omega)).trans q4X
  replace q5X := (b18.cell (p := ⟨w.heap.size, 5, none⟩) (by show w.heap.size < w17.heap.size; omega)).trans q5X
  go_wp2_with fail
  refine Calls.mono (markInt64S_c w18 _ _ res0 _ rG0 rfl (by omega) (by omega)) ?_
  rintro e w19 ⟨rfl, rmG0, hw19⟩
  have hz19 : w19.heap.size = w18.heap.size := hw19.size
  have B19 : Below w.heap.size w w19 := B18.trans (hw19.below (by simp only [Zone.new]; omega))
  clear rG0
  replace rS0 := stable_ints.within rS0 hw19 (fun k h1 h2 => by have q1 := h1.1; have q2 := h1.2; have q3 := h2.1; have q4 := h2.2; simp only [Zone.new] at q1 q2 q3 q4; omega)
  replace q0X := (hw19.cell (p := ⟨w.heap.size, 0, none⟩) (fun h => by have q1 := h.1; simp only [Zone.new] at q1; omega)).trans q0X
  replace q1X := (hw19.cell (p := ⟨w.heap.size, 1, none⟩) (fun h => by have q1 := h.1; simp only [Zone.new] at q1; omega)).trans q1X
  replace q2X := (hw19.cell (p := ⟨w.heap.size, 2, none⟩) (fun h => by have q1 := h.1; simp only [Zone.new] at q1; omega)).trans q2X
  replace q3X := (hw19.cell (p := ⟨w.heap.size, 3, none⟩) (fun h => by have q1 := h.1; simp only [Zone.new] at q1; omega)).trans q3X
  replace q4X := (hw19.cell (p := ⟨w.heap.size, 4, none⟩) (fun h => by have q1 := h.1; simp only [Zone.new] at q1; omega)).trans q4X
  replace q5X := (hw19.cell (p := ⟨w.heap.size, 5, none⟩) (fun h => by have q1 := h.1; simp only [Zone.new] at q1; omega)).trans q5X
  have s19 : w18.heap.size ≤ w19.heap.size := by omega
  clear hw19
  obtain ⟨m1, em1⟩ : ∃ t : Int, t = 1 + (res0.length : Int) := ⟨_, rfl⟩
  rw [← em1]
  have gm1a : 0 ≤ m1 ∧ m1 ≤ 1048577 := by omega
  have Em1 := Lib.hid em1; clear em1; obtain ⟨gm1a, gm1b⟩ := gm1a
  go_wp2_with fail
  refine Calls.mono (Calls.vq (heldInt64S_c w19 _ _ res0.length _ rmG0 (by omega) (by have := Em1.out; omega)) (congrArg (Value.int .i64) Em1.out.symm)) ?_
  rintro e w20 ⟨rfl, hd20⟩
  have b20 : Below w19.heap.size w19 w20 := hd20.below _
  have B20 : Below w.heap.size w w20 := B19.trans (b20.mono B19.size)
  have s20 : w19.heap.size ≤ w20.heap.size := b20.size
  replace rS0 := stable_ints.below rS0 b20
  replace rmG0 := stable_ints.below rmG0 b20
  replace q0X := (b20.cell (p := ⟨w.heap.size, 0, none⟩) (by show w.heap.size < w19.heap.size; omega)).trans q0X
  replace q1X := (b20.cell (p := ⟨w.heap.size, 1, none⟩) (by show w.heap.size < w19.heap.size; omega)).trans q1X
  replace q2X := (b20.cell (p := ⟨w.heap.size, 2, none⟩) (by show w.heap.size < w19.heap.size; omega)).trans q2X
  replace q3X := (b20.cell (p := ⟨w.heap.size, 3, none⟩) (by show w.heap.size < w19.heap.size; omega)).trans q3X
  replace q4X := (b20.cell (p := ⟨w.heap.size, 4, none⟩) (by show w.heap.size < w19.heap.size; omega)).trans q4X
  replace q5X := (b20.cell (p := ⟨w.heap.size, 5, none⟩) (by show w.heap.size < w19.heap.size; omega)).trans q5X
  go_wp2_with fail
  refine Calls.mono (toSystemA_c w20 MX _ _ X (stable_rows.below hX B20) lbX) ?_
  rintro e w21 ⟨rvyX, rfl, ⟨uyX, rfl, ryX⟩, bb21⟩
  have b21 : Below w20.heap.size w20 w21 := bb21
  have B21 : Below w.heap.size w w21 := B20.trans (b21.mono B20.size)
  have s21 : w20.heap.size ≤ w21.heap.size := b21.size
  replace rS0 := stable_ints.below rS0 b21
  replace rmG0 := stable_ints.below rmG0 b21
  replace q0X := (b21.cell (p := ⟨w.heap.size, 0, none⟩) (by show w.heap.size < w20.heap.size; omega)).trans q0X
  replace q1X := (b21.cell (p := ⟨w.heap.size, 1, none⟩) (by show w.heap.size < w20.heap.size; omega)).trans q1X
  replace q2X := (b21.cell (p := ⟨w.heap.size, 2, none⟩) (by show w.heap.size < w20.heap.size; omega)).trans q2X
  replace q3X := (b21.cell (p := ⟨w.heap.size, 3, none⟩) (by show w.heap.size < w20.heap.size; omega)).trans q3X
  replace q4X := (b21.cell (p := ⟨w.heap.size, 4, none⟩) (by show w.heap.size < w20.heap.size; omega)).trans q4X
  replace q5X := (b21.cell (p := ⟨w.heap.size, 5, none⟩) (by show w.heap.size < w20.heap.size; omega)).trans q5X
  obtain ⟨ayX, nyX, kyX, rfl, -⟩ := SliceR.shape ryX
  go_wp2_with fail
  refine Calls.mono (toInt64SS_c w21 _ _ cuts (stable_rows.below hcuts B21) lbcuts) ?_
  rintro e w22 ⟨uycuts, rfl, rycuts, bb22⟩
  have b22 : Below w21.heap.size w21 w22 := bb22
  have B22 : Below w.heap.size w w22 := B21.trans (b22.mono B21.size)
  have s22 : w21.heap.size ≤ w22.heap.size := b22.size
  replace rS0 := stable_ints.below rS0 b22
  replace rmG0 := stable_ints.below rmG0 b22
  replace ryX := stable_rows.below ryX b22
  replace q0X := (b22.cell (p := ⟨w.heap.size, 0, none⟩) (by show w.heap.size < w21.heap.size; omega)).trans q0X
  replace q1X := (b22.cell (p := ⟨w.heap.size, 1, none⟩) (by show w.heap.size < w21.heap.size; omega)).trans q1X
  replace q2X := (b22.cell (p := ⟨w.heap.size, 2, none⟩) (by show w.heap.size < w21.heap.size; omega)).trans q2X
  replace q3X := (b22.cell (p := ⟨w.heap.size, 3, none⟩) (by show w.heap.size < w21.heap.size; omega)).trans q3X
  replace q4X := (b22.cell (p := ⟨w.heap.size, 4, none⟩) (by show w.heap.size < w21.heap.size; omega)).trans q4X
  replace q5X := (b22.cell (p := ⟨w.heap.size, 5, none⟩) (by show w.heap.size < w21.heap.size; omega)).trans q5X
  go_wp2_with fail
  refine Calls.mono (CI.out w22 _ _ _ _ ryX rycuts) ?_
  rintro e w23 ⟨rr23, rfl, ⟨H0, rfl, rH0⟩, bb23⟩
  have b23 : Below w22.heap.size w22 w23 := bb23
  have B23 : Below w.heap.size w w23 := B22.trans (b23.mono B22.size)
  have s23 : w22.heap.size ≤ w23.heap.size := b23.size
  replace rS0 := stable_ints.below rS0 b23
  replace rmG0 := stable_ints.below rmG0 b23
  replace ryX := stable_rows.below ryX b23
  replace rycuts := stable_rows.below rycuts b23
  replace q0X := (b23.cell (p := ⟨w.heap.size, 0, none⟩) (by show w.heap.size < w22.heap.size; omega)).trans q0X
  replace q1X := (b23.cell (p := ⟨w.heap.size, 1, none⟩) (by show w.heap.size < w22.heap.size; omega)).trans q1X
  replace q2X := (b23.cell (p := ⟨w.heap.size, 2, none⟩) (by show w.heap.size < w22.heap.size; omega)).trans q2X
  replace q3X := (b23.cell (p := ⟨w.heap.size, 3, none⟩) (by show w.heap.size < w22.heap.size; omega)).trans q3X
  replace q4X := (b23.cell (p := ⟨w.heap.size, 4, none⟩) (by show w.heap.size < w22.heap.size; omega)).trans q4X
  replace q5X := (b23.cell (p := ⟨w.heap.size, 5, none⟩) (by show w.heap.size < w22.heap.size; omega)).trans q5X
  clear ryX
  clear rycuts
  go_wp2_with fail
  refine Calls.mono (Calls.vq (eqInt64S_c w23 _ _ _ _ res0 res0 rH0 rS0) (congrArg Value.bool (decide_eq_true rfl))) ?_
  rintro e w24 ⟨rfl, hd24⟩
  have b24 : Below w23.heap.size w23 w24 := hd24.below _
  have B24 : Below w.heap.size w w24 := B23.trans (b24.mono B23.size)
  have s24 : w23.heap.size ≤ w24.heap.size := b24.size
  replace rS0 := stable_ints.below rS0 b24
  replace rmG0 := stable_ints.below rmG0 b24
  replace rH0 := stable_ints.below rH0 b24
  replace q0X := (b24.cell (p := ⟨w.heap.size, 0, none⟩) (by show w.heap.size < w23.heap.size; omega)).trans q0X
  replace q1X := (b24.cell (p := ⟨w.heap.size, 1, none⟩) (by show w.heap.size < w23.heap.size; omega)).trans q1X
  replace q2X := (b24.cell (p := ⟨w.heap.size, 2, none⟩) (by show w.heap.size < w23.heap.size; omega)).trans q2X
  replace q3X := (b24.cell (p := ⟨w.heap.size, 3, none⟩) (by show w.heap.size < w23.heap.size; omega)).trans q3X
  replace q4X := (b24.cell (p := ⟨w.heap.size, 4, none⟩) (by show w.heap.size < w23.heap.size; omega)).trans q4X
  replace q5X := (b24.cell (p := ⟨w.heap.size, 5, none⟩) (by show w.heap.size < w23.heap.size; omega)).trans q5X
  go_wp2_with fail
  refine Calls.mono (Calls.vq (heldInt64S_c w24 _ _ res0.length _ rmG0 (by omega) (by have := Em1.out; omega)) (congrArg (Value.int .i64) Em1.out.symm)) ?_
  rintro e w25 ⟨rfl, hd25⟩
  have b25 : Below w24.heap.size w24 w25 := hd25.below _
  have B25 : Below w.heap.size w w25 := B24.trans (b25.mono B24.size)
  have s25 : w24.heap.size ≤ w25.heap.size := b25.size
  replace rS0 := stable_ints.below rS0 b25
  replace rmG0 := stable_ints.below rmG0 b25
  replace rH0 := stable_ints.below rH0 b25
  replace q0X := (b25.cell (p := ⟨w.heap.size, 0, none⟩) (by show w.heap.size < w24.heap.size; omega)).trans q0X
  replace q1X := (b25.cell (p := ⟨w.heap.size, 1, none⟩) (by show w.heap.size < w24.heap.size; omega)).trans q1X
  replace q2X := (b25.cell (p := ⟨w.heap.size, 2, none⟩) (by show w.heap.size < w24.heap.size; omega)).trans q2X
  replace q3X := (b25.cell (p := ⟨w.heap.size, 3, none⟩) (by show w.heap.size < w24.heap.size; omega)).trans q3X
  replace q4X := (b25.cell (p := ⟨w.heap.size, 4, none⟩) (by show w.heap.size < w24.heap.size; omega)).trans q4X
  replace q5X := (b25.cell (p := ⟨w.heap.size, 5, none⟩) (by show w.heap.size < w24.heap.size; omega)).trans q5X
  go_wp2_with fail
  go_ret
  exact ⟨_, rfl, rfl, B25⟩


/-! ### the row -/
theorem own : ownKnob Try.prog.godebug = none := by kernel_rfl
theorem laidOut : laidOutB Try.prog = true := by kernel_rfl
set_option maxRecDepth 100000 in
theorem lifted (os : Os) (started : os.Started) (H : Type) (enc : TypeId × Value → H) :
    ReturnsInHanded {} Try.checked os 11 .any (Rows.fnExactThinDoorsSpec.pre6 enc Try.prog Try.f11 Rows.fnExactThinDoorsRow.domain false) (Rows.fnExactThinDoorsSpec.post enc Try.prog Try.f11 false true false false) := by
  refine returnsInHanded_of_change (C := Try.checked) own started (by kernel_rfl) Try.func11
    (ChangeSpec.witness6 (enc := enc) (C := Try.checked) false ⟨#[], #[.agg #[.int .i64 0, .int .i64 0, .int .i64 0, .int .i64 0, .int .i64 0, .slice none 0 0], .slice none 0 0, .int .i64 0], []⟩ 8 (by kernel_rfl) (by kernel_rfl) (by kernel_rfl) (by kernel_rfl)) ?_
  intro W base args ds gs before hval0 hW hcnd _
  have hval : ∀ (j : Nat) t v, Try.f11.params[j]? = some t → args[j]? = some v → Value.okWide Try.prog W .any base t v := hval0
  have hW' := hW
  obtain ⟨p, q, hA0, hV, rfl, hfz, hnd⟩ := hW
  have hA : DataW.TrodAll enc Try.prog W 0 (fun _ => true) true Try.f11.params.toList args.toList ds p := hA0
  rw [Try.params11] at hA hval
  obtain ⟨v0, vs0, d0, ds0, p0, q0, hargs, rfl, rfl, h0, r0⟩ := trodAll_cons hA
  obtain ⟨v1, vs1, d1, ds1, p1, q1, rfl, rfl, rfl, h1, r1⟩ := trodAll_cons r0
  obtain ⟨v2, vs2, d2, ds2, p2, q2, rfl, rfl, rfl, h2, r2⟩ := trodAll_cons r1
  obtain ⟨rfl, rfl, rfl⟩ := trodAll_nil r2
  obtain rfl : args = #[v0, v1, v2] := by cases args; simp_all
  obtain ⟨rfl, rfl⟩ := trodVars_none hV
  have k0 := h0
  have lt0 : ∀ x ∈ p0, x.block < W.heap.size := by obtain ⟨m, hm⟩ := k0; exact DataW.trod_lt m _ _ _ hm
  obtain ⟨M0, u0, y0, m0, rfl, hw0, hu0⟩ := open_sys Try.underlying26 Try.underlying23 (by kernel_rfl) (by kernel_rfl) (by kernel_rfl) rfl rfl ⟨rfl, by kernel_rfl, Try.underlying2⟩ ⟨rfl, by kernel_rfl, Try.underlying2⟩ ⟨rfl, by kernel_rfl, Try.underlying2⟩ ⟨rfl, by kernel_rfl, Try.underlying2⟩ ⟨rfl, by kernel_rfl, Try.underlying2⟩ (hval 0 26 v0 rfl rfl) h0
  obtain ⟨x0, b0⟩ := open_RowsR Try.underlying24 Try.underlying27 Try.underlying2 (by kernel_rfl) (by kernel_rfl) hu0
  have k1 := h1
  have lt1 : ∀ x ∈ p1, x.block < W.heap.size := by obtain ⟨m, hm⟩ := k1; exact DataW.trod_lt m _ _ _ hm
  obtain ⟨a1, len1, cap1, rfl⟩ := okWide_slice Try.underlying24 (hval 1 24 v1 rfl rfl)
  obtain ⟨x1, w1⟩ : ∃ xs, RowsR (.old W) W (.slice a1 len1 cap1) xs := by obtain ⟨fuel, hf⟩ := h1; exact open_RowsR Try.underlying24 Try.underlying27 Try.underlying2 (by kernel_rfl) (by kernel_rfl) hf
  have k2 := h2
  have lt2 : ∀ x ∈ p2, x.block < W.heap.size := by obtain ⟨m, hm⟩ := k2; exact DataW.trod_lt m _ _ _ hm
  obtain ⟨a2, rfl, -, -, g2⟩ := open_int Try.underlying2 (hval 2 2 v2 rfl rfl) h2
  have w2 := wf_i64 g2
  clear hA0 hval0
  refine (walk W M0 _ x0 b0 _ x1 w1 a2 w2).mono fun e W' hret => ?_
  obtain ⟨r, rfl, rfl, bel⟩ := hret
  exact ⟨_, rfl, _, _, _, [], _, [], hW', trodAll_mk1 (shut_bool Try.underlying4 _), (trodAll_cons_mk (Below.trod laidOut (by kernel_rfl) (of_decide_eq_true (by kernel_rfl)) k0 bel lt0) (trodAll_cons_mk (Below.trod laidOut (by kernel_rfl) (of_decide_eq_true (by kernel_rfl)) k1 bel lt1) (trodAll_cons_mk (Below.trod laidOut (by kernel_rfl) (of_decide_eq_true (by kernel_rfl)) k2 bel lt2) trodAll_mk0))), rfl, bel.frame _, fun h => by cases h⟩

theorem over : Rows.fnExactThinDoorsRow.holds Try.pinned (OpenSpec.ofChange Rows.fnExactThinDoorsSpec) :=
  OpenClaim.holds_of_wide 11 Try.f11 rfl rfl rfl rfl rfl rfl rfl ⟨rfl, rfl, rfl, rfl, rfl⟩ rfl rfl rfl rfl rfl (by kernel_rfl) Try.func11 (by kernel_rfl)
    (of_decide_eq_true (by kernel_rfl)) (by unfold Func.isWrapper; first | (rw [if_pos (by decide +kernel)]; kernel_rfl) | (rw [if_neg (by decide +kernel)]; exact ⟨rfl, rfl⟩))
    (fun os started H enc _ => lifted os started H enc)

theorem proved : Rows.FnExactThinDoorsSaid := over


end fnExactThinDoors
end Go.Proofs.Ytgagjibjnaappaa
