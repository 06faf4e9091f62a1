/- Proved: the walk of laws.FnExactEasiestKey. -/
import Derived.Test.YtblmccofkochoaaGreatRows
import Derived.Deep.RegionHeld3
import Derived.Test.YtblmccofkochoaaGreatUPkL
import Derived.Test.YtblmccofkochoaaGreatUEasySpec
import Derived.Test.YtblmccofkochoaaGreatUEasyImpl
namespace Go.Proofs.YtblmccofkochoaaGreat
open Go.ChangeShapes Go.WideShapes Go.ChangeAt Go.RowKit
set_option linter.unusedVariables false
namespace fnExactEasiestKey

theorem easiest_size (mk : MK) (t cuts : List (List Int)) (row : List Int) : ((easiest mk t cuts row).1.length : Int) ≤ 1048576 := by
  unfold easiest
  split
  · simp
  · next h1 =>
    split
    · simp
    · next b hb =>
      have hm := List.mem_filter.1 (easL_mem hb)
      have okm := designOk_mk (rowCode_zero (by omega : rowCode mk t cuts row [] = 0)).toDesignOk
      have := okm.c6
      have := (allK_mem hm.1).1
      show (b.length : Int) ≤ _
      omega
set_option maxRecDepth 20000 in
set_option maxHeartbeats 2000000 in
theorem walk (w : World) (MX : MK) (vX : Value) (X : List (List Int)) (hX : RowsR (.old w) w vX X) (vcuts : Value) (cuts : List (List Int)) (hcuts : RowsR (.old w) w vcuts cuts) (vrow : Value) (row : List Int) (hrow : IntsR (.old w) w vrow row) :
    Calls Tryz.prog 4 #[.agg #[.int .i64 MX.c, .int .i64 MX.d, .int .i64 MX.s, .int .i64 MX.m, .int .i64 MX.l, vX], vcuts, vrow] w (Ret w fun r _ => r = .bool true) := by
  obtain ⟨aX, nX, cX, rfl, shX, -⟩ := SliceR.shape hX
  clear shX
  obtain ⟨acuts, ncuts, ccuts, rfl, shcuts, -⟩ := SliceR.shape hcuts
  clear shcuts
  obtain ⟨arow, nrow, crow, rfl, shrow, -⟩ := SliceR.shape hrow
  have Hnrow := Lib.hid shrow; clear shrow
  rcases Nat.lt_or_ge 1048576 nrow with hlrow | hlrow
  · go_enter Tryz.func4, Tryz.ntmps4
    go_wp2_with fail
    go_ret
    exact ⟨_, rfl, rfl, (Below.refl _ _).alloc (Nat.le_refl _) _⟩
  have hlrow : row.length ≤ 1048576 := by rw [← Hnrow.out]; exact hlrow
  have cS : ∀ (wq : World) (yX : Value) (zX : Zone) (ycuts : Value) (zcuts : Zone) (yrow : Value) (zrow : Zone) (gX : RowsR zX wq yX X) (gcuts : RowsR zcuts wq ycuts cuts) (grow : IntsR zrow wq yrow row), Calls Tryz.prog 27 #[.agg #[.int .i64 MX.c, .int .i64 MX.d, .int .i64 MX.s, .int .i64 MX.m, .int .i64 MX.l, yX], ycuts, yrow] wq (Ret wq fun r w' => ∃ u0, r = .tuple #[u0, .int .i64 (easiest MX X cuts row).2.1, .int .i64 (easiest MX X cuts row).2.2] ∧ IntsR (.new wq w') w' u0 (easiest MX X cuts row).1) := fun wq yX zX ycuts zcuts yrow zrow gX gcuts grow => (fun w M v z x h u y cuts h2 v3 z3 row h3 => EasiestKeySpec_c w M v z x h u y cuts h2 v3 z3 row h3) wq MX yX zX X gX ycuts zcuts cuts gcuts yrow zrow row grow
  have cI : ∀ (wq : World) (yX : Value) (zX : Zone) (ycuts : Value) (zcuts : Zone) (yrow : Value) (zrow : Zone) (gX : RowsR zX wq yX X) (gcuts : RowsR zcuts wq ycuts cuts) (grow : IntsR zrow wq yrow row), Calls Tryz.prog 28 #[.agg #[.int .i64 MX.c, .int .i64 MX.d, .int .i64 MX.s, .int .i64 MX.m, .int .i64 MX.l, yX], ycuts, yrow] wq (Ret wq fun r w' => ∃ u0, r = .tuple #[u0, .int .i64 (easiest MX X cuts row).2.1, .int .i64 (easiest MX X cuts row).2.2] ∧ IntsR (.new wq w') w' u0 (easiest MX X cuts row).1) := fun wq yX zX ycuts zcuts yrow zrow gX gcuts grow => (fun w M v z x h u y cuts h2 v3 z3 row h3 => EasiestKey_c w M v z x h u y cuts h2 v3 z3 row h3) wq MX yX zX X gX ycuts zcuts cuts gcuts yrow zrow row grow
  have LR0 : (((easiest MX X cuts row).1).length : Int) ≤ 1048576 := easiest_size _ _ _ _
  generalize (easiest MX X cuts row).1 = res0 at cS cI LR0
  generalize (easiest MX X cuts row).2.1 = res1 at cS cI LR0
  generalize (easiest MX X cuts row).2.2 = res2 at cS cI LR0
  have CS := Lib.hid cS; have CI := Lib.hid cI; clear cS cI
  go_enter Tryz.func4, Tryz.ntmps4
  go_wp2_with fail
  generalize hwb1 : World.alloc _ _ = w1
  have b1 : Below w.heap.size w w1 := by rw [← hwb1]; exact (Below.refl _ _).alloc (Nat.le_refl _) _
  have s1 : w.heap.size < w1.heap.size := by rw [← hwb1]; simp
  have q0X : w1.cell? ⟨w.heap.size, 0, none⟩ = some (.int .i64 MX.c) := by rw [← hwb1]; clear hwb1; go_simp
  have q1X : w1.cell? ⟨w.heap.size, 1, none⟩ = some (.int .i64 MX.d) := by rw [← hwb1]; clear hwb1; go_simp
  have q2X : w1.cell? ⟨w.heap.size, 2, none⟩ = some (.int .i64 MX.s) := by rw [← hwb1]; clear hwb1; go_simp
  have q3X : w1.cell? ⟨w.heap.size, 3, none⟩ = some (.int .i64 MX.m) := by rw [← hwb1]; clear hwb1; go_simp
  have q4X : w1.cell? ⟨w.heap.size, 4, none⟩ = some (.int .i64 MX.l) := by rw [← hwb1]; clear hwb1; go_simp
  have q5X : w1.cell? ⟨w.heap.size, 5, none⟩ = some (.slice aX nX cX) := by rw [← hwb1]; clear hwb1; go_simp
  clear hwb1
  have B1 : Below w.heap.size w w1 := b1
  have szX := szSystemA_c w1 MX _ _ X 1048576 (stable_rows.below hX B1) (by omega) (by omega)
  rcases Nat.lt_or_ge (1048576 : Int).toNat (bulk X) with hbX | hbX
  · rw [szLeft_neg (by omega)] at szX
    refine Calls.mono szX ?_
    rintro e wx ⟨r, rfl, rfl, bx⟩
    go_wp2_with fail
    go_ret
    exact ⟨_, rfl, rfl, B1.trans (bx.mono B1.size)⟩
  rw [szLeft_pos (by omega)] at szX
  have lbX : bulk X ≤ 1048576 := by omega
  have lgX : (0 : Int) ≤ 1048576 - (bulk X : Int) := by omega
  have lhX : 1048576 - (bulk X : Int) ≤ 1048576 := by omega
  generalize (1048576 : Int) - (bulk X : Int) = lX at *
  refine Calls.mono szX ?_
  rintro e w2 ⟨r, rfl, rfl, hd2⟩
  clear szX
  have b2 : Below w1.heap.size w1 w2 := hd2
  have B2 : Below w.heap.size w w2 := B1.trans (b2.mono B1.size)
  have s2 : w1.heap.size ≤ w2.heap.size := b2.size
  replace q0X := (b2.cell (p := ⟨w.heap.size, 0, none⟩) (by show w.heap.size < w1.heap.size; omega)).trans q0X
  replace q1X := (b2.cell (p := ⟨w.heap.size, 1, none⟩) (by show w.heap.size < w1.heap.size; omega)).trans q1X
  replace q2X := (b2.cell (p := ⟨w.heap.size, 2, none⟩) (by show w.heap.size < w1.heap.size; omega)).trans q2X
  replace q3X := (b2.cell (p := ⟨w.heap.size, 3, none⟩) (by show w.heap.size < w1.heap.size; omega)).trans q3X
  replace q4X := (b2.cell (p := ⟨w.heap.size, 4, none⟩) (by show w.heap.size < w1.heap.size; omega)).trans q4X
  replace q5X := (b2.cell (p := ⟨w.heap.size, 5, none⟩) (by show w.heap.size < w1.heap.size; omega)).trans q5X
  have szcuts := szInt64SS_c w2 _ _ cuts lX (stable_rows.below hcuts B2) (by omega) (by omega)
  go_wp2_with fail
  rcases Nat.lt_or_ge (lX : Int).toNat (bulk cuts) with hbcuts | hbcuts
  · rw [szLeft_neg (by omega)] at szcuts
    refine Calls.mono szcuts ?_
    rintro e wx ⟨rfl, hdx⟩
    go_wp2_with fail
    go_ret
    exact ⟨_, rfl, rfl, B2.trans (hdx.below _)⟩
  rw [szLeft_pos (by omega)] at szcuts
  have lbcuts : bulk cuts ≤ 1048576 := by omega
  have lgcuts : (0 : Int) ≤ lX - (bulk cuts : Int) := by omega
  have lhcuts : lX - (bulk cuts : Int) ≤ 1048576 := by omega
  generalize (lX : Int) - (bulk cuts : Int) = lcuts at *
  refine Calls.mono szcuts ?_
  rintro e w3 ⟨rfl, hd3⟩
  clear szcuts
  have b3 : Below w2.heap.size w2 w3 := hd3.below _
  have B3 : Below w.heap.size w w3 := B2.trans (b3.mono B2.size)
  have s3 : w2.heap.size ≤ w3.heap.size := b3.size
  replace q0X := (b3.cell (p := ⟨w.heap.size, 0, none⟩) (by show w.heap.size < w2.heap.size; omega)).trans q0X
  replace q1X := (b3.cell (p := ⟨w.heap.size, 1, none⟩) (by show w.heap.size < w2.heap.size; omega)).trans q1X
  replace q2X := (b3.cell (p := ⟨w.heap.size, 2, none⟩) (by show w.heap.size < w2.heap.size; omega)).trans q2X
  replace q3X := (b3.cell (p := ⟨w.heap.size, 3, none⟩) (by show w.heap.size < w2.heap.size; omega)).trans q3X
  replace q4X := (b3.cell (p := ⟨w.heap.size, 4, none⟩) (by show w.heap.size < w2.heap.size; omega)).trans q4X
  replace q5X := (b3.cell (p := ⟨w.heap.size, 5, none⟩) (by show w.heap.size < w2.heap.size; omega)).trans q5X
  go_wp2_with fail
  refine Calls.mono (toSystemA_c w3 MX _ _ X (stable_rows.below hX B3) lbX) ?_
  rintro e w4 ⟨rvsX, rfl, ⟨usX, rfl, rsX⟩, bb4⟩
  have b4 : Below w3.heap.size w3 w4 := bb4
  have B4 : Below w.heap.size w w4 := B3.trans (b4.mono B3.size)
  have s4 : w3.heap.size ≤ w4.heap.size := b4.size
  replace q0X := (b4.cell (p := ⟨w.heap.size, 0, none⟩) (by show w.heap.size < w3.heap.size; omega)).trans q0X
  replace q1X := (b4.cell (p := ⟨w.heap.size, 1, none⟩) (by show w.heap.size < w3.heap.size; omega)).trans q1X
  replace q2X := (b4.cell (p := ⟨w.heap.size, 2, none⟩) (by show w.heap.size < w3.heap.size; omega)).trans q2X
  replace q3X := (b4.cell (p := ⟨w.heap.size, 3, none⟩) (by show w.heap.size < w3.heap.size; omega)).trans q3X
  replace q4X := (b4.cell (p := ⟨w.heap.size, 4, none⟩) (by show w.heap.size < w3.heap.size; omega)).trans q4X
  replace q5X := (b4.cell (p := ⟨w.heap.size, 5, none⟩) (by show w.heap.size < w3.heap.size; omega)).trans q5X
  obtain ⟨asX, nsX, ksX, rfl, -⟩ := SliceR.shape rsX
  go_wp2_with fail
  refine Calls.mono (toInt64SS_c w4 _ _ cuts (stable_rows.below hcuts B4) lbcuts) ?_
  rintro e w5 ⟨uscuts, rfl, rscuts, bb5⟩
  have b5 : Below w4.heap.size w4 w5 := bb5
  have B5 : Below w.heap.size w w5 := B4.trans (b5.mono B4.size)
  have s5 : w4.heap.size ≤ w5.heap.size := b5.size
  replace rsX := stable_rows.below rsX b5
  replace q0X := (b5.cell (p := ⟨w.heap.size, 0, none⟩) (by show w.heap.size < w4.heap.size; omega)).trans q0X
  replace q1X := (b5.cell (p := ⟨w.heap.size, 1, none⟩) (by show w.heap.size < w4.heap.size; omega)).trans q1X
  replace q2X := (b5.cell (p := ⟨w.heap.size, 2, none⟩) (by show w.heap.size < w4.heap.size; omega)).trans q2X
  replace q3X := (b5.cell (p := ⟨w.heap.size, 3, none⟩) (by show w.heap.size < w4.heap.size; omega)).trans q3X
  replace q4X := (b5.cell (p := ⟨w.heap.size, 4, none⟩) (by show w.heap.size < w4.heap.size; omega)).trans q4X
  replace q5X := (b5.cell (p := ⟨w.heap.size, 5, none⟩) (by show w.heap.size < w4.heap.size; omega)).trans q5X
  go_wp2_with fail
  refine Calls.mono (toInt64S_c w5 _ _ row (stable_ints.below hrow B5) hlrow) ?_
  rintro e w6 ⟨usrow, rfl, rsrow, bb6⟩
  have b6 : Below w5.heap.size w5 w6 := bb6
  have B6 : Below w.heap.size w w6 := B5.trans (b6.mono B5.size)
  have s6 : w5.heap.size ≤ w6.heap.size := b6.size
  replace rsX := stable_rows.below rsX b6
  replace rscuts := stable_rows.below rscuts b6
  replace q0X := (b6.cell (p := ⟨w.heap.size, 0, none⟩) (by show w.heap.size < w5.heap.size; omega)).trans q0X
  replace q1X := (b6.cell (p := ⟨w.heap.size, 1, none⟩) (by show w.heap.size < w5.heap.size; omega)).trans q1X
  replace q2X := (b6.cell (p := ⟨w.heap.size, 2, none⟩) (by show w.heap.size < w5.heap.size; omega)).trans q2X
  replace q3X := (b6.cell (p := ⟨w.heap.size, 3, none⟩) (by show w.heap.size < w5.heap.size; omega)).trans q3X
  replace q4X := (b6.cell (p := ⟨w.heap.size, 4, none⟩) (by show w.heap.size < w5.heap.size; omega)).trans q4X
  replace q5X := (b6.cell (p := ⟨w.heap.size, 5, none⟩) (by show w.heap.size < w5.heap.size; omega)).trans q5X
  go_wp2_with fail
  refine Calls.mono (CS.out w6 _ _ _ _ _ _ rsX rscuts rsrow) ?_
  rintro e w7 ⟨rr7, rfl, ⟨S0, rfl, rS0⟩, bb7⟩
  have b7 : Below w6.heap.size w6 w7 := bb7
  have B7 : Below w.heap.size w w7 := B6.trans (b7.mono B6.size)
  have s7 : w6.heap.size ≤ w7.heap.size := b7.size
  replace rsX := stable_rows.below rsX b7
  replace rscuts := stable_rows.below rscuts b7
  replace rsrow := stable_ints.below rsrow b7
  replace q0X := (b7.cell (p := ⟨w.heap.size, 0, none⟩) (by show w.heap.size < w6.heap.size; omega)).trans q0X
  replace q1X := (b7.cell (p := ⟨w.heap.size, 1, none⟩) (by show w.heap.size < w6.heap.size; omega)).trans q1X
  replace q2X := (b7.cell (p := ⟨w.heap.size, 2, none⟩) (by show w.heap.size < w6.heap.size; omega)).trans q2X
  replace q3X := (b7.cell (p := ⟨w.heap.size, 3, none⟩) (by show w.heap.size < w6.heap.size; omega)).trans q3X
  replace q4X := (b7.cell (p := ⟨w.heap.size, 4, none⟩) (by show w.heap.size < w6.heap.size; omega)).trans q4X
  replace q5X := (b7.cell (p := ⟨w.heap.size, 5, none⟩) (by show w.heap.size < w6.heap.size; omega)).trans q5X
  clear rsX
  clear rscuts
  clear rsrow
  go_wp2_with fail
  refine Calls.mono (toSystemA_c w7 MX _ _ X (stable_rows.below hX B7) lbX) ?_
  rintro e w8 ⟨rvxX, rfl, ⟨uxX, rfl, rxX⟩, bb8⟩
  have b8 : Below w7.heap.size w7 w8 := bb8
  have B8 : Below w.heap.size w w8 := B7.trans (b8.mono B7.size)
  have s8 : w7.heap.size ≤ w8.heap.size := b8.size
  replace rS0 := stable_ints.below rS0 b8
  replace q0X := (b8.cell (p := ⟨w.heap.size, 0, none⟩) (by show w.heap.size < w7.heap.size; omega)).trans q0X
  replace q1X := (b8.cell (p := ⟨w.heap.size, 1, none⟩) (by show w.heap.size < w7.heap.size; omega)).trans q1X
  replace q2X := (b8.cell (p := ⟨w.heap.size, 2, none⟩) (by show w.heap.size < w7.heap.size; omega)).trans q2X
  replace q3X := (b8.cell (p := ⟨w.heap.size, 3, none⟩) (by show w.heap.size < w7.heap.size; omega)).trans q3X
  replace q4X := (b8.cell (p := ⟨w.heap.size, 4, none⟩) (by show w.heap.size < w7.heap.size; omega)).trans q4X
  replace q5X := (b8.cell (p := ⟨w.heap.size, 5, none⟩) (by show w.heap.size < w7.heap.size; omega)).trans q5X
  obtain ⟨axX, nxX, kxX, rfl, -⟩ := SliceR.shape rxX
  go_wp2_with fail
  generalize hwb9 : World.alloc _ _ = w9
  have b9 : Below w8.heap.size w8 w9 := by rw [← hwb9]; exact (Below.refl _ _).alloc (Nat.le_refl _) _
  have s9 : w8.heap.size < w9.heap.size := by rw [← hwb9]; simp
  have p0X : w9.cell? ⟨w8.heap.size, 0, none⟩ = some (.int .i64 MX.c) := by rw [← hwb9]; clear hwb9; go_simp
  have p1X : w9.cell? ⟨w8.heap.size, 1, none⟩ = some (.int .i64 MX.d) := by rw [← hwb9]; clear hwb9; go_simp
  have p2X : w9.cell? ⟨w8.heap.size, 2, none⟩ = some (.int .i64 MX.s) := by rw [← hwb9]; clear hwb9; go_simp
  have p3X : w9.cell? ⟨w8.heap.size, 3, none⟩ = some (.int .i64 MX.m) := by rw [← hwb9]; clear hwb9; go_simp
  have p4X : w9.cell? ⟨w8.heap.size, 4, none⟩ = some (.int .i64 MX.l) := by rw [← hwb9]; clear hwb9; go_simp
  have p5X : w9.cell? ⟨w8.heap.size, 5, none⟩ = some (.slice axX nxX kxX) := by rw [← hwb9]; clear hwb9; go_simp
  clear hwb9
  have B9 : Below w.heap.size w w9 := B8.trans (b9.mono B8.size)
  replace rS0 := stable_ints.below rS0 b9
  replace rxX := stable_rows.below rxX b9
  replace q0X := (b9.cell (p := ⟨w.heap.size, 0, none⟩) (by show w.heap.size < w8.heap.size; omega)).trans q0X
  replace q1X := (b9.cell (p := ⟨w.heap.size, 1, none⟩) (by show w.heap.size < w8.heap.size; omega)).trans q1X
  replace q2X := (b9.cell (p := ⟨w.heap.size, 2, none⟩) (by show w.heap.size < w8.heap.size; omega)).trans q2X
  replace q3X := (b9.cell (p := ⟨w.heap.size, 3, none⟩) (by show w.heap.size < w8.heap.size; omega)).trans q3X
  replace q4X := (b9.cell (p := ⟨w.heap.size, 4, none⟩) (by show w.heap.size < w8.heap.size; omega)).trans q4X
  replace q5X := (b9.cell (p := ⟨w.heap.size, 5, none⟩) (by show w.heap.size < w8.heap.size; omega)).trans q5X
  refine Calls.mono (toInt64SS_c w9 _ _ cuts (stable_rows.below hcuts B9) lbcuts) ?_
  rintro e w10 ⟨uxcuts, rfl, rxcuts, bb10⟩
  have b10 : Below w9.heap.size w9 w10 := bb10
  have B10 : Below w.heap.size w w10 := B9.trans (b10.mono B9.size)
  have s10 : w9.heap.size ≤ w10.heap.size := b10.size
  replace rS0 := stable_ints.below rS0 b10
  replace rxX := stable_rows.below rxX b10
  replace q0X := (b10.cell (p := ⟨w.heap.size, 0, none⟩) (by show w.heap.size < w9.heap.size; omega)).trans q0X
  replace q1X := (b10.cell (p := ⟨w.heap.size, 1, none⟩) (by show w.heap.size < w9.heap.size; omega)).trans q1X
  replace q2X := (b10.cell (p := ⟨w.heap.size, 2, none⟩) (by show w.heap.size < w9.heap.size; omega)).trans q2X
  replace q3X := (b10.cell (p := ⟨w.heap.size, 3, none⟩) (by show w.heap.size < w9.heap.size; omega)).trans q3X
  replace q4X := (b10.cell (p := ⟨w.heap.size, 4, none⟩) (by show w.heap.size < w9.heap.size; omega)).trans q4X
  replace q5X := (b10.cell (p := ⟨w.heap.size, 5, none⟩) (by show w.heap.size < w9.heap.size; omega)).trans q5X
  replace p0X := (b10.cell (p := ⟨w8.heap.size, 0, none⟩) (by show w8.heap.size < w9.heap.size; omega)).trans p0X
  replace p1X := (b10.cell (p := ⟨w8.heap.size, 1, none⟩) (by show w8.heap.size < w9.heap.size; omega)).trans p1X
  replace p2X := (b10.cell (p := ⟨w8.heap.size, 2, none⟩) (by show w8.heap.size < w9.heap.size; omega)).trans p2X
  replace p3X := (b10.cell (p := ⟨w8.heap.size, 3, none⟩) (by show w8.heap.size < w9.heap.size; omega)).trans p3X
  replace p4X := (b10.cell (p := ⟨w8.heap.size, 4, none⟩) (by show w8.heap.size < w9.heap.size; omega)).trans p4X
  replace p5X := (b10.cell (p := ⟨w8.heap.size, 5, none⟩) (by show w8.heap.size < w9.heap.size; omega)).trans p5X
  go_wp2_with fail
  refine Calls.mono (toInt64S_c w10 _ _ row (stable_ints.below hrow B10) hlrow) ?_
  rintro e w11 ⟨uxrow, rfl, rxrow, bb11⟩
  have b11 : Below w10.heap.size w10 w11 := bb11
  have B11 : Below w.heap.size w w11 := B10.trans (b11.mono B10.size)
  have s11 : w10.heap.size ≤ w11.heap.size := b11.size
  replace rS0 := stable_ints.below rS0 b11
  replace rxX := stable_rows.below rxX b11
  replace rxcuts := stable_rows.below rxcuts b11
  replace q0X := (b11.cell (p := ⟨w.heap.size, 0, none⟩) (by show w.heap.size < w10.heap.size; omega)).trans q0X
  replace q1X := (b11.cell (p := ⟨w.heap.size, 1, none⟩) (by show w.heap.size < w10.heap.size; omega)).trans q1X
  replace q2X := (b11.cell (p := ⟨w.heap.size, 2, none⟩) (by show w.heap.size < w10.heap.size; omega)).trans q2X
  replace q3X := (b11.cell (p := ⟨w.heap.size, 3, none⟩) (by show w.heap.size < w10.heap.size; omega)).trans q3X
  replace q4X := (b11.cell (p := ⟨w.heap.size, 4, none⟩) (by show w.heap.size < w10.heap.size; omega)).trans q4X
  replace q5X := (b11.cell (p := ⟨w.heap.size, 5, none⟩) (by show w.heap.size < w10.heap.size; omega)).trans q5X
  replace p0X := (b11.cell (p := ⟨w8.heap.size, 0, none⟩) (by show w8.heap.size < w10.heap.size; omega)).trans p0X
  replace p1X := (b11.cell (p := ⟨w8.heap.size, 1, none⟩) (by show w8.heap.size < w10.heap.size; omega)).trans p1X
  replace p2X := (b11.cell (p := ⟨w8.heap.size, 2, none⟩) (by show w8.heap.size < w10.heap.size; omega)).trans p2X
  replace p3X := (b11.cell (p := ⟨w8.heap.size, 3, none⟩) (by show w8.heap.size < w10.heap.size; omega)).trans p3X
  replace p4X := (b11.cell (p := ⟨w8.heap.size, 4, none⟩) (by show w8.heap.size < w10.heap.size; omega)).trans p4X
  replace p5X := (b11.cell (p := ⟨w8.heap.size, 5, none⟩) (by show w8.heap.size < w10.heap.size; omega)).trans p5X
  go_wp2_with fail
  refine Calls.mono (CI.out w11 _ _ _ _ _ _ rxX rxcuts rxrow) ?_
  rintro e w12 ⟨rr12, rfl, ⟨G0, rfl, rG0⟩, bb12⟩
  have b12 : Below w11.heap.size w11 w12 := bb12
  have B12 : Below w.heap.size w w12 := B11.trans (b12.mono B11.size)
  have s12 : w11.heap.size ≤ w12.heap.size := b12.size
  replace rS0 := stable_ints.below rS0 b12
  replace rxX := stable_rows.below rxX b12
  replace rxcuts := stable_rows.below rxcuts b12
  replace rxrow := stable_ints.below rxrow b12
  replace q0X := (b12.cell (p := ⟨w.heap.size, 0, none⟩) (by show w.heap.size < w11.heap.size; omega)).trans q0X
  replace q1X := (b12.cell (p := ⟨w.heap.size, 1, none⟩) (by show w.heap.size < w11.heap.size; omega)).trans q1X
  replace q2X := (b12.cell (p := ⟨w.heap.size, 2, none⟩) (by show w.heap.size < w11.heap.size; omega)).trans q2X
  replace q3X := (b12.cell (p := ⟨w.heap.size, 3, none⟩) (by show w.heap.size < w11.heap.size; omega)).trans q3X
  replace q4X := (b12.cell (p := ⟨w.heap.size, 4, none⟩) (by show w.heap.size < w11.heap.size; omega)).trans q4X
  replace q5X := (b12.cell (p := ⟨w.heap.size, 5, none⟩) (by show w.heap.size < w11.heap.size; omega)).trans q5X
  replace p0X := (b12.cell (p := ⟨w8.heap.size, 0, none⟩) (by show w8.heap.size < w11.heap.size; omega)).trans p0X
  replace p1X := (b12.cell (p := ⟨w8.heap.size, 1, none⟩) (by show w8.heap.size < w11.heap.size; omega)).trans p1X
  replace p2X := (b12.cell (p := ⟨w8.heap.size, 2, none⟩) (by show w8.heap.size < w11.heap.size; omega)).trans p2X
  replace p3X := (b12.cell (p := ⟨w8.heap.size, 3, none⟩) (by show w8.heap.size < w11.heap.size; omega)).trans p3X
  replace p4X := (b12.cell (p := ⟨w8.heap.size, 4, none⟩) (by show w8.heap.size < w11.heap.size; omega)).trans p4X
  replace p5X := (b12.cell (p := ⟨w8.heap.size, 5, none⟩) (by show w8.heap.size < w11.heap.size; omega)).trans p5X
  go_wp2_with fail
  refine Calls.mono (Calls.vq (eqInt64S_c w12 _ _ _ _ res0 res0 rG0 rS0) (congrArg Value.bool (decide_eq_true rfl))) ?_
  rintro e w13 ⟨rfl, hd13⟩
  have b13 : Below w12.heap.size w12 w13 := hd13.below _
  have B13 : Below w.heap.size w w13 := B12.trans (b13.mono B12.size)
  have s13 : w12.heap.size ≤ w13.heap.size := b13.size
  replace rS0 := stable_ints.below rS0 b13
  replace rxX := stable_rows.below rxX b13
  replace rxcuts := stable_rows.below rxcuts b13
  replace rxrow := stable_ints.below rxrow b13
  replace rG0 := stable_ints.below rG0 b13
  replace q0X := (b13.cell (p := ⟨w.heap.size, 0, none⟩) (by show w.heap.size < w12.heap.size; omega)).trans q0X
  replace q1X := (b13.cell (p := ⟨w.heap.size, 1, none⟩) (by show w.heap.size < w12.heap.size; omega)).trans q1X
  replace q2X := (b13.cell (p := ⟨w.heap.size, 2, none⟩) (by show w.heap.size < w12.heap.size; omega)).trans q2X
  replace q3X := (b13.cell (p := ⟨w.heap.size, 3, none⟩) (by show w.heap.size < w12.heap.size; omega)).trans q3X
  replace q4X := (b13.cell (p := ⟨w.heap.size, 4, none⟩) (by show w.heap.size < w12.heap.size; omega)).trans q4X
  replace q5X := (b13.cell (p := ⟨w.heap.size, 5, none⟩) (by show w.heap.size < w12.heap.size; omega)).trans q5X
  replace p0X := (b13.cell (p := ⟨w8.heap.size, 0, none⟩) (by show w8.heap.size < w12.heap.size; omega)).trans p0X
  replace p1X := (b13.cell (p := ⟨w8.heap.size, 1, none⟩) (by show w8.heap.size < w12.heap.size; omega)).trans p1X
  replace p2X := (b13.cell (p := ⟨w8.heap.size, 2, none⟩) (by show w8.heap.size < w12.heap.size; omega)).trans p2X
  replace p3X := (b13.cell (p := ⟨w8.heap.size, 3, none⟩) (by show w8.heap.size < w12.heap.size; omega)).trans p3X
  replace p4X := (b13.cell (p := ⟨w8.heap.size, 4, none⟩) (by show w8.heap.size < w12.heap.size; omega)).trans p4X
  replace p5X := (b13.cell (p := ⟨w8.heap.size, 5, none⟩) (by show w8.heap.size < w12.heap.size; omega)).trans p5X
  have HK15 : Hid (∀ w', Below w13.heap.size w13 w' → w'.cell? ⟨w.heap.size, 0, none⟩ = some (.int .i64 MX.c) ∧ w'.cell? ⟨w.heap.size, 1, none⟩ = some (.int .i64 MX.d) ∧ w'.cell? ⟨w.heap.size, 2, none⟩ = some (.int .i64 MX.s) ∧ w'.cell? ⟨w.heap.size, 3, none⟩ = some (.int .i64 MX.m) ∧ w'.cell? ⟨w.heap.size, 4, none⟩ = some (.int .i64 MX.l) ∧ w'.cell? ⟨w.heap.size, 5, none⟩ = some (.slice aX nX cX) ∧ w'.cell? ⟨w8.heap.size, 0, none⟩ = some (.int .i64 MX.c) ∧ w'.cell? ⟨w8.heap.size, 1, none⟩ = some (.int .i64 MX.d) ∧ w'.cell? ⟨w8.heap.size, 2, none⟩ = some (.int .i64 MX.s) ∧ w'.cell? ⟨w8.heap.size, 3, none⟩ = some (.int .i64 MX.m) ∧ w'.cell? ⟨w8.heap.size, 4, none⟩ = some (.int .i64 MX.l) ∧ w'.cell? ⟨w8.heap.size, 5, none⟩ = some (.slice axX nxX kxX)) := fun w' hb => ⟨(hb.cell (by show w.heap.size < w13.heap.size; omega)).trans q0X, (hb.cell (by show w.heap.size < w13.heap.size; omega)).trans q1X, (hb.cell (by show w.heap.size < w13.heap.size; omega)).trans q2X, (hb.cell (by show w.heap.size < w13.heap.size; omega)).trans q3X, (hb.cell (by show w.heap.size < w13.heap.size; omega)).trans q4X, (hb.cell (by show w.heap.size < w13.heap.size; omega)).trans q5X, (hb.cell (by show w8.heap.size < w13.heap.size; omega)).trans p0X, (hb.cell (by show w8.heap.size < w13.heap.size; omega)).trans p1X, (hb.cell (by show w8.heap.size < w13.heap.size; omega)).trans p2X, (hb.cell (by show w8.heap.size < w13.heap.size; omega)).trans p3X, (hb.cell (by show w8.heap.size < w13.heap.size; omega)).trans p4X, (hb.cell (by show w8.heap.size < w13.heap.size; omega)).trans p5X⟩
  have HF15 := Lib.hid (stable_rows.below hX B13)
  have HX15 := Lib.hid rxX
  go_wp2_with fail
  go_region_held3 (fun w' => w'.cell? ⟨w.heap.size, 0, none⟩ = some (.int .i64 MX.c) ∧ w'.cell? ⟨w.heap.size, 1, none⟩ = some (.int .i64 MX.d) ∧ w'.cell? ⟨w.heap.size, 2, none⟩ = some (.int .i64 MX.s) ∧ w'.cell? ⟨w.heap.size, 3, none⟩ = some (.int .i64 MX.m) ∧ w'.cell? ⟨w.heap.size, 4, none⟩ = some (.int .i64 MX.l) ∧ w'.cell? ⟨w.heap.size, 5, none⟩ = some (.slice aX nX cX) ∧ w'.cell? ⟨w8.heap.size, 0, none⟩ = some (.int .i64 MX.c) ∧ w'.cell? ⟨w8.heap.size, 1, none⟩ = some (.int .i64 MX.d) ∧ w'.cell? ⟨w8.heap.size, 2, none⟩ = some (.int .i64 MX.s) ∧ w'.cell? ⟨w8.heap.size, 3, none⟩ = some (.int .i64 MX.m) ∧ w'.cell? ⟨w8.heap.size, 4, none⟩ = some (.int .i64 MX.l) ∧ w'.cell? ⟨w8.heap.size, 5, none⟩ = some (.slice axX nxX kxX)) (first | exact HK15.out _ (Below.refl _ _).drew | exact HK15.out _ ((Below.refl _ _).drew.trans bA15) | exact HK15.out _ (((Below.refl _ _).drew.trans bA15).trans (bB15.mono bA15.size)))
    (first | (go_at_call 16; refine (toSystemA_c _ _ _ _ X (stable_rows.below HF15.out (Below.refl _ _).drew) lbX).mono ?_; rintro e wA15 ⟨rv, rfl, ⟨uA15, rfl, rA15⟩, bA15⟩) | (go_at_call 21; refine (eqSystemA_c _ _ _ _ _ _ X (stable_rows.below HX15.out ((Below.refl _ _).drew.trans bA15)) rA15).mono ?_; rintro e w15 ⟨rv, rfl, rfl, bB15⟩))
  clear HK15 HF15 HX15
  have b15 : Below w13.heap.size w13 w15 := (((Below.refl _ _).drew.trans bA15).trans (bB15.mono bA15.size))
  have B15 : Below w.heap.size w w15 := B13.trans (b15.mono B13.size)
  have s15 : w13.heap.size ≤ w15.heap.size := b15.size
  replace rS0 := stable_ints.below rS0 b15
  replace rxX := stable_rows.below rxX b15
  replace rxcuts := stable_rows.below rxcuts b15
  replace rxrow := stable_ints.below rxrow b15
  replace rG0 := stable_ints.below rG0 b15
  replace q0X := (b15.cell (p := ⟨w.heap.size, 0, none⟩) (by show w.heap.size < w13.heap.size; omega)).trans q0X
  replace q1X := (b15.cell (p := ⟨w.heap.size, 1, none⟩) (by show w.heap.size < w13.heap.size; omega)).trans q1X
  replace q2X := (b15.cell (p := ⟨w.heap.size, 2, none⟩) (by show w.heap.size < w13.heap.size; omega)).trans q2X
  replace q3X := (b15.cell (p := ⟨w.heap.size, 3, none⟩) (by show w.heap.size < w13.heap.size; omega)).trans q3X
  replace q4X := (b15.cell (p := ⟨w.heap.size, 4, none⟩) (by show w.heap.size < w13.heap.size; omega)).trans q4X
  replace q5X := (b15.cell (p := ⟨w.heap.size, 5, none⟩) (by show w.heap.size < w13.heap.size; omega)).trans q5X
  replace p0X := (b15.cell (p := ⟨w8.heap.size, 0, none⟩) (by show w8.heap.size < w13.heap.size; omega)).trans p0X
  replace p1X := (b15.cell (p := ⟨w8.heap.size, 1, none⟩) (by show w8.heap.size < w13.heap.size; omega)).trans p1X
  replace p2X := (b15.cell (p := ⟨w8.heap.size, 2, none⟩) (by show w8.heap.size < w13.heap.size; omega)).trans p2X
  replace p3X := (b15.cell (p := ⟨w8.heap.size, 3, none⟩) (by show w8.heap.size < w13.heap.size; omega)).trans p3X
  replace p4X := (b15.cell (p := ⟨w8.heap.size, 4, none⟩) (by show w8.heap.size < w13.heap.size; omega)).trans p4X
  replace p5X := (b15.cell (p := ⟨w8.heap.size, 5, none⟩) (by show w8.heap.size < w13.heap.size; omega)).trans p5X
  go_wp2_with fail
  refine Calls.mono (toInt64SS_c w15 _ _ cuts (stable_rows.below hcuts B15) lbcuts) ?_
  rintro e w16 ⟨uccuts, rfl, rccuts, bb16⟩
  have b16 : Below w15.heap.size w15 w16 := bb16
  have B16 : Below w.heap.size w w16 := B15.trans (b16.mono B15.size)
  have s16 : w15.heap.size ≤ w16.heap.size := b16.size
  replace rS0 := stable_ints.below rS0 b16
  replace rxX := stable_rows.below rxX b16
  replace rxcuts := stable_rows.below rxcuts b16
  replace rxrow := stable_ints.below rxrow b16
  replace rG0 := stable_ints.below rG0 b16
  replace q0X := (b16.cell (p := ⟨w.heap.size, 0, none⟩) (by show w.heap.size < w15.heap.size; omega)).trans q0X
  replace q1X := (b16.cell (p := ⟨w.heap.size, 1, none⟩) (by show w.heap.size < w15.heap.size; omega)).trans q1X
  replace q2X := (b16.cell (p := ⟨w.heap.size, 2, none⟩) (by show w.heap.size < w15.heap.size; omega)).trans q2X
  replace q3X := (b16.cell (p := ⟨w.heap.size, 3, none⟩) (by show w.heap.size < w15.heap.size; omega)).trans q3X
  replace q4X := (b16.cell (p := ⟨w.heap.size, 4, none⟩) (by show w.heap.size < w15.heap.size; omega)).trans q4X
  replace q5X := (b16.cell (p := ⟨w.heap.size, 5, none⟩) (by show w.heap.size < w15.heap.size; omega)).trans q5X
  replace p0X := (b16.cell (p := ⟨w8.heap.size, 0, none⟩) (by show w8.heap.size < w15.heap.size; omega)).trans p0X
  replace p1X := (b16.cell (p := ⟨w8.heap.size, 1, none⟩) (by show w8.heap.size < w15.heap.size; omega)).trans p1X
  replace p2X := (b16.cell (p := ⟨w8.heap.size, 2, none⟩) (by show w8.heap.size < w15.heap.size; omega)).trans p2X
  replace p3X := (b16.cell (p := ⟨w8.heap.size, 3, none⟩) (by show w8.heap.size < w15.heap.size; omega)).trans p3X
  replace p4X := (b16.cell (p := ⟨w8.heap.size, 4, none⟩) (by show w8.heap.size < w15.heap.size; omega)).trans p4X
  replace p5X := (b16.cell (p := ⟨w8.heap.size, 5, none⟩) (by show w8.heap.size < w15.heap.size; omega)).trans p5X
  go_wp2_with fail
  refine Calls.mono (Calls.vq (eqInt64SS_c w16 _ _ _ _ cuts cuts rxcuts rccuts) (congrArg Value.bool (decide_eq_true rfl))) ?_
  rintro e w17 ⟨rfl, hd17⟩
  have b17 : Below w16.heap.size w16 w17 := hd17.below _
  have B17 : Below w.heap.size w w17 := B16.trans (b17.mono B16.size)
  have s17 : w16.heap.size ≤ w17.heap.size := b17.size
  replace rS0 := stable_ints.below rS0 b17
  replace rxX := stable_rows.below rxX b17
  replace rxcuts := stable_rows.below rxcuts b17
  replace rxrow := stable_ints.below rxrow b17
  replace rG0 := stable_ints.below rG0 b17
  replace rccuts := stable_rows.below rccuts b17
  replace q0X := (b17.cell (p := ⟨w.heap.size, 0, none⟩) (by show w.heap.size < w16.heap.size; omega)).trans q0X
  replace q1X := (b17.cell (p := ⟨w.heap.size, 1, none⟩) (by show w.heap.size < w16.heap.size; omega)).trans q1X
  replace q2X := (b17.cell (p := ⟨w.heap.size, 2, none⟩) (by show w.heap.size < w16.heap.size; omega)).trans q2X
  replace q3X := (b17.cell (p := ⟨w.heap.size, 3, none⟩) (by show w.heap.size < w16.heap.size; omega)).trans q3X
  replace q4X := (b17.cell (p := ⟨w.heap.size, 4, none⟩) (by show w.heap.size < w16.heap.size; omega)).trans q4X
  replace q5X := (b17.cell (p := ⟨w.heap.size, 5, none⟩) (by show w.heap.size < w16.heap.size; omega)).trans q5X
  replace p0X := (b17.cell (p := ⟨w8.heap.size, 0, none⟩) (by show w8.heap.size < w16.heap.size; omega)).trans p0X
  replace p1X := (b17.cell (p := ⟨w8.heap.size, 1, none⟩) (by show w8.heap.size < w16.heap.size; omega)).trans p1X
  replace p2X := (b17.cell (p := ⟨w8.heap.size, 2, none⟩) (by show w8.heap.size < w16.heap.size; omega)).trans p2X
  replace p3X := (b17.cell (p := ⟨w8.heap.size, 3, none⟩) (by show w8.heap.size < w16.heap.size; omega)).trans p3X
  replace p4X := (b17.cell (p := ⟨w8.heap.size, 4, none⟩) (by show w8.heap.size < w16.heap.size; omega)).trans p4X
  replace p5X := (b17.cell (p := ⟨w8.heap.size, 5, none⟩) (by show w8.heap.size < w16.heap.size; omega)).trans p5X
  clear rccuts
  go_wp2_with fail
  refine Calls.mono (toInt64S_c w17 _ _ row (stable_ints.below hrow B17) hlrow) ?_
  rintro e w18 ⟨ucrow, rfl, rcrow, bb18⟩
  have b18 : Below w17.heap.size w17 w18 := bb18
  have B18 : Below w.heap.size w w18 := B17.trans (b18.mono B17.size)
  have s18 : w17.heap.size ≤ w18.heap.size := b18.size
  replace rS0 := stable_ints.below rS0 b18
  replace rxX := stable_rows.below rxX b18
  replace rxcuts := stable_rows.below rxcuts b18
  replace rxrow := stable_ints.below rxrow b18
  replace rG0 := stable_ints.below rG0 b18
  replace q0X := (b18.cell (p := ⟨w.heap.size, 0, none⟩) (by show w.heap.size < w17.heap.size; omega)).trans q0X
  replace q1X := (b18.cell (p := ⟨w.heap.size, 1, none⟩) (by show w.heap.size < w17.heap.size; omega)).trans q1X
  replace q2X := (b18.cell (p := ⟨w.heap.size, 2, none⟩) (by show w.heap.size < w17.heap.size; omega)).trans q2X
  replace q3X := (b18.cell (p := ⟨w.heap.size, 3, none⟩) (by show w.heap.size < w17.heap.size; omega)).trans q3X
  replace q4X := (b18.cell (p := ⟨w.heap.size, 4, none⟩) (by show w.heap.size < w17.heap.size; omega)).trans q4X
  replace q5X := (b18.cell (p := ⟨w.heap.size, 5, none⟩) (by show w.heap.size < w17.heap.size; omega)).trans q5X
  replace p0X := (b18.cell (p := ⟨w8.heap.size, 0, none⟩) (by show w8.heap.size < w17.heap.size; omega)).trans p0X
  replace p1X := (b18.cell (p := ⟨w8.heap.size, 1, none⟩) (by show w8.heap.size < w17.heap.size; omega)).trans p1X
  replace p2X := (b18.cell (p := ⟨w8.heap.size, 2, none⟩) (by show w8.heap.size < w17.heap.size; omega)).trans p2X
  replace p3X := (b18.cell (p := ⟨w8.heap.size, 3, none⟩) (by show w8.heap.size < w17.heap.size; omega)).trans p3X
  replace p4X := (b18.cell (p := ⟨w8.heap.size, 4, none⟩) (by show w8.heap.size < w17.heap.size; omega)).trans p4X
  replace p5X := (b18.cell (p := ⟨w8.heap.size, 5, none⟩) (by show w8.heap.size < w17.heap.size; omega)).trans p5X
  go_wp2_with fail
  refine Calls.mono (Calls.vq (eqInt64S_c w18 _ _ _ _ row row rxrow rcrow) (congrArg Value.bool (decide_eq_true rfl))) ?_
  rintro e w19 ⟨rfl, hd19⟩
  have b19 : Below w18.heap.size w18 w19 := hd19.below _
  have B19 : Below w.heap.size w w19 := B18.trans (b19.mono B18.size)
  have s19 : w18.heap.size ≤ w19.heap.size := b19.size
  replace rS0 := stable_ints.below rS0 b19
  replace rxX := stable_rows.below rxX b19
  replace rxcuts := stable_rows.below rxcuts b19
  replace rxrow := stable_ints.below rxrow b19
  replace rG0 := stable_ints.below rG0 b19
  replace rcrow := stable_ints.below rcrow b19
  replace q0X := (b19.cell (p := ⟨w.heap.size, 0, none⟩) (by show w.heap.size < w18.heap.size; omega)).trans q0X
  replace q1X := (b19.cell (p := ⟨w.heap.size, 1, none⟩) (by show w.heap.size < w18.heap.size; omega)).trans q1X
  replace q2X := (b19.cell (p := ⟨w.heap.size, 2, none⟩) (by show w.heap.size < w18.heap.size; omega)).trans q2X
  replace q3X := (b19.cell (p := ⟨w.heap.size, 3, none⟩) (by show w.heap.size < w18.heap.size; omega)).trans q3X
  replace q4X := (b19.cell (p := ⟨w.heap.size, 4, none⟩) (by show w.heap.size < w18.heap.size; omega)).trans q4X
  replace q5X := (b19.cell (p := ⟨w.heap.size, 5, none⟩) (by show w.heap.size < w18.heap.size; omega)).trans q5X
  replace p0X := (b19.cell (p := ⟨w8.heap.size, 0, none⟩) (by show w8.heap.size < w18.heap.size; omega)).trans p0X
  replace p1X := (b19.cell (p := ⟨w8.heap.size, 1, none⟩) (by show w8.heap.size < w18.heap.size; omega)).trans p1X
  replace p2X := (b19.cell (p := ⟨w8.heap.size, 2, none⟩) (by show w8.heap.size < w18.heap.size; omega)).trans p2X
  replace p3X := (b19.cell (p := ⟨w8.heap.size, 3, none⟩) (by show w8.heap.size < w18.heap.size; omega)).trans p3X
  replace p4X := (b19.cell (p := ⟨w8.heap.size, 4, none⟩) (by show w8.heap.size < w18.heap.size; omega)).trans p4X
  replace p5X := (b19.cell (p := ⟨w8.heap.size, 5, none⟩) (by show w8.heap.size < w18.heap.size; omega)).trans p5X
  clear rcrow
  have ofX : offs X X.length ≤ 1048576 := by have := offs_all X; omega
  have ofcuts : offs cuts cuts.length ≤ 1048576 := by have := offs_all cuts; omega
  go_wp2_with fail
  refine Calls.mono (markSystemA_c w19 _ _ _ X _ rxX rfl (by omega) (by omega)) ?_
  rintro e w20 ⟨rfl, rmxX, wm20, hb20, hw20⟩
  have hz20 : w20.heap.size = wm20.heap.size := hw20.size
  have hy20 : w19.heap.size ≤ wm20.heap.size := hb20.size
  have B20 : Below w.heap.size w w20 := (B19.trans (hb20.mono B19.size)).trans (hw20.below (by simp only [Zone.new]; omega))
  clear rxX
  replace rS0 := stable_ints.within (stable_ints.below rS0 hb20) hw20 (fun k h1 h2 => by have q1 := h1.1; have q2 := h1.2; have q3 := h2.1; have q4 := h2.2; simp only [Zone.new] at q1 q2 q3 q4; omega)
  replace rxcuts := stable_rows.within (stable_rows.below rxcuts hb20) hw20 (fun k h1 h2 => by have q1 := h1.1; have q2 := h1.2; have q3 := h2.1; have q4 := h2.2; simp only [Zone.new] at q1 q2 q3 q4; omega)
  replace rxrow := stable_ints.within (stable_ints.below rxrow hb20) hw20 (fun k h1 h2 => by have q1 := h1.1; have q2 := h1.2; have q3 := h2.1; have q4 := h2.2; simp only [Zone.new] at q1 q2 q3 q4; omega)
  replace rG0 := stable_ints.within (stable_ints.below rG0 hb20) hw20 (fun k h1 h2 => by have q1 := h1.1; have q2 := h1.2; have q3 := h2.1; have q4 := h2.2; simp only [Zone.new] at q1 q2 q3 q4; omega)
  clear p0X
  clear p1X
  clear p2X
  clear p3X
  clear p4X
  clear p5X
  replace q0X := (hw20.cell (p := ⟨w.heap.size, 0, none⟩) (fun h => by have q1 := h.1; have q2 := h.2; simp only [Zone.new] at q1 q2; omega)).trans ((hb20.cell (p := ⟨w.heap.size, 0, none⟩) (by show w.heap.size < w19.heap.size; omega)).trans q0X)
  replace q1X := (hw20.cell (p := ⟨w.heap.size, 1, none⟩) (fun h => by have q1 := h.1; have q2 := h.2; simp only [Zone.new] at q1 q2; omega)).trans ((hb20.cell (p := ⟨w.heap.size, 1, none⟩) (by show w.heap.size < w19.heap.size; omega)).trans q1X)
  replace q2X := (hw20.cell (p := ⟨w.heap.size, 2, none⟩) (fun h => by have q1 := h.1; have q2 := h.2; simp only [Zone.new] at q1 q2; omega)).trans ((hb20.cell (p := ⟨w.heap.size, 2, none⟩) (by show w.heap.size < w19.heap.size; omega)).trans q2X)
  replace q3X := (hw20.cell (p := ⟨w.heap.size, 3, none⟩) (fun h => by have q1 := h.1; have q2 := h.2; simp only [Zone.new] at q1 q2; omega)).trans ((hb20.cell (p := ⟨w.heap.size, 3, none⟩) (by show w.heap.size < w19.heap.size; omega)).trans q3X)
  replace q4X := (hw20.cell (p := ⟨w.heap.size, 4, none⟩) (fun h => by have q1 := h.1; have q2 := h.2; simp only [Zone.new] at q1 q2; omega)).trans ((hb20.cell (p := ⟨w.heap.size, 4, none⟩) (by show w.heap.size < w19.heap.size; omega)).trans q4X)
  replace q5X := (hw20.cell (p := ⟨w.heap.size, 5, none⟩) (fun h => by have q1 := h.1; have q2 := h.2; simp only [Zone.new] at q1 q2; omega)).trans ((hb20.cell (p := ⟨w.heap.size, 5, none⟩) (by show w.heap.size < w19.heap.size; omega)).trans q5X)
  have s20 : w19.heap.size ≤ w20.heap.size := by omega
  clear hw20 hb20
  clear rmxX
  have ck1 : (0 : Int) ≤ 1 + (offs X X.length : Int) ∧ 1 + (offs X X.length : Int) ≤ 1048577 := by omega
  obtain ⟨ck1a, ck1b⟩ := ck1
  generalize (1 : Int) + (offs X X.length : Int) = k1 at *
  go_wp2_with fail
  refine Calls.mono (markInt64SS_c w20 _ _ cuts _ rxcuts rfl (by omega) (by omega)) ?_
  rintro e w21 ⟨rfl, rmxcuts, hw21⟩
  have hz21 : w21.heap.size = w20.heap.size := hw21.size
  have B21 : Below w.heap.size w w21 := B20.trans (hw21.below (by simp only [Zone.new]; omega))
  clear rxcuts
  replace rS0 := stable_ints.within rS0 hw21 (fun k h1 h2 => by have q1 := h1.1; have q2 := h1.2; have q3 := h2.1; have q4 := h2.2; simp only [Zone.new] at q1 q2 q3 q4; omega)
  replace rxrow := stable_ints.within rxrow hw21 (fun k h1 h2 => by have q1 := h1.1; have q2 := h1.2; have q3 := h2.1; have q4 := h2.2; simp only [Zone.new] at q1 q2 q3 q4; omega)
  replace rG0 := stable_ints.within rG0 hw21 (fun k h1 h2 => by have q1 := h1.1; have q2 := h1.2; have q3 := h2.1; have q4 := h2.2; simp only [Zone.new] at q1 q2 q3 q4; omega)
  replace q0X := (hw21.cell (p := ⟨w.heap.size, 0, none⟩) (fun h => by have q1 := h.1; have q2 := h.2; simp only [Zone.new] at q1 q2; omega)).trans q0X
  replace q1X := (hw21.cell (p := ⟨w.heap.size, 1, none⟩) (fun h => by have q1 := h.1; have q2 := h.2; simp only [Zone.new] at q1 q2; omega)).trans q1X
  replace q2X := (hw21.cell (p := ⟨w.heap.size, 2, none⟩) (fun h => by have q1 := h.1; have q2 := h.2; simp only [Zone.new] at q1 q2; omega)).trans q2X
  replace q3X := (hw21.cell (p := ⟨w.heap.size, 3, none⟩) (fun h => by have q1 := h.1; have q2 := h.2; simp only [Zone.new] at q1 q2; omega)).trans q3X
  replace q4X := (hw21.cell (p := ⟨w.heap.size, 4, none⟩) (fun h => by have q1 := h.1; have q2 := h.2; simp only [Zone.new] at q1 q2; omega)).trans q4X
  replace q5X := (hw21.cell (p := ⟨w.heap.size, 5, none⟩) (fun h => by have q1 := h.1; have q2 := h.2; simp only [Zone.new] at q1 q2; omega)).trans q5X
  have s21 : w20.heap.size ≤ w21.heap.size := by omega
  clear hw21
  clear rmxcuts
  have ck2 : (0 : Int) ≤ k1 + (offs cuts cuts.length : Int) ∧ k1 + (offs cuts cuts.length : Int) ≤ 2097153 := by omega
  obtain ⟨ck2a, ck2b⟩ := ck2
  generalize (k1 : Int) + (offs cuts cuts.length : Int) = k2 at *
  go_wp2_with fail
  refine Calls.mono (markInt64S_c w21 _ _ row _ rxrow rfl (by omega) (by omega)) ?_
  rintro e w22 ⟨rfl, rmxrow, hw22⟩
  have hz22 : w22.heap.size = w21.heap.size := hw22.size
  have B22 : Below w.heap.size w w22 := B21.trans (hw22.below (by simp only [Zone.new]; omega))
  clear rxrow
  replace rS0 := stable_ints.within rS0 hw22 (fun k h1 h2 => by have q1 := h1.1; have q2 := h1.2; have q3 := h2.1; have q4 := h2.2; simp only [Zone.new] at q1 q2 q3 q4; omega)
  replace rG0 := stable_ints.within rG0 hw22 (fun k h1 h2 => by have q1 := h1.1; have q2 := h1.2; have q3 := h2.1; have q4 := h2.2; simp only [Zone.new] at q1 q2 q3 q4; omega)
  replace q0X := (hw22.cell (p := ⟨w.heap.size, 0, none⟩) (fun h => by have q1 := h.1; have q2 := h.2; simp only [Zone.new] at q1 q2; omega)).trans q0X
  replace q1X := (hw22.cell (p := ⟨w.heap.size, 1, none⟩) (fun h => by have q1 := h.1; have q2 := h.2; simp only [Zone.new] at q1 q2; omega)).trans q1X
  replace q2X := (hw22.cell (p := ⟨w.heap.size, 2, none⟩) (fun h => by have q1 := h.1; have q2 := h.2; simp only [Zone.new] at q1 q2; omega)).trans q2X
  replace q3X := (hw22.cell (p := ⟨w.heap.size, 3, none⟩) (fun h => by have q1 := h.1; have q2 := h.2; simp only [Zone.new] at q1 q2; omega)).trans q3X
  replace q4X := (hw22.cell (p := ⟨w.heap.size, 4, none⟩) (fun h => by have q1 := h.1; have q2 := h.2; simp only [Zone.new] at q1 q2; omega)).trans q4X
  replace q5X := (hw22.cell (p := ⟨w.heap.size, 5, none⟩) (fun h => by have q1 := h.1; have q2 := h.2; simp only [Zone.new] at q1 q2; omega)).trans q5X
  have s22 : w21.heap.size ≤ w22.heap.size := by omega
  clear hw22
  clear rmxrow
  have ck3 : (0 : Int) ≤ k2 + (row.length : Int) ∧ k2 + (row.length : Int) ≤ 3145729 := by omega
  obtain ⟨ck3a, ck3b⟩ := ck3
  generalize (k2 : Int) + (row.length : Int) = k3 at *
  go_wp2_with fail
  refine Calls.mono (Calls.vq (eqInt64S_c w22 _ _ _ _ res0 res0 rG0 rS0) (congrArg Value.bool (decide_eq_true rfl))) ?_
  rintro e w23 ⟨rfl, hd23⟩
  have b23 : Below w22.heap.size w22 w23 := hd23.below _
  have B23 : Below w.heap.size w w23 := B22.trans (b23.mono B22.size)
  have s23 : w22.heap.size ≤ w23.heap.size := b23.size
  replace rS0 := stable_ints.below rS0 b23
  replace rG0 := stable_ints.below rG0 b23
  replace q0X := (b23.cell (p := ⟨w.heap.size, 0, none⟩) (by show w.heap.size < w22.heap.size; omega)).trans q0X
  replace q1X := (b23.cell (p := ⟨w.heap.size, 1, none⟩) (by show w.heap.size < w22.heap.size; omega)).trans q1X
  replace q2X := (b23.cell (p := ⟨w.heap.size, 2, none⟩) (by show w.heap.size < w22.heap.size; omega)).trans q2X
  replace q3X := (b23.cell (p := ⟨w.heap.size, 3, none⟩) (by show w.heap.size < w22.heap.size; omega)).trans q3X
  replace q4X := (b23.cell (p := ⟨w.heap.size, 4, none⟩) (by show w.heap.size < w22.heap.size; omega)).trans q4X
  replace q5X := (b23.cell (p := ⟨w.heap.size, 5, none⟩) (by show w.heap.size < w22.heap.size; omega)).trans q5X
  go_wp2_with fail
  refine Calls.mono (markInt64S_c w23 _ _ res0 _ rG0 rfl (by omega) (by omega)) ?_
  rintro e w24 ⟨rfl, rmG0, hw24⟩
  have hz24 : w24.heap.size = w23.heap.size := hw24.size
  have B24 : Below w.heap.size w w24 := B23.trans (hw24.below (by simp only [Zone.new]; omega))
  clear rG0
  replace rS0 := stable_ints.within rS0 hw24 (fun k h1 h2 => by have q1 := h1.1; have q2 := h1.2; have q3 := h2.1; have q4 := h2.2; simp only [Zone.new] at q1 q2 q3 q4; omega)
  replace q0X := (hw24.cell (p := ⟨w.heap.size, 0, none⟩) (fun h => by have q1 := h.1; have q2 := h.2; simp only [Zone.new] at q1 q2; omega)).trans q0X
  replace q1X := (hw24.cell (p := ⟨w.heap.size, 1, none⟩) (fun h => by have q1 := h.1; have q2 := h.2; simp only [Zone.new] at q1 q2; omega)).trans q1X
  replace q2X := (hw24.cell (p := ⟨w.heap.size, 2, none⟩) (fun h => by have q1 := h.1; have q2 := h.2; simp only [Zone.new] at q1 q2; omega)).trans q2X
  replace q3X := (hw24.cell (p := ⟨w.heap.size, 3, none⟩) (fun h => by have q1 := h.1; have q2 := h.2; simp only [Zone.new] at q1 q2; omega)).trans q3X
  replace q4X := (hw24.cell (p := ⟨w.heap.size, 4, none⟩) (fun h => by have q1 := h.1; have q2 := h.2; simp only [Zone.new] at q1 q2; omega)).trans q4X
  replace q5X := (hw24.cell (p := ⟨w.heap.size, 5, none⟩) (fun h => by have q1 := h.1; have q2 := h.2; simp only [Zone.new] at q1 q2; omega)).trans q5X
  have s24 : w23.heap.size ≤ w24.heap.size := by omega
  clear hw24
  obtain ⟨m1, em1⟩ : ∃ t : Int, t = 1 + (res0.length : Int) := ⟨_, rfl⟩
  rw [← em1]
  have gm1a : 0 ≤ m1 ∧ m1 ≤ 1048577 := by omega
  have Em1 := Lib.hid em1; clear em1; obtain ⟨gm1a, gm1b⟩ := gm1a
  go_wp2_with fail
  refine Calls.mono (Calls.vq (heldInt64S_c w24 _ _ res0.length _ rmG0 (by omega) (by have := Em1.out; omega)) (congrArg (Value.int .i64) Em1.out.symm)) ?_
  rintro e w25 ⟨rfl, hd25⟩
  have b25 : Below w24.heap.size w24 w25 := hd25.below _
  have B25 : Below w.heap.size w w25 := B24.trans (b25.mono B24.size)
  have s25 : w24.heap.size ≤ w25.heap.size := b25.size
  replace rS0 := stable_ints.below rS0 b25
  replace rmG0 := stable_ints.below rmG0 b25
  replace q0X := (b25.cell (p := ⟨w.heap.size, 0, none⟩) (by show w.heap.size < w24.heap.size; omega)).trans q0X
  replace q1X := (b25.cell (p := ⟨w.heap.size, 1, none⟩) (by show w.heap.size < w24.heap.size; omega)).trans q1X
  replace q2X := (b25.cell (p := ⟨w.heap.size, 2, none⟩) (by show w.heap.size < w24.heap.size; omega)).trans q2X
  replace q3X := (b25.cell (p := ⟨w.heap.size, 3, none⟩) (by show w.heap.size < w24.heap.size; omega)).trans q3X
  replace q4X := (b25.cell (p := ⟨w.heap.size, 4, none⟩) (by show w.heap.size < w24.heap.size; omega)).trans q4X
  replace q5X := (b25.cell (p := ⟨w.heap.size, 5, none⟩) (by show w.heap.size < w24.heap.size; omega)).trans q5X
  go_wp2_with fail
  refine Calls.mono (toSystemA_c w25 MX _ _ X (stable_rows.below hX B25) lbX) ?_
  rintro e w26 ⟨rvyX, rfl, ⟨uyX, rfl, ryX⟩, bb26⟩
  have b26 : Below w25.heap.size w25 w26 := bb26
  have B26 : Below w.heap.size w w26 := B25.trans (b26.mono B25.size)
  have s26 : w25.heap.size ≤ w26.heap.size := b26.size
  replace rS0 := stable_ints.below rS0 b26
  replace rmG0 := stable_ints.below rmG0 b26
  replace q0X := (b26.cell (p := ⟨w.heap.size, 0, none⟩) (by show w.heap.size < w25.heap.size; omega)).trans q0X
  replace q1X := (b26.cell (p := ⟨w.heap.size, 1, none⟩) (by show w.heap.size < w25.heap.size; omega)).trans q1X
  replace q2X := (b26.cell (p := ⟨w.heap.size, 2, none⟩) (by show w.heap.size < w25.heap.size; omega)).trans q2X
  replace q3X := (b26.cell (p := ⟨w.heap.size, 3, none⟩) (by show w.heap.size < w25.heap.size; omega)).trans q3X
  replace q4X := (b26.cell (p := ⟨w.heap.size, 4, none⟩) (by show w.heap.size < w25.heap.size; omega)).trans q4X
  replace q5X := (b26.cell (p := ⟨w.heap.size, 5, none⟩) (by show w.heap.size < w25.heap.size; omega)).trans q5X
  obtain ⟨ayX, nyX, kyX, rfl, -⟩ := SliceR.shape ryX
  go_wp2_with fail
  refine Calls.mono (toInt64SS_c w26 _ _ cuts (stable_rows.below hcuts B26) lbcuts) ?_
  rintro e w27 ⟨uycuts, rfl, rycuts, bb27⟩
  have b27 : Below w26.heap.size w26 w27 := bb27
  have B27 : Below w.heap.size w w27 := B26.trans (b27.mono B26.size)
  have s27 : w26.heap.size ≤ w27.heap.size := b27.size
  replace rS0 := stable_ints.below rS0 b27
  replace rmG0 := stable_ints.below rmG0 b27
  replace ryX := stable_rows.below ryX b27
  replace q0X := (b27.cell (p := ⟨w.heap.size, 0, none⟩) (by show w.heap.size < w26.heap.size; omega)).trans q0X
  replace q1X := (b27.cell (p := ⟨w.heap.size, 1, none⟩) (by show w.heap.size < w26.heap.size; omega)).trans q1X
  replace q2X := (b27.cell (p := ⟨w.heap.size, 2, none⟩) (by show w.heap.size < w26.heap.size; omega)).trans q2X
  replace q3X := (b27.cell (p := ⟨w.heap.size, 3, none⟩) (by show w.heap.size < w26.heap.size; omega)).trans q3X
  replace q4X := (b27.cell (p := ⟨w.heap.size, 4, none⟩) (by show w.heap.size < w26.heap.size; omega)).trans q4X
  replace q5X := (b27.cell (p := ⟨w.heap.size, 5, none⟩) (by show w.heap.size < w26.heap.size; omega)).trans q5X
  go_wp2_with fail
  refine Calls.mono (toInt64S_c w27 _ _ row (stable_ints.below hrow B27) hlrow) ?_
  rintro e w28 ⟨uyrow, rfl, ryrow, bb28⟩
  have b28 : Below w27.heap.size w27 w28 := bb28
  have B28 : Below w.heap.size w w28 := B27.trans (b28.mono B27.size)
  have s28 : w27.heap.size ≤ w28.heap.size := b28.size
  replace rS0 := stable_ints.below rS0 b28
  replace rmG0 := stable_ints.below rmG0 b28
  replace ryX := stable_rows.below ryX b28
  replace rycuts := stable_rows.below rycuts b28
  replace q0X := (b28.cell (p := ⟨w.heap.size, 0, none⟩) (by show w.heap.size < w27.heap.size; omega)).trans q0X
  replace q1X := (b28.cell (p := ⟨w.heap.size, 1, none⟩) (by show w.heap.size < w27.heap.size; omega)).trans q1X
  replace q2X := (b28.cell (p := ⟨w.heap.size, 2, none⟩) (by show w.heap.size < w27.heap.size; omega)).trans q2X
  replace q3X := (b28.cell (p := ⟨w.heap.size, 3, none⟩) (by show w.heap.size < w27.heap.size; omega)).trans q3X
  replace q4X := (b28.cell (p := ⟨w.heap.size, 4, none⟩) (by show w.heap.size < w27.heap.size; omega)).trans q4X
  replace q5X := (b28.cell (p := ⟨w.heap.size, 5, none⟩) (by show w.heap.size < w27.heap.size; omega)).trans q5X
  go_wp2_with fail
  refine Calls.mono (CI.out w28 _ _ _ _ _ _ ryX rycuts ryrow) ?_
  rintro e w29 ⟨rr29, rfl, ⟨H0, rfl, rH0⟩, bb29⟩
  have b29 : Below w28.heap.size w28 w29 := bb29
  have B29 : Below w.heap.size w w29 := B28.trans (b29.mono B28.size)
  have s29 : w28.heap.size ≤ w29.heap.size := b29.size
  replace rS0 := stable_ints.below rS0 b29
  replace rmG0 := stable_ints.below rmG0 b29
  replace ryX := stable_rows.below ryX b29
  replace rycuts := stable_rows.below rycuts b29
  replace ryrow := stable_ints.below ryrow b29
  replace q0X := (b29.cell (p := ⟨w.heap.size, 0, none⟩) (by show w.heap.size < w28.heap.size; omega)).trans q0X
  replace q1X := (b29.cell (p := ⟨w.heap.size, 1, none⟩) (by show w.heap.size < w28.heap.size; omega)).trans q1X
  replace q2X := (b29.cell (p := ⟨w.heap.size, 2, none⟩) (by show w.heap.size < w28.heap.size; omega)).trans q2X
  replace q3X := (b29.cell (p := ⟨w.heap.size, 3, none⟩) (by show w.heap.size < w28.heap.size; omega)).trans q3X
  replace q4X := (b29.cell (p := ⟨w.heap.size, 4, none⟩) (by show w.heap.size < w28.heap.size; omega)).trans q4X
  replace q5X := (b29.cell (p := ⟨w.heap.size, 5, none⟩) (by show w.heap.size < w28.heap.size; omega)).trans q5X
  clear ryX
  clear rycuts
  clear ryrow
  go_wp2_with fail
  refine Calls.mono (Calls.vq (eqInt64S_c w29 _ _ _ _ res0 res0 rH0 rS0) (congrArg Value.bool (decide_eq_true rfl))) ?_
  rintro e w30 ⟨rfl, hd30⟩
  have b30 : Below w29.heap.size w29 w30 := hd30.below _
  have B30 : Below w.heap.size w w30 := B29.trans (b30.mono B29.size)
  have s30 : w29.heap.size ≤ w30.heap.size := b30.size
  replace rS0 := stable_ints.below rS0 b30
  replace rmG0 := stable_ints.below rmG0 b30
  replace rH0 := stable_ints.below rH0 b30
  replace q0X := (b30.cell (p := ⟨w.heap.size, 0, none⟩) (by show w.heap.size < w29.heap.size; omega)).trans q0X
  replace q1X := (b30.cell (p := ⟨w.heap.size, 1, none⟩) (by show w.heap.size < w29.heap.size; omega)).trans q1X
  replace q2X := (b30.cell (p := ⟨w.heap.size, 2, none⟩) (by show w.heap.size < w29.heap.size; omega)).trans q2X
  replace q3X := (b30.cell (p := ⟨w.heap.size, 3, none⟩) (by show w.heap.size < w29.heap.size; omega)).trans q3X
  replace q4X := (b30.cell (p := ⟨w.heap.size, 4, none⟩) (by show w.heap.size < w29.heap.size; omega)).trans q4X
  replace q5X := (b30.cell (p := ⟨w.heap.size, 5, none⟩) (by show w.heap.size < w29.heap.size; omega)).trans q5X
  go_wp2_with fail
  refine Calls.mono (Calls.vq (heldInt64S_c w30 _ _ res0.length _ rmG0 (by omega) (by have := Em1.out; omega)) (congrArg (Value.int .i64) Em1.out.symm)) ?_
  rintro e w31 ⟨rfl, hd31⟩
  have b31 : Below w30.heap.size w30 w31 := hd31.below _
  have B31 : Below w.heap.size w w31 := B30.trans (b31.mono B30.size)
  have s31 : w30.heap.size ≤ w31.heap.size := b31.size
  replace rS0 := stable_ints.below rS0 b31
  replace rmG0 := stable_ints.below rmG0 b31
  replace rH0 := stable_ints.below rH0 b31
  replace q0X := (b31.cell (p := ⟨w.heap.size, 0, none⟩) (by show w.heap.size < w30.heap.size; omega)).trans q0X
  replace q1X := (b31.cell (p := ⟨w.heap.size, 1, none⟩) (by show w.heap.size < w30.heap.size; omega)).trans q1X
  replace q2X := (b31.cell (p := ⟨w.heap.size, 2, none⟩) (by show w.heap.size < w30.heap.size; omega)).trans q2X
  replace q3X := (b31.cell (p := ⟨w.heap.size, 3, none⟩) (by show w.heap.size < w30.heap.size; omega)).trans q3X
  replace q4X := (b31.cell (p := ⟨w.heap.size, 4, none⟩) (by show w.heap.size < w30.heap.size; omega)).trans q4X
  replace q5X := (b31.cell (p := ⟨w.heap.size, 5, none⟩) (by show w.heap.size < w30.heap.size; omega)).trans q5X
  go_wp2_with fail
  go_ret
  exact ⟨_, rfl, rfl, B31⟩


end fnExactEasiestKey
end Go.Proofs.YtblmccofkochoaaGreat
