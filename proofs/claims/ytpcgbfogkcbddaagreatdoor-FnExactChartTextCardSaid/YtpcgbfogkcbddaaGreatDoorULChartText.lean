/- Proved: for every system, every list of lists, laws.FnExactChartText returns true and changes nothing that was there; the listed tables of the library start as the program's text lays them. -/
import Derived.Test.YtpcgbfogkcbddaaGreatDoorRows
import Derived.Deep.RegionHeld3
import Derived.ChangeMaps5
import Derived.LaidMore
import Derived.LaidSub
import Derived.Lay
import Derived.Lib.LaidTab
import Derived.SevenTiedAt
import Derived.Deep.DeepHandedRow
import Derived.Test.YtpcgbfogkcbddaaGreatDoorCards
import Derived.Test.YtpcgbfogkcbddaaGreatDoorTie
import Derived.Test.YtpcgbfogkcbddaaGreatDoorUPkL
import Derived.Test.YtpcgbfogkcbddaaGreatDoorUChartI
import Derived.Test.YtpcgbfogkcbddaaGreatDoorUChartS
namespace Go.Proofs.YtpcgbfogkcbddaaGreatDoor
open Go.ChangeShapes Go.WideShapes Go.ChangeAt Go.RowKit
set_option linter.unusedVariables false
namespace fnExactChartText

theorem gTab : Tryz.prog.globalNamed "internal/strconv.uint64pow10" = some 1 := by kernel_rfl
theorem gTabType : (Tryz.prog.globals[1]?).map (·.type) = some 206 := by kernel_rfl
theorem cellsTab : Tryz.prog.cellsOf 206 = 20 := by kernel_rfl
theorem cellsOne : Tryz.prog.cellsOf 176 = 1 := by kernel_rfl
theorem rowTab : Rows.fnExactChartTextRow.laid.filter (fun x => x.1 == "internal/strconv.uint64pow10") = [("internal/strconv.uint64pow10", Lib.tabData .u64 Lib.pow10Tab)] := by kernel_rfl
theorem pow10_of {W : World} (h : laidMetH Tryz.prog Rows.fnExactChartTextRow.laid W) : Pow10 W := by
  have h' := laidMetH.filter (fun x => x.1 == "internal/strconv.uint64pow10") h
  rw [rowTab] at h'
  exact Lib.tabIs_of_head (rest := []) gTab gTabType Tryz.underlying206 Tryz.underlying176 cellsOne cellsTab h'

set_option maxRecDepth 20000 in
set_option maxHeartbeats 2000000 in
theorem walk (w : World) (_ : w.ShapedOpen Tryz.prog) (hL : laidMetH Tryz.prog Rows.fnExactChartTextRow.laid w) (MX : MK) (vX : Value) (X : List (List Int)) (hX : RowsR (.old w) w vX X) (vcuts : Value) (cuts : List (List Int)) (hcuts : RowsR (.old w) w vcuts cuts) :
    Calls Tryz.prog 5 #[.agg #[.int .i64 MX.c, .int .i64 MX.d, .int .i64 MX.s, .int .i64 MX.m, .int .i64 MX.l, vX], vcuts] w (Ret w fun r _ => r = .bool true) := by
  obtain ⟨aX, nX, cX, rfl, shX, -⟩ := SliceR.shape hX
  clear shX
  obtain ⟨acuts, ncuts, ccuts, rfl, shcuts, -⟩ := SliceR.shape hcuts
  clear shcuts
  have hT := pow10_of hL
  have cS : ∀ (wq : World) (yX : Value) (zX : Zone) (ycuts : Value) (zcuts : Zone) (gX : RowsR zX wq yX X) (gcuts : RowsR zcuts wq ycuts cuts), Calls Tryz.prog 19 #[.agg #[.int .i64 MX.c, .int .i64 MX.d, .int .i64 MX.s, .int .i64 MX.m, .int .i64 MX.l, yX], ycuts] wq (Ret wq fun r _ => r = .tuple #[.string (chartM MX X cuts).1, .int .i64 (chartM MX X cuts).2]) := fun wq yX zX ycuts zcuts gX gcuts => (fun w M v z x h u y cuts h2 => ChartTextSpec_c w M v z x h u y cuts h2) wq MX yX zX X gX ycuts zcuts cuts gcuts
  have cI : ∀ (wq : World) (qq : Below w.heap.size w wq) (yX : Value) (zX : Zone) (ycuts : Value) (zcuts : Zone) (gX : RowsR zX wq yX X) (gcuts : RowsR zcuts wq ycuts cuts), Calls Tryz.prog 20 #[.agg #[.int .i64 MX.c, .int .i64 MX.d, .int .i64 MX.s, .int .i64 MX.m, .int .i64 MX.l, yX], ycuts] wq (Ret wq fun r _ => r = .tuple #[.string (chartM MX X cuts).1, .int .i64 (chartM MX X cuts).2]) := fun wq qq yX zX ycuts zcuts gX gcuts => (fun w hT M v z x h u y cuts h2 => ChartText_c w hT M v z x h u y cuts h2) wq (hT.ext qq) MX yX zX X gX ycuts zcuts cuts gcuts
  generalize (chartM MX X cuts).1 = res0 at cS cI
  generalize (chartM MX X cuts).2 = res1 at cS cI
  have CS := Lib.hid cS; have CI := Lib.hid cI; clear cS cI hT hL
  go_enter Tryz.func5, Tryz.ntmps5
  go_wp2_with fail
  generalize hwb1 : World.alloc _ _ = w1
  have b1 : Below w.heap.size w w1 := by rw [← hwb1]; exact (Below.refl _ _).alloc (Nat.le_refl _) _
  have s1 : w.heap.size < w1.heap.size := by rw [← hwb1]; simp
  have q0X : w1.cell? ⟨w.heap.size, 0, none⟩ = some (.int .i64 MX.c) := by rw [← hwb1]; clear hwb1; go_simp
  have q1X : w1.cell? ⟨w.heap.size, 1, none⟩ = some (.int .i64 MX.d) := by rw [← hwb1]; clear hwb1; go_simp
  have q2X : w1.cell? ⟨w.heap.size, 2, none⟩ = some (.int .i64 MX.s) := by rw [← hwb1]; clear hwb1; go_simp
  have q3X : w1.cell? ⟨w.heap.size, 3, none⟩ = some (.int .i64 MX.m) := by rw [← hwb1]; clear hwb1; go_simp
  have q4X : w1.cell? ⟨w.heap.size, 4, none⟩ = some (.int .i64 MX.l) := by rw [← hwb1]; clear hwb1; go_simp
  have q5X : w1.cell? ⟨w.heap.size, 5, none⟩ = some (.slice aX nX cX) := by rw [← hwb1]; clear hwb1; go_simp
  clear hwb1
  have B1 : Below w.heap.size w w1 := b1
  have szX := szSystemA_c w1 MX _ _ X 1048576 (stable_rows.below hX B1) (by omega) (by omega)
  rcases Nat.lt_or_ge (1048576 : Int).toNat (bulk X) with hbX | hbX
  · rw [szLeft_neg (by omega)] at szX
    refine Calls.mono szX ?_
    rintro e wx ⟨r, rfl, rfl, bx⟩
    go_wp2_with fail
    go_ret
    exact ⟨_, rfl, rfl, B1.trans (bx.mono B1.size)⟩
  rw [szLeft_pos (by omega)] at szX
  have lbX : bulk X ≤ 1048576 := by omega
  have lgX : (0 : Int) ≤ 1048576 - (bulk X : Int) := by omega
  have lhX : 1048576 - (bulk X : Int) ≤ 1048576 := by omega
  generalize (1048576 : Int) - (bulk X : Int) = lX at *
  refine Calls.mono szX ?_
  rintro e w2 ⟨r, rfl, rfl, hd2⟩
  clear szX
  have b2 : Below w1.heap.size w1 w2 := hd2
  have B2 : Below w.heap.size w w2 := B1.trans (b2.mono B1.size)
  have s2 : w1.heap.size ≤ w2.heap.size := b2.size
  replace q0X := (b2.cell (p := ⟨w.heap.size, 0, none⟩) (by show w.heap.size < w1.heap.size; omega)).trans q0X
  replace q1X := (b2.cell (p := ⟨w.heap.size, 1, none⟩) (by show w.heap.size < w1.heap.size; omega)).trans q1X
  replace q2X := (b2.cell (p := ⟨w.heap.size, 2, none⟩) (by show w.heap.size < w1.heap.size; omega)).trans q2X
  replace q3X := (b2.cell (p := ⟨w.heap.size, 3, none⟩) (by show w.heap.size < w1.heap.size; omega)).trans q3X
  replace q4X := (b2.cell (p := ⟨w.heap.size, 4, none⟩) (by show w.heap.size < w1.heap.size; omega)).trans q4X
  replace q5X := (b2.cell (p := ⟨w.heap.size, 5, none⟩) (by show w.heap.size < w1.heap.size; omega)).trans q5X
  have szcuts := szInt64SS_c w2 _ _ cuts lX (stable_rows.below hcuts B2) (by omega) (by omega)
  go_wp2_with fail
  rcases Nat.lt_or_ge (lX : Int).toNat (bulk cuts) with hbcuts | hbcuts
  · rw [szLeft_neg (by omega)] at szcuts
    refine Calls.mono szcuts ?_
    rintro e wx ⟨rfl, hdx⟩
    go_wp2_with fail
    go_ret
    exact ⟨_, rfl, rfl, B2.trans (hdx.below _)⟩
  rw [szLeft_pos (by omega)] at szcuts
  have lbcuts : bulk cuts ≤ 1048576 := by omega
  have lgcuts : (0 : Int) ≤ lX - (bulk cuts : Int) := by omega
  have lhcuts : lX - (bulk cuts : Int) ≤ 1048576 := by omega
  generalize (lX : Int) - (bulk cuts : Int) = lcuts at *
  refine Calls.mono szcuts ?_
  rintro e w3 ⟨rfl, hd3⟩
  clear szcuts
  have b3 : Below w2.heap.size w2 w3 := hd3.below _
  have B3 : Below w.heap.size w w3 := B2.trans (b3.mono B2.size)
  have s3 : w2.heap.size ≤ w3.heap.size := b3.size
  replace q0X := (b3.cell (p := ⟨w.heap.size, 0, none⟩) (by show w.heap.size < w2.heap.size; omega)).trans q0X
  replace q1X := (b3.cell (p := ⟨w.heap.size, 1, none⟩) (by show w.heap.size < w2.heap.size; omega)).trans q1X
  replace q2X := (b3.cell (p := ⟨w.heap.size, 2, none⟩) (by show w.heap.size < w2.heap.size; omega)).trans q2X
  replace q3X := (b3.cell (p := ⟨w.heap.size, 3, none⟩) (by show w.heap.size < w2.heap.size; omega)).trans q3X
  replace q4X := (b3.cell (p := ⟨w.heap.size, 4, none⟩) (by show w.heap.size < w2.heap.size; omega)).trans q4X
  replace q5X := (b3.cell (p := ⟨w.heap.size, 5, none⟩) (by show w.heap.size < w2.heap.size; omega)).trans q5X
  go_wp2_with fail
  refine Calls.mono (toSystemA_c w3 MX _ _ X (stable_rows.below hX B3) lbX) ?_
  rintro e w4 ⟨rvsX, rfl, ⟨usX, rfl, rsX⟩, bb4⟩
  have b4 : Below w3.heap.size w3 w4 := bb4
  have B4 : Below w.heap.size w w4 := B3.trans (b4.mono B3.size)
  have s4 : w3.heap.size ≤ w4.heap.size := b4.size
  replace q0X := (b4.cell (p := ⟨w.heap.size, 0, none⟩) (by show w.heap.size < w3.heap.size; omega)).trans q0X
  replace q1X := (b4.cell (p := ⟨w.heap.size, 1, none⟩) (by show w.heap.size < w3.heap.size; omega)).trans q1X
  replace q2X := (b4.cell (p := ⟨w.heap.size, 2, none⟩) (by show w.heap.size < w3.heap.size; omega)).trans q2X
  replace q3X := (b4.cell (p := ⟨w.heap.size, 3, none⟩) (by show w.heap.size < w3.heap.size; omega)).trans q3X
  replace q4X := (b4.cell (p := ⟨w.heap.size, 4, none⟩) (by show w.heap.size < w3.heap.size; omega)).trans q4X
  replace q5X := (b4.cell (p := ⟨w.heap.size, 5, none⟩) (by show w.heap.size < w3.heap.size; omega)).trans q5X
  obtain ⟨asX, nsX, ksX, rfl, -⟩ := SliceR.shape rsX
  go_wp2_with fail
  refine Calls.mono (toInt64SS_c w4 _ _ cuts (stable_rows.below hcuts B4) lbcuts) ?_
  rintro e w5 ⟨uscuts, rfl, rscuts, bb5⟩
  have b5 : Below w4.heap.size w4 w5 := bb5
  have B5 : Below w.heap.size w w5 := B4.trans (b5.mono B4.size)
  have s5 : w4.heap.size ≤ w5.heap.size := b5.size
  replace rsX := stable_rows.below rsX b5
  replace q0X := (b5.cell (p := ⟨w.heap.size, 0, none⟩) (by show w.heap.size < w4.heap.size; omega)).trans q0X
  replace q1X := (b5.cell (p := ⟨w.heap.size, 1, none⟩) (by show w.heap.size < w4.heap.size; omega)).trans q1X
  replace q2X := (b5.cell (p := ⟨w.heap.size, 2, none⟩) (by show w.heap.size < w4.heap.size; omega)).trans q2X
  replace q3X := (b5.cell (p := ⟨w.heap.size, 3, none⟩) (by show w.heap.size < w4.heap.size; omega)).trans q3X
  replace q4X := (b5.cell (p := ⟨w.heap.size, 4, none⟩) (by show w.heap.size < w4.heap.size; omega)).trans q4X
  replace q5X := (b5.cell (p := ⟨w.heap.size, 5, none⟩) (by show w.heap.size < w4.heap.size; omega)).trans q5X
  go_wp2_with fail
  refine Calls.mono (CS.out w5 _ _ _ _ rsX rscuts) ?_
  rintro e w6 ⟨rr6, rfl, rfl, bb6⟩
  have b6 : Below w5.heap.size w5 w6 := bb6
  have B6 : Below w.heap.size w w6 := B5.trans (b6.mono B5.size)
  have s6 : w5.heap.size ≤ w6.heap.size := b6.size
  replace rsX := stable_rows.below rsX b6
  replace rscuts := stable_rows.below rscuts b6
  replace q0X := (b6.cell (p := ⟨w.heap.size, 0, none⟩) (by show w.heap.size < w5.heap.size; omega)).trans q0X
  replace q1X := (b6.cell (p := ⟨w.heap.size, 1, none⟩) (by show w.heap.size < w5.heap.size; omega)).trans q1X
  replace q2X := (b6.cell (p := ⟨w.heap.size, 2, none⟩) (by show w.heap.size < w5.heap.size; omega)).trans q2X
  replace q3X := (b6.cell (p := ⟨w.heap.size, 3, none⟩) (by show w.heap.size < w5.heap.size; omega)).trans q3X
  replace q4X := (b6.cell (p := ⟨w.heap.size, 4, none⟩) (by show w.heap.size < w5.heap.size; omega)).trans q4X
  replace q5X := (b6.cell (p := ⟨w.heap.size, 5, none⟩) (by show w.heap.size < w5.heap.size; omega)).trans q5X
  clear rsX
  clear rscuts
  go_wp2_with fail
  refine Calls.mono (toSystemA_c w6 MX _ _ X (stable_rows.below hX B6) lbX) ?_
  rintro e w7 ⟨rvxX, rfl, ⟨uxX, rfl, rxX⟩, bb7⟩
  have b7 : Below w6.heap.size w6 w7 := bb7
  have B7 : Below w.heap.size w w7 := B6.trans (b7.mono B6.size)
  have s7 : w6.heap.size ≤ w7.heap.size := b7.size
  replace q0X := (b7.cell (p := ⟨w.heap.size, 0, none⟩) (by show w.heap.size < w6.heap.size; omega)).trans q0X
  replace q1X := (b7.cell (p := ⟨w.heap.size, 1, none⟩) (by show w.heap.size < w6.heap.size; omega)).trans q1X
  replace q2X := (b7.cell (p := ⟨w.heap.size, 2, none⟩) (by show w.heap.size < w6.heap.size; omega)).trans q2X
  replace q3X := (b7.cell (p := ⟨w.heap.size, 3, none⟩) (by show w.heap.size < w6.heap.size; omega)).trans q3X
  replace q4X := (b7.cell (p := ⟨w.heap.size, 4, none⟩) (by show w.heap.size < w6.heap.size; omega)).trans q4X
  replace q5X := (b7.cell (p := ⟨w.heap.size, 5, none⟩) (by show w.heap.size < w6.heap.size; omega)).trans q5X
  obtain ⟨axX, nxX, kxX, rfl, -⟩ := SliceR.shape rxX
  go_wp2_with fail
  generalize hwb8 : World.alloc _ _ = w8
  have b8 : Below w7.heap.size w7 w8 := by rw [← hwb8]; exact (Below.refl _ _).alloc (Nat.le_refl _) _
  have s8 : w7.heap.size < w8.heap.size := by rw [← hwb8]; simp
  have p0X : w8.cell? ⟨w7.heap.size, 0, none⟩ = some (.int .i64 MX.c) := by rw [← hwb8]; clear hwb8; go_simp
  have p1X : w8.cell? ⟨w7.heap.size, 1, none⟩ = some (.int .i64 MX.d) := by rw [← hwb8]; clear hwb8; go_simp
  have p2X : w8.cell? ⟨w7.heap.size, 2, none⟩ = some (.int .i64 MX.s) := by rw [← hwb8]; clear hwb8; go_simp
  have p3X : w8.cell? ⟨w7.heap.size, 3, none⟩ = some (.int .i64 MX.m) := by rw [← hwb8]; clear hwb8; go_simp
  have p4X : w8.cell? ⟨w7.heap.size, 4, none⟩ = some (.int .i64 MX.l) := by rw [← hwb8]; clear hwb8; go_simp
  have p5X : w8.cell? ⟨w7.heap.size, 5, none⟩ = some (.slice axX nxX kxX) := by rw [← hwb8]; clear hwb8; go_simp
  clear hwb8
  have B8 : Below w.heap.size w w8 := B7.trans (b8.mono B7.size)
  replace rxX := stable_rows.below rxX b8
  replace q0X := (b8.cell (p := ⟨w.heap.size, 0, none⟩) (by show w.heap.size < w7.heap.size; omega)).trans q0X
  replace q1X := (b8.cell (p := ⟨w.heap.size, 1, none⟩) (by show w.heap.size < w7.heap.size; omega)).trans q1X
  replace q2X := (b8.cell (p := ⟨w.heap.size, 2, none⟩) (by show w.heap.size < w7.heap.size; omega)).trans q2X
  replace q3X := (b8.cell (p := ⟨w.heap.size, 3, none⟩) (by show w.heap.size < w7.heap.size; omega)).trans q3X
  replace q4X := (b8.cell (p := ⟨w.heap.size, 4, none⟩) (by show w.heap.size < w7.heap.size; omega)).trans q4X
  replace q5X := (b8.cell (p := ⟨w.heap.size, 5, none⟩) (by show w.heap.size < w7.heap.size; omega)).trans q5X
  refine Calls.mono (toInt64SS_c w8 _ _ cuts (stable_rows.below hcuts B8) lbcuts) ?_
  rintro e w9 ⟨uxcuts, rfl, rxcuts, bb9⟩
  have b9 : Below w8.heap.size w8 w9 := bb9
  have B9 : Below w.heap.size w w9 := B8.trans (b9.mono B8.size)
  have s9 : w8.heap.size ≤ w9.heap.size := b9.size
  replace rxX := stable_rows.below rxX b9
  replace q0X := (b9.cell (p := ⟨w.heap.size, 0, none⟩) (by show w.heap.size < w8.heap.size; omega)).trans q0X
  replace q1X := (b9.cell (p := ⟨w.heap.size, 1, none⟩) (by show w.heap.size < w8.heap.size; omega)).trans q1X
  replace q2X := (b9.cell (p := ⟨w.heap.size, 2, none⟩) (by show w.heap.size < w8.heap.size; omega)).trans q2X
  replace q3X := (b9.cell (p := ⟨w.heap.size, 3, none⟩) (by show w.heap.size < w8.heap.size; omega)).trans q3X
  replace q4X := (b9.cell (p := ⟨w.heap.size, 4, none⟩) (by show w.heap.size < w8.heap.size; omega)).trans q4X
  replace q5X := (b9.cell (p := ⟨w.heap.size, 5, none⟩) (by show w.heap.size < w8.heap.size; omega)).trans q5X
  replace p0X := (b9.cell (p := ⟨w7.heap.size, 0, none⟩) (by show w7.heap.size < w8.heap.size; omega)).trans p0X
  replace p1X := (b9.cell (p := ⟨w7.heap.size, 1, none⟩) (by show w7.heap.size < w8.heap.size; omega)).trans p1X
  replace p2X := (b9.cell (p := ⟨w7.heap.size, 2, none⟩) (by show w7.heap.size < w8.heap.size; omega)).trans p2X
  replace p3X := (b9.cell (p := ⟨w7.heap.size, 3, none⟩) (by show w7.heap.size < w8.heap.size; omega)).trans p3X
  replace p4X := (b9.cell (p := ⟨w7.heap.size, 4, none⟩) (by show w7.heap.size < w8.heap.size; omega)).trans p4X
  replace p5X := (b9.cell (p := ⟨w7.heap.size, 5, none⟩) (by show w7.heap.size < w8.heap.size; omega)).trans p5X
  go_wp2_with fail
  refine Calls.mono (CI.out w9 B9 _ _ _ _ rxX rxcuts) ?_
  rintro e w10 ⟨rr10, rfl, rfl, bb10⟩
  have b10 : Below w9.heap.size w9 w10 := bb10
  have B10 : Below w.heap.size w w10 := B9.trans (b10.mono B9.size)
  have s10 : w9.heap.size ≤ w10.heap.size := b10.size
  replace rxX := stable_rows.below rxX b10
  replace rxcuts := stable_rows.below rxcuts b10
  replace q0X := (b10.cell (p := ⟨w.heap.size, 0, none⟩) (by show w.heap.size < w9.heap.size; omega)).trans q0X
  replace q1X := (b10.cell (p := ⟨w.heap.size, 1, none⟩) (by show w.heap.size < w9.heap.size; omega)).trans q1X
  replace q2X := (b10.cell (p := ⟨w.heap.size, 2, none⟩) (by show w.heap.size < w9.heap.size; omega)).trans q2X
  replace q3X := (b10.cell (p := ⟨w.heap.size, 3, none⟩) (by show w.heap.size < w9.heap.size; omega)).trans q3X
  replace q4X := (b10.cell (p := ⟨w.heap.size, 4, none⟩) (by show w.heap.size < w9.heap.size; omega)).trans q4X
  replace q5X := (b10.cell (p := ⟨w.heap.size, 5, none⟩) (by show w.heap.size < w9.heap.size; omega)).trans q5X
  replace p0X := (b10.cell (p := ⟨w7.heap.size, 0, none⟩) (by show w7.heap.size < w9.heap.size; omega)).trans p0X
  replace p1X := (b10.cell (p := ⟨w7.heap.size, 1, none⟩) (by show w7.heap.size < w9.heap.size; omega)).trans p1X
  replace p2X := (b10.cell (p := ⟨w7.heap.size, 2, none⟩) (by show w7.heap.size < w9.heap.size; omega)).trans p2X
  replace p3X := (b10.cell (p := ⟨w7.heap.size, 3, none⟩) (by show w7.heap.size < w9.heap.size; omega)).trans p3X
  replace p4X := (b10.cell (p := ⟨w7.heap.size, 4, none⟩) (by show w7.heap.size < w9.heap.size; omega)).trans p4X
  replace p5X := (b10.cell (p := ⟨w7.heap.size, 5, none⟩) (by show w7.heap.size < w9.heap.size; omega)).trans p5X
  have HK12 : Hid (∀ w', Below w10.heap.size w10 w' → w'.cell? ⟨w.heap.size, 0, none⟩ = some (.int .i64 MX.c) ∧ w'.cell? ⟨w.heap.size, 1, none⟩ = some (.int .i64 MX.d) ∧ w'.cell? ⟨w.heap.size, 2, none⟩ = some (.int .i64 MX.s) ∧ w'.cell? ⟨w.heap.size, 3, none⟩ = some (.int .i64 MX.m) ∧ w'.cell? ⟨w.heap.size, 4, none⟩ = some (.int .i64 MX.l) ∧ w'.cell? ⟨w.heap.size, 5, none⟩ = some (.slice aX nX cX) ∧ w'.cell? ⟨w7.heap.size, 0, none⟩ = some (.int .i64 MX.c) ∧ w'.cell? ⟨w7.heap.size, 1, none⟩ = some (.int .i64 MX.d) ∧ w'.cell? ⟨w7.heap.size, 2, none⟩ = some (.int .i64 MX.s) ∧ w'.cell? ⟨w7.heap.size, 3, none⟩ = some (.int .i64 MX.m) ∧ w'.cell? ⟨w7.heap.size, 4, none⟩ = some (.int .i64 MX.l) ∧ w'.cell? ⟨w7.heap.size, 5, none⟩ = some (.slice axX nxX kxX)) := fun w' hb => ⟨(hb.cell (by show w.heap.size < w10.heap.size; omega)).trans q0X, (hb.cell (by show w.heap.size < w10.heap.size; omega)).trans q1X, (hb.cell (by show w.heap.size < w10.heap.size; omega)).trans q2X, (hb.cell (by show w.heap.size < w10.heap.size; omega)).trans q3X, (hb.cell (by show w.heap.size < w10.heap.size; omega)).trans q4X, (hb.cell (by show w.heap.size < w10.heap.size; omega)).trans q5X, (hb.cell (by show w7.heap.size < w10.heap.size; omega)).trans p0X, (hb.cell (by show w7.heap.size < w10.heap.size; omega)).trans p1X, (hb.cell (by show w7.heap.size < w10.heap.size; omega)).trans p2X, (hb.cell (by show w7.heap.size < w10.heap.size; omega)).trans p3X, (hb.cell (by show w7.heap.size < w10.heap.size; omega)).trans p4X, (hb.cell (by show w7.heap.size < w10.heap.size; omega)).trans p5X⟩
  have HF12 := Lib.hid (stable_rows.below hX B10)
  have HX12 := Lib.hid rxX
  go_wp2_with fail
  go_region_held3 (fun w' => w'.cell? ⟨w.heap.size, 0, none⟩ = some (.int .i64 MX.c) ∧ w'.cell? ⟨w.heap.size, 1, none⟩ = some (.int .i64 MX.d) ∧ w'.cell? ⟨w.heap.size, 2, none⟩ = some (.int .i64 MX.s) ∧ w'.cell? ⟨w.heap.size, 3, none⟩ = some (.int .i64 MX.m) ∧ w'.cell? ⟨w.heap.size, 4, none⟩ = some (.int .i64 MX.l) ∧ w'.cell? ⟨w.heap.size, 5, none⟩ = some (.slice aX nX cX) ∧ w'.cell? ⟨w7.heap.size, 0, none⟩ = some (.int .i64 MX.c) ∧ w'.cell? ⟨w7.heap.size, 1, none⟩ = some (.int .i64 MX.d) ∧ w'.cell? ⟨w7.heap.size, 2, none⟩ = some (.int .i64 MX.s) ∧ w'.cell? ⟨w7.heap.size, 3, none⟩ = some (.int .i64 MX.m) ∧ w'.cell? ⟨w7.heap.size, 4, none⟩ = some (.int .i64 MX.l) ∧ w'.cell? ⟨w7.heap.size, 5, none⟩ = some (.slice axX nxX kxX)) (first | exact HK12.out _ (Below.refl _ _).drew | exact HK12.out _ ((Below.refl _ _).drew.trans bA12) | exact HK12.out _ (((Below.refl _ _).drew.trans bA12).trans (bB12.mono bA12.size)))
    (first | (go_at_call 12; refine (toSystemA_c _ _ _ _ X (stable_rows.below HF12.out (Below.refl _ _).drew) lbX).mono ?_; rintro e wA12 ⟨rv, rfl, ⟨uA12, rfl, rA12⟩, bA12⟩) | (go_at_call 15; refine (eqSystemA_c _ _ _ _ _ _ X (stable_rows.below HX12.out ((Below.refl _ _).drew.trans bA12)) rA12).mono ?_; rintro e w12 ⟨rv, rfl, rfl, bB12⟩))
  clear HK12 HF12 HX12
  have b12 : Below w10.heap.size w10 w12 := (((Below.refl _ _).drew.trans bA12).trans (bB12.mono bA12.size))
  have B12 : Below w.heap.size w w12 := B10.trans (b12.mono B10.size)
  have s12 : w10.heap.size ≤ w12.heap.size := b12.size
  replace rxX := stable_rows.below rxX b12
  replace rxcuts := stable_rows.below rxcuts b12
  replace q0X := (b12.cell (p := ⟨w.heap.size, 0, none⟩) (by show w.heap.size < w10.heap.size; omega)).trans q0X
  replace q1X := (b12.cell (p := ⟨w.heap.size, 1, none⟩) (by show w.heap.size < w10.heap.size; omega)).trans q1X
  replace q2X := (b12.cell (p := ⟨w.heap.size, 2, none⟩) (by show w.heap.size < w10.heap.size; omega)).trans q2X
  replace q3X := (b12.cell (p := ⟨w.heap.size, 3, none⟩) (by show w.heap.size < w10.heap.size; omega)).trans q3X
  replace q4X := (b12.cell (p := ⟨w.heap.size, 4, none⟩) (by show w.heap.size < w10.heap.size; omega)).trans q4X
  replace q5X := (b12.cell (p := ⟨w.heap.size, 5, none⟩) (by show w.heap.size < w10.heap.size; omega)).trans q5X
  replace p0X := (b12.cell (p := ⟨w7.heap.size, 0, none⟩) (by show w7.heap.size < w10.heap.size; omega)).trans p0X
  replace p1X := (b12.cell (p := ⟨w7.heap.size, 1, none⟩) (by show w7.heap.size < w10.heap.size; omega)).trans p1X
  replace p2X := (b12.cell (p := ⟨w7.heap.size, 2, none⟩) (by show w7.heap.size < w10.heap.size; omega)).trans p2X
  replace p3X := (b12.cell (p := ⟨w7.heap.size, 3, none⟩) (by show w7.heap.size < w10.heap.size; omega)).trans p3X
  replace p4X := (b12.cell (p := ⟨w7.heap.size, 4, none⟩) (by show w7.heap.size < w10.heap.size; omega)).trans p4X
  replace p5X := (b12.cell (p := ⟨w7.heap.size, 5, none⟩) (by show w7.heap.size < w10.heap.size; omega)).trans p5X
  go_wp2_with fail
  refine Calls.mono (toInt64SS_c w12 _ _ cuts (stable_rows.below hcuts B12) lbcuts) ?_
  rintro e w13 ⟨uccuts, rfl, rccuts, bb13⟩
  have b13 : Below w12.heap.size w12 w13 := bb13
  have B13 : Below w.heap.size w w13 := B12.trans (b13.mono B12.size)
  have s13 : w12.heap.size ≤ w13.heap.size := b13.size
  replace rxX := stable_rows.below rxX b13
  replace rxcuts := stable_rows.below rxcuts b13
  replace q0X := (b13.cell (p := ⟨w.heap.size, 0, none⟩) (by show w.heap.size < w12.heap.size; omega)).trans q0X
  replace q1X := (b13.cell (p := ⟨w.heap.size, 1, none⟩) (by show w.heap.size < w12.heap.size; omega)).trans q1X
  replace q2X := (b13.cell (p := ⟨w.heap.size, 2, none⟩) (by show w.heap.size < w12.heap.size; omega)).trans q2X
  replace q3X := (b13.cell (p := ⟨w.heap.size, 3, none⟩) (by show w.heap.size < w12.heap.size; omega)).trans q3X
  replace q4X := (b13.cell (p := ⟨w.heap.size, 4, none⟩) (by show w.heap.size < w12.heap.size; omega)).trans q4X
  replace q5X := (b13.cell (p := ⟨w.heap.size, 5, none⟩) (by show w.heap.size < w12.heap.size; omega)).trans q5X
  replace p0X := (b13.cell (p := ⟨w7.heap.size, 0, none⟩) (by show w7.heap.size < w12.heap.size; omega)).trans p0X
  replace p1X := (b13.cell (p := ⟨w7.heap.size, 1, none⟩) (by show w7.heap.size < w12.heap.size; omega)).trans p1X
  replace p2X := (b13.cell (p := ⟨w7.heap.size, 2, none⟩) (by show w7.heap.size < w12.heap.size; omega)).trans p2X
  replace p3X := (b13.cell (p := ⟨w7.heap.size, 3, none⟩) (by show w7.heap.size < w12.heap.size; omega)).trans p3X
  replace p4X := (b13.cell (p := ⟨w7.heap.size, 4, none⟩) (by show w7.heap.size < w12.heap.size; omega)).trans p4X
  replace p5X := (b13.cell (p := ⟨w7.heap.size, 5, none⟩) (by show w7.heap.size < w12.heap.size; omega)).trans p5X
  go_wp2_with fail
  refine Calls.mono (Calls.vq (eqInt64SS_c w13 _ _ _ _ cuts cuts rxcuts rccuts) (congrArg Value.bool (decide_eq_true rfl))) ?_
  rintro e w14 ⟨rfl, hd14⟩
  have b14 : Below w13.heap.size w13 w14 := hd14.below _
  have B14 : Below w.heap.size w w14 := B13.trans (b14.mono B13.size)
  have s14 : w13.heap.size ≤ w14.heap.size := b14.size
  replace rxX := stable_rows.below rxX b14
  replace rxcuts := stable_rows.below rxcuts b14
  replace rccuts := stable_rows.below rccuts b14
  replace q0X := (b14.cell (p := ⟨w.heap.size, 0, none⟩) (by show w.heap.size < w13.heap.size; omega)).trans q0X
  replace q1X := (b14.cell (p := ⟨w.heap.size, 1, none⟩) (by show w.heap.size < w13.heap.size; omega)).trans q1X
  replace q2X := (b14.cell (p := ⟨w.heap.size, 2, none⟩) (by show w.heap.size < w13.heap.size; omega)).trans q2X
  replace q3X := (b14.cell (p := ⟨w.heap.size, 3, none⟩) (by show w.heap.size < w13.heap.size; omega)).trans q3X
  replace q4X := (b14.cell (p := ⟨w.heap.size, 4, none⟩) (by show w.heap.size < w13.heap.size; omega)).trans q4X
  replace q5X := (b14.cell (p := ⟨w.heap.size, 5, none⟩) (by show w.heap.size < w13.heap.size; omega)).trans q5X
  replace p0X := (b14.cell (p := ⟨w7.heap.size, 0, none⟩) (by show w7.heap.size < w13.heap.size; omega)).trans p0X
  replace p1X := (b14.cell (p := ⟨w7.heap.size, 1, none⟩) (by show w7.heap.size < w13.heap.size; omega)).trans p1X
  replace p2X := (b14.cell (p := ⟨w7.heap.size, 2, none⟩) (by show w7.heap.size < w13.heap.size; omega)).trans p2X
  replace p3X := (b14.cell (p := ⟨w7.heap.size, 3, none⟩) (by show w7.heap.size < w13.heap.size; omega)).trans p3X
  replace p4X := (b14.cell (p := ⟨w7.heap.size, 4, none⟩) (by show w7.heap.size < w13.heap.size; omega)).trans p4X
  replace p5X := (b14.cell (p := ⟨w7.heap.size, 5, none⟩) (by show w7.heap.size < w13.heap.size; omega)).trans p5X
  clear rccuts
  go_wp2_with fail
  go_ret
  exact ⟨_, rfl, rfl, B14⟩


/-! ### the row -/
theorem own : ownKnob Tryz.prog.godebug = none := by kernel_rfl
theorem laidOut : laidOutB Tryz.prog = true := by kernel_rfl
set_option maxRecDepth 100000 in
theorem lifted (os : Os) (started : os.Started) (H : Type) (enc : TypeId × Value → H) (F : Stop.Interp) :
    ReturnsInHanded {} Tryz.checked os 5 .any ((OpenSpec.ofChange Rows.fnExactChartTextSpec).preRow enc Tryz.prog Tryz.f5 Rows.fnExactChartTextRow.domain false Rows.fnExactChartTextRow.laid)
      (((OpenSpec.ofChange Rows.fnExactChartTextSpec).at F).post enc Tryz.prog Tryz.f5 false true false false) := by
  refine returnsInHanded_of_row (C := Tryz.checked) (s := OpenSpec.ofChange Rows.fnExactChartTextSpec) own started (by kernel_rfl) Tryz.func5
    (ChangeSpec.witness_shaped (s := Rows.fnExactChartTextSpec) (enc := enc) (C := Tryz.checked) (os := os) (X := fun w _ => laidMetH Tryz.prog Rows.fnExactChartTextRow.laid w) false (World.laidAll Tryz.prog os Rows.fnExactChartTextRow.laid) #[.agg #[.int .i64 0, .int .i64 0, .int .i64 0, .int .i64 0, .int .i64 0, .slice none 0 0], .slice none 0 0] 8 (World.laidAll_os _ _ _)
      (World.shaped_of_ZipB (by kernel_rfl) (by kernel_rfl)) (by kernel_rfl) (by kernel_rfl) (by kernel_rfl)
      (by rw [MakeChecks.laidMetH_plain _ _ _ (by kernel_rfl)]; exact laidMet_laidAll _ (by kernel_rfl) (by kernel_rfl))) ?_
  intro W base args ds gs before hval0 hW hcnd _ _ hL hshape _
  have hval : ∀ (j : Nat) t v, Tryz.f5.params[j]? = some t → args[j]? = some v → Value.okWide Tryz.prog W .any base t v := hval0
  have hW' := hW
  obtain ⟨p, q, hA0, hV, rfl, hfz, hnd⟩ := hW
  have hA : DataW.TrodAll enc Tryz.prog W 0 (fun _ => true) true Tryz.f5.params.toList args.toList ds p := hA0
  rw [Tryz.params5] at hA hval
  obtain ⟨v0, vs0, d0, ds0, p0, q0, hargs, rfl, rfl, h0, r0⟩ := trodAll_cons hA
  obtain ⟨v1, vs1, d1, ds1, p1, q1, rfl, rfl, rfl, h1, r1⟩ := trodAll_cons r0
  obtain ⟨rfl, rfl, rfl⟩ := trodAll_nil r1
  obtain rfl : args = #[v0, v1] := by cases args; simp_all
  obtain ⟨rfl, rfl⟩ := trodVars_none hV
  have k0 := h0
  have lt0 : ∀ x ∈ p0, x.block < W.heap.size := by obtain ⟨m, hm⟩ := k0; exact DataW.trod_lt m _ _ _ hm
  obtain ⟨M0, u0, y0, m0, rfl, hw0, hu0⟩ := open_sys Tryz.underlying26 Tryz.underlying23 (by kernel_rfl) (by kernel_rfl) (by kernel_rfl) rfl rfl ⟨rfl, by kernel_rfl, Tryz.underlying2⟩ ⟨rfl, by kernel_rfl, Tryz.underlying2⟩ ⟨rfl, by kernel_rfl, Tryz.underlying2⟩ ⟨rfl, by kernel_rfl, Tryz.underlying2⟩ ⟨rfl, by kernel_rfl, Tryz.underlying2⟩ (hval 0 26 v0 rfl rfl) h0
  obtain ⟨x0, b0⟩ := open_RowsR Tryz.underlying24 Tryz.underlying54 Tryz.underlying2 (by kernel_rfl) (by kernel_rfl) hu0
  have k1 := h1
  have lt1 : ∀ x ∈ p1, x.block < W.heap.size := by obtain ⟨m, hm⟩ := k1; exact DataW.trod_lt m _ _ _ hm
  obtain ⟨a1, len1, cap1, rfl⟩ := okWide_slice Tryz.underlying24 (hval 1 24 v1 rfl rfl)
  obtain ⟨x1, w1⟩ : ∃ xs, RowsR (.old W) W (.slice a1 len1 cap1) xs := by obtain ⟨fuel, hf⟩ := h1; exact open_RowsR Tryz.underlying24 Tryz.underlying54 Tryz.underlying2 (by kernel_rfl) (by kernel_rfl) hf
  clear hA0 hval0
  refine (walk W hshape hL M0 _ x0 b0 _ x1 w1).mono fun e W' hret => ?_
  obtain ⟨r, rfl, rfl, bel⟩ := hret
  exact ⟨_, rfl, _, _, _, [], _, [], hW', trodAll_mk1 (shut_bool Tryz.underlying4 _), (trodAll_cons_mk (Below.trod laidOut (by kernel_rfl) (of_decide_eq_true (by kernel_rfl)) k0 bel lt0) (trodAll_cons_mk (Below.trod laidOut (by kernel_rfl) (of_decide_eq_true (by kernel_rfl)) k1 bel lt1) trodAll_mk0)), rfl, bel.frame _, fun h => by cases h⟩

theorem over : Rows.fnExactChartTextRow.holds Tryz.pinned (OpenSpec.ofChange Rows.fnExactChartTextSpec) :=
  OpenClaim.holds_of_cond 5 Tryz.f5 rfl rfl rfl rfl rfl rfl rfl ⟨rfl, rfl, rfl, rfl, rfl⟩ rfl rfl rfl rfl rfl (by kernel_rfl) Tryz.func5 (by kernel_rfl)
    (of_decide_eq_true (by kernel_rfl)) (by unfold Func.isWrapper; first | (rw [if_pos (by decide +kernel)]; kernel_rfl) | (rw [if_neg (by decide +kernel)]; exact ⟨rfl, rfl⟩))
    (fun os started H enc _ F => by rw [OpenClaim.pre_eq_preRow]; exact lifted os started H enc F)

theorem proved : Rows.FnExactChartTextCardSaid :=
  Claim7.holds_tied_plain_at .later [] _ _ _ _ over (fun _ h => by cases h) (by kernel_rfl) (fun _ h => by cases h) fnExactChartText_row_tie rfl ⟨rfl, rfl⟩ (by kernel_rfl) rfl
    (fun f fn hf hfn => by
      obtain rfl : f = 5 := Option.some.inj ((show Tryz.prog.funcNamed Rows.fnExactChartTextRow.func = some 5 by kernel_rfl).symm.trans hf) |>.symm
      obtain rfl : fn = Tryz.f5 := (Option.some.inj (Tryz.func5.symm.trans hfn)).symm
      exact ⟨by kernel_rfl, fun j t ht => by
        rw [Tryz.params5] at ht
        have hm : t ∈ [26, 24] := by simpa using Array.mem_of_getElem? ht
        have hall : ([26, 24].all fun u => !Tryz.prog.wantsStandIn u) = true := by kernel_rfl
        exact (show Tryz.prog.wantsStandIn t = false by simpa using List.all_eq_true.1 hall t hm)⟩)
    (by kernel_rfl)


end fnExactChartText
end Go.Proofs.YtpcgbfogkcbddaaGreatDoor
