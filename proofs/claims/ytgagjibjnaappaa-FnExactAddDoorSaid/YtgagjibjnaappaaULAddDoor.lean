/- Proved: for every system, every list of lists and every list of numbers, laws.FnExactAddDoor returns true and changes nothing that was there; no condition. -/
import Derived.Test.YtgagjibjnaappaaRows
import Derived.Deep.RegionHeld3
import Derived.Test.YtgagjibjnaappaaUPkL
import Derived.Test.YtgagjibjnaappaaUAddSpec
import Derived.Test.YtgagjibjnaappaaUAddImpl
namespace Go.Proofs.Ytgagjibjnaappaa
open Go.ChangeShapes Go.WideShapes Go.ChangeAt Go.RowKit
set_option linter.unusedVariables false
namespace fnExactAddDoor

theorem addDoor_size (mk : MK) (t cuts : List (List Int)) (col : List Int) : (offs (addDoor mk t cuts col).1.2 (addDoor mk t cuts col).1.2.length : Int) ≤ 1048576 := by
  unfold addDoor
  split
  · exact offs_nil
  · split
    · exact offs_nil
    · split
      · exact offs_nil
      · split
        · exact offs_nil
        · next h1 h2 h3 h4 =>
          have ok := designCode_zero (by omega : designCode mk t cuts = 0)
          have hl := ok.len
          have hdo := ok.doors
          unfold addCol
          refine offs_small 13 (fun r hr => ?_) (by simp only [mapI_len]; omega) (by omega)
          obtain ⟨j, hj, rfl⟩ := List.mem_map.1 hr
          have := ok.row j (List.mem_range.1 hj)
          unfold addRow
          rw [List.length_append, List.length_singleton]
          omega
set_option maxRecDepth 20000 in
set_option maxHeartbeats 2000000 in
theorem walk (w : World) (MX : MK) (vX : Value) (X : List (List Int)) (hX : RowsR (.old w) w vX X) (vcuts : Value) (cuts : List (List Int)) (hcuts : RowsR (.old w) w vcuts cuts) (vcol : Value) (col : List Int) (hcol : IntsR (.old w) w vcol col) :
    Calls Try.prog 6 #[.agg #[.int .i64 MX.c, .int .i64 MX.d, .int .i64 MX.s, .int .i64 MX.m, .int .i64 MX.l, vX], vcuts, vcol] w (Ret w fun r _ => r = .bool true) := by
  obtain ⟨aX, nX, cX, rfl, shX, -⟩ := SliceR.shape hX
  clear shX
  obtain ⟨acuts, ncuts, ccuts, rfl, shcuts, -⟩ := SliceR.shape hcuts
  clear shcuts
  obtain ⟨acol, ncol, ccol, rfl, shcol, -⟩ := SliceR.shape hcol
  have Hncol := Lib.hid shcol; clear shcol
  rcases Nat.lt_or_ge 1048576 ncol with hlcol | hlcol
  · go_enter Try.func6, Try.ntmps6
    go_wp2_with fail
    go_ret
    exact ⟨_, rfl, rfl, (Below.refl _ _).alloc (Nat.le_refl _) _⟩
  have hlcol : col.length ≤ 1048576 := by rw [← Hncol.out]; exact hlcol
  have cS : ∀ (wq : World) (yX : Value) (zX : Zone) (ycuts : Value) (zcuts : Zone) (ycol : Value) (zcol : Zone) (gX : RowsR zX wq yX X) (gcuts : RowsR zcuts wq ycuts cuts) (gcol : IntsR zcol wq ycol col), Calls Try.prog 31 #[.agg #[.int .i64 MX.c, .int .i64 MX.d, .int .i64 MX.s, .int .i64 MX.m, .int .i64 MX.l, yX], ycuts, ycol] wq (Ret wq fun r w' => ∃ u0, r = .tuple #[.agg #[.int .i64 ((addDoor MX X cuts col).1).1.c, .int .i64 ((addDoor MX X cuts col).1).1.d, .int .i64 ((addDoor MX X cuts col).1).1.s, .int .i64 ((addDoor MX X cuts col).1).1.m, .int .i64 ((addDoor MX X cuts col).1).1.l, u0], .int .i64 (addDoor MX X cuts col).2] ∧ RowsR (.new wq w') w' u0 ((addDoor MX X cuts col).1).2) := fun wq yX zX ycuts zcuts ycol zcol gX gcuts gcol => (fun w M v z x h u y cuts h2 v3 z3 col h3 => AddDoorSpec_c w M v z x h u y cuts h2 v3 z3 col h3) wq MX yX zX X gX ycuts zcuts cuts gcuts ycol zcol col gcol
  have cI : ∀ (wq : World) (yX : Value) (zX : Zone) (ycuts : Value) (zcuts : Zone) (ycol : Value) (zcol : Zone) (gX : RowsR zX wq yX X) (gcuts : RowsR zcuts wq ycuts cuts) (gcol : IntsR zcol wq ycol col), Calls Try.prog 32 #[.agg #[.int .i64 MX.c, .int .i64 MX.d, .int .i64 MX.s, .int .i64 MX.m, .int .i64 MX.l, yX], ycuts, ycol] wq (Ret wq fun r w' => ∃ u0, r = .tuple #[.agg #[.int .i64 ((addDoor MX X cuts col).1).1.c, .int .i64 ((addDoor MX X cuts col).1).1.d, .int .i64 ((addDoor MX X cuts col).1).1.s, .int .i64 ((addDoor MX X cuts col).1).1.m, .int .i64 ((addDoor MX X cuts col).1).1.l, u0], .int .i64 (addDoor MX X cuts col).2] ∧ RowsR (.new wq w') w' u0 ((addDoor MX X cuts col).1).2) := fun wq yX zX ycuts zcuts ycol zcol gX gcuts gcol => (fun w M v z x h u y cuts h2 v3 z3 col h3 => AddDoor_c w M v z x h u y cuts h2 v3 z3 col h3) wq MX yX zX X gX ycuts zcuts cuts gcuts ycol zcol col gcol
  have LR0 : (offs (((addDoor MX X cuts col).1).2) (((addDoor MX X cuts col).1).2).length : Int) ≤ 1048576 := addDoor_size _ _ _ _
  generalize ((addDoor MX X cuts col).1).1 = MR0 at cS cI LR0
  generalize ((addDoor MX X cuts col).1).2 = res0 at cS cI LR0
  generalize (addDoor MX X cuts col).2 = res1 at cS cI LR0
  have CS := Lib.hid cS; have CI := Lib.hid cI; clear cS cI
  go_enter Try.func6, Try.ntmps6
  go_wp2_with fail
  generalize hwb1 : World.alloc _ _ = w1
  have b1 : Below w.heap.size w w1 := by rw [← hwb1]; exact (Below.refl _ _).alloc (Nat.le_refl _) _
  have s1 : w.heap.size < w1.heap.size := by rw [← hwb1]; simp
  have q0X : w1.cell? ⟨w.heap.size, 0, none⟩ = some (.int .i64 MX.c) := by rw [← hwb1]; clear hwb1; go_simp
  have q1X : w1.cell? ⟨w.heap.size, 1, none⟩ = some (.int .i64 MX.d) := by rw [← hwb1]; clear hwb1; go_simp
  have q2X : w1.cell? ⟨w.heap.size, 2, none⟩ = some (.int .i64 MX.s) := by rw [← hwb1]; clear hwb1; go_simp
  have q3X : w1.cell? ⟨w.heap.size, 3, none⟩ = some (.int .i64 MX.m) := by rw [← hwb1]; clear hwb1; go_simp
  have q4X : w1.cell? ⟨w.heap.size, 4, none⟩ = some (.int .i64 MX.l) := by rw [← hwb1]; clear hwb1; go_simp
  have q5X : w1.cell? ⟨w.heap.size, 5, none⟩ = some (.slice aX nX cX) := by rw [← hwb1]; clear hwb1; go_simp
  clear hwb1
  have B1 : Below w.heap.size w w1 := b1
  have szX := szSystemA_c w1 MX _ _ X 1048576 (stable_rows.below hX B1) (by omega) (by omega)
  rcases Nat.lt_or_ge (1048576 : Int).toNat (bulk X) with hbX | hbX
  · rw [szLeft_neg (by omega)] at szX
    refine Calls.mono szX ?_
    rintro e wx ⟨r, rfl, rfl, bx⟩
    go_wp2_with fail
    go_ret
    exact ⟨_, rfl, rfl, B1.trans (bx.mono B1.size)⟩
  rw [szLeft_pos (by omega)] at szX
  have lbX : bulk X ≤ 1048576 := by omega
  have lgX : (0 : Int) ≤ 1048576 - (bulk X : Int) := by omega
  have lhX : 1048576 - (bulk X : Int) ≤ 1048576 := by omega
  generalize (1048576 : Int) - (bulk X : Int) = lX at *
  refine Calls.mono szX ?_
  rintro e w2 ⟨r, rfl, rfl, hd2⟩
  clear szX
  have b2 : Below w1.heap.size w1 w2 := hd2
  have B2 : Below w.heap.size w w2 := B1.trans (b2.mono B1.size)
  have s2 : w1.heap.size ≤ w2.heap.size := b2.size
  replace q0X := (b2.cell (p := ⟨w.heap.size, 0, none⟩) (by show w.heap.size < w1.heap.size; omega)).trans q0X
  replace q1X := (b2.cell (p := ⟨w.heap.size, 1, none⟩) (by show w.heap.size < w1.heap.size; omega)).trans q1X
  replace q2X := (b2.cell (p := ⟨w.heap.size, 2, none⟩) (by show w.heap.size < w1.heap.size; omega)).trans q2X
  replace q3X := (b2.cell (p := ⟨w.heap.size, 3, none⟩) (by show w.heap.size < w1.heap.size; omega)).trans q3X
  replace q4X := (b2.cell (p := ⟨w.heap.size, 4, none⟩) (by show w.heap.size < w1.heap.size; omega)).trans q4X
  replace q5X := (b2.cell (p := ⟨w.heap.size, 5, none⟩) (by show w.heap.size < w1.heap.size; omega)).trans q5X
  have szcuts := szInt64SS_c w2 _ _ cuts lX (stable_rows.below hcuts B2) (by omega) (by omega)
  go_wp2_with fail
  rcases Nat.lt_or_ge (lX : Int).toNat (bulk cuts) with hbcuts | hbcuts
  · rw [szLeft_neg (by omega)] at szcuts
    refine Calls.mono szcuts ?_
    rintro e wx ⟨rfl, hdx⟩
    go_wp2_with fail
    go_ret
    exact ⟨_, rfl, rfl, B2.trans (hdx.below _)⟩
  rw [szLeft_pos (by omega)] at szcuts
  have lbcuts : bulk cuts ≤ 1048576 := by omega
  have lgcuts : (0 : Int) ≤ lX - (bulk cuts : Int) := by omega
  have lhcuts : lX - (bulk cuts : Int) ≤ 1048576 := by omega
  generalize (lX : Int) - (bulk cuts : Int) = lcuts at *
  refine Calls.mono szcuts ?_
  rintro e w3 ⟨rfl, hd3⟩
  clear szcuts
  have b3 : Below w2.heap.size w2 w3 := hd3.below _
  have B3 : Below w.heap.size w w3 := B2.trans (b3.mono B2.size)
  have s3 : w2.heap.size ≤ w3.heap.size := b3.size
  replace q0X := (b3.cell (p := ⟨w.heap.size, 0, none⟩) (by show w.heap.size < w2.heap.size; omega)).trans q0X
  replace q1X := (b3.cell (p := ⟨w.heap.size, 1, none⟩) (by show w.heap.size < w2.heap.size; omega)).trans q1X
  replace q2X := (b3.cell (p := ⟨w.heap.size, 2, none⟩) (by show w.heap.size < w2.heap.size; omega)).trans q2X
  replace q3X := (b3.cell (p := ⟨w.heap.size, 3, none⟩) (by show w.heap.size < w2.heap.size; omega)).trans q3X
  replace q4X := (b3.cell (p := ⟨w.heap.size, 4, none⟩) (by show w.heap.size < w2.heap.size; omega)).trans q4X
  replace q5X := (b3.cell (p := ⟨w.heap.size, 5, none⟩) (by show w.heap.size < w2.heap.size; omega)).trans q5X
  go_wp2_with fail
  refine Calls.mono (toSystemA_c w3 MX _ _ X (stable_rows.below hX B3) lbX) ?_
  rintro e w4 ⟨rvsX, rfl, ⟨usX, rfl, rsX⟩, bb4⟩
  have b4 : Below w3.heap.size w3 w4 := bb4
  have B4 : Below w.heap.size w w4 := B3.trans (b4.mono B3.size)
  have s4 : w3.heap.size ≤ w4.heap.size := b4.size
  replace q0X := (b4.cell (p := ⟨w.heap.size, 0, none⟩) (by show w.heap.size < w3.heap.size; omega)).trans q0X
  replace q1X := (b4.cell (p := ⟨w.heap.size, 1, none⟩) (by show w.heap.size < w3.heap.size; omega)).trans q1X
  replace q2X := (b4.cell (p := ⟨w.heap.size, 2, none⟩) (by show w.heap.size < w3.heap.size; omega)).trans q2X
  replace q3X := (b4.cell (p := ⟨w.heap.size, 3, none⟩) (by show w.heap.size < w3.heap.size; omega)).trans q3X
  replace q4X := (b4.cell (p := ⟨w.heap.size, 4, none⟩) (by show w.heap.size < w3.heap.size; omega)).trans q4X
  replace q5X := (b4.cell (p := ⟨w.heap.size, 5, none⟩) (by show w.heap.size < w3.heap.size; omega)).trans q5X
  obtain ⟨asX, nsX, ksX, rfl, -⟩ := SliceR.shape rsX
  go_wp2_with fail
  refine Calls.mono (toInt64SS_c w4 _ _ cuts (stable_rows.below hcuts B4) lbcuts) ?_
  rintro e w5 ⟨uscuts, rfl, rscuts, bb5⟩
  have b5 : Below w4.heap.size w4 w5 := bb5
  have B5 : Below w.heap.size w w5 := B4.trans (b5.mono B4.size)
  have s5 : w4.heap.size ≤ w5.heap.size := b5.size
  replace rsX := stable_rows.below rsX b5
  replace q0X := (b5.cell (p := ⟨w.heap.size, 0, none⟩) (by show w.heap.size < w4.heap.size; omega)).trans q0X
  replace q1X := (b5.cell (p := ⟨w.heap.size, 1, none⟩) (by show w.heap.size < w4.heap.size; omega)).trans q1X
  replace q2X := (b5.cell (p := ⟨w.heap.size, 2, none⟩) (by show w.heap.size < w4.heap.size; omega)).trans q2X
  replace q3X := (b5.cell (p := ⟨w.heap.size, 3, none⟩) (by show w.heap.size < w4.heap.size; omega)).trans q3X
  replace q4X := (b5.cell (p := ⟨w.heap.size, 4, none⟩) (by show w.heap.size < w4.heap.size; omega)).trans q4X
  replace q5X := (b5.cell (p := ⟨w.heap.size, 5, none⟩) (by show w.heap.size < w4.heap.size; omega)).trans q5X
  go_wp2_with fail
  refine Calls.mono (toInt64S_c w5 _ _ col (stable_ints.below hcol B5) hlcol) ?_
  rintro e w6 ⟨uscol, rfl, rscol, bb6⟩
  have b6 : Below w5.heap.size w5 w6 := bb6
  have B6 : Below w.heap.size w w6 := B5.trans (b6.mono B5.size)
  have s6 : w5.heap.size ≤ w6.heap.size := b6.size
  replace rsX := stable_rows.below rsX b6
  replace rscuts := stable_rows.below rscuts b6
  replace q0X := (b6.cell (p := ⟨w.heap.size, 0, none⟩) (by show w.heap.size < w5.heap.size; omega)).trans q0X
  replace q1X := (b6.cell (p := ⟨w.heap.size, 1, none⟩) (by show w.heap.size < w5.heap.size; omega)).trans q1X
  replace q2X := (b6.cell (p := ⟨w.heap.size, 2, none⟩) (by show w.heap.size < w5.heap.size; omega)).trans q2X
  replace q3X := (b6.cell (p := ⟨w.heap.size, 3, none⟩) (by show w.heap.size < w5.heap.size; omega)).trans q3X
  replace q4X := (b6.cell (p := ⟨w.heap.size, 4, none⟩) (by show w.heap.size < w5.heap.size; omega)).trans q4X
  replace q5X := (b6.cell (p := ⟨w.heap.size, 5, none⟩) (by show w.heap.size < w5.heap.size; omega)).trans q5X
  go_wp2_with fail
  refine Calls.mono (CS.out w6 _ _ _ _ _ _ rsX rscuts rscol) ?_
  rintro e w7 ⟨rr7, rfl, ⟨S0, rfl, rS0⟩, bb7⟩
  have b7 : Below w6.heap.size w6 w7 := bb7
  have B7 : Below w.heap.size w w7 := B6.trans (b7.mono B6.size)
  have s7 : w6.heap.size ≤ w7.heap.size := b7.size
  replace rsX := stable_rows.below rsX b7
  replace rscuts := stable_rows.below rscuts b7
  replace rscol := stable_ints.below rscol b7
  replace q0X := (b7.cell (p := ⟨w.heap.size, 0, none⟩) (by show w.heap.size < w6.heap.size; omega)).trans q0X
  replace q1X := (b7.cell (p := ⟨w.heap.size, 1, none⟩) (by show w.heap.size < w6.heap.size; omega)).trans q1X
  replace q2X := (b7.cell (p := ⟨w.heap.size, 2, none⟩) (by show w.heap.size < w6.heap.size; omega)).trans q2X
  replace q3X := (b7.cell (p := ⟨w.heap.size, 3, none⟩) (by show w.heap.size < w6.heap.size; omega)).trans q3X
  replace q4X := (b7.cell (p := ⟨w.heap.size, 4, none⟩) (by show w.heap.size < w6.heap.size; omega)).trans q4X
  replace q5X := (b7.cell (p := ⟨w.heap.size, 5, none⟩) (by show w.heap.size < w6.heap.size; omega)).trans q5X
  obtain ⟨aS0, nS0, kS0, rfl, -⟩ := SliceR.shape rS0
  have zl0 : w.heap.size < w7.heap.size := by omega
  have zm0 := Nat.ne_of_lt zl0; have zn0 := Nat.ne_of_gt zl0
  go_wp2_with fail
  clear zl0 zm0 zn0
  generalize hwb8 : World.alloc _ _ = w8
  have b8 : Below w7.heap.size w7 w8 := by rw [← hwb8]; exact (Below.refl _ _).alloc (Nat.le_refl _) _
  have s8 : w7.heap.size < w8.heap.size := by rw [← hwb8]; simp
  have S0R0 : w8.cell? ⟨w7.heap.size, 0, none⟩ = some (.int .i64 MR0.c) := by rw [← hwb8]; clear hwb8; go_simp
  have S1R0 : w8.cell? ⟨w7.heap.size, 1, none⟩ = some (.int .i64 MR0.d) := by rw [← hwb8]; clear hwb8; go_simp
  have S2R0 : w8.cell? ⟨w7.heap.size, 2, none⟩ = some (.int .i64 MR0.s) := by rw [← hwb8]; clear hwb8; go_simp
  have S3R0 : w8.cell? ⟨w7.heap.size, 3, none⟩ = some (.int .i64 MR0.m) := by rw [← hwb8]; clear hwb8; go_simp
  have S4R0 : w8.cell? ⟨w7.heap.size, 4, none⟩ = some (.int .i64 MR0.l) := by rw [← hwb8]; clear hwb8; go_simp
  have S5R0 : w8.cell? ⟨w7.heap.size, 5, none⟩ = some (.slice aS0 nS0 kS0) := by rw [← hwb8]; clear hwb8; go_simp
  clear hwb8
  have B8 : Below w.heap.size w w8 := B7.trans (b8.mono B7.size)
  replace rsX := stable_rows.below rsX b8
  replace rscuts := stable_rows.below rscuts b8
  replace rscol := stable_ints.below rscol b8
  replace rS0 := stable_rows.below rS0 b8
  replace q0X := (b8.cell (p := ⟨w.heap.size, 0, none⟩) (by show w.heap.size < w7.heap.size; omega)).trans q0X
  replace q1X := (b8.cell (p := ⟨w.heap.size, 1, none⟩) (by show w.heap.size < w7.heap.size; omega)).trans q1X
  replace q2X := (b8.cell (p := ⟨w.heap.size, 2, none⟩) (by show w.heap.size < w7.heap.size; omega)).trans q2X
  replace q3X := (b8.cell (p := ⟨w.heap.size, 3, none⟩) (by show w.heap.size < w7.heap.size; omega)).trans q3X
  replace q4X := (b8.cell (p := ⟨w.heap.size, 4, none⟩) (by show w.heap.size < w7.heap.size; omega)).trans q4X
  replace q5X := (b8.cell (p := ⟨w.heap.size, 5, none⟩) (by show w.heap.size < w7.heap.size; omega)).trans q5X
  clear rsX
  clear rscuts
  clear rscol
  refine Calls.mono (toSystemA_c w8 MX _ _ X (stable_rows.below hX B8) lbX) ?_
  rintro e w9 ⟨rvxX, rfl, ⟨uxX, rfl, rxX⟩, bb9⟩
  have b9 : Below w8.heap.size w8 w9 := bb9
  have B9 : Below w.heap.size w w9 := B8.trans (b9.mono B8.size)
  have s9 : w8.heap.size ≤ w9.heap.size := b9.size
  replace rS0 := stable_rows.below rS0 b9
  replace q0X := (b9.cell (p := ⟨w.heap.size, 0, none⟩) (by show w.heap.size < w8.heap.size; omega)).trans q0X
  replace q1X := (b9.cell (p := ⟨w.heap.size, 1, none⟩) (by show w.heap.size < w8.heap.size; omega)).trans q1X
  replace q2X := (b9.cell (p := ⟨w.heap.size, 2, none⟩) (by show w.heap.size < w8.heap.size; omega)).trans q2X
  replace q3X := (b9.cell (p := ⟨w.heap.size, 3, none⟩) (by show w.heap.size < w8.heap.size; omega)).trans q3X
  replace q4X := (b9.cell (p := ⟨w.heap.size, 4, none⟩) (by show w.heap.size < w8.heap.size; omega)).trans q4X
  replace q5X := (b9.cell (p := ⟨w.heap.size, 5, none⟩) (by show w.heap.size < w8.heap.size; omega)).trans q5X
  replace S0R0 := (b9.cell (p := ⟨w7.heap.size, 0, none⟩) (by show w7.heap.size < w8.heap.size; omega)).trans S0R0
  replace S1R0 := (b9.cell (p := ⟨w7.heap.size, 1, none⟩) (by show w7.heap.size < w8.heap.size; omega)).trans S1R0
  replace S2R0 := (b9.cell (p := ⟨w7.heap.size, 2, none⟩) (by show w7.heap.size < w8.heap.size; omega)).trans S2R0
  replace S3R0 := (b9.cell (p := ⟨w7.heap.size, 3, none⟩) (by show w7.heap.size < w8.heap.size; omega)).trans S3R0
  replace S4R0 := (b9.cell (p := ⟨w7.heap.size, 4, none⟩) (by show w7.heap.size < w8.heap.size; omega)).trans S4R0
  replace S5R0 := (b9.cell (p := ⟨w7.heap.size, 5, none⟩) (by show w7.heap.size < w8.heap.size; omega)).trans S5R0
  obtain ⟨axX, nxX, kxX, rfl, -⟩ := SliceR.shape rxX
  go_wp2_with fail
  generalize hwb10 : World.alloc _ _ = w10
  have b10 : Below w9.heap.size w9 w10 := by rw [← hwb10]; exact (Below.refl _ _).alloc (Nat.le_refl _) _
  have s10 : w9.heap.size < w10.heap.size := by rw [← hwb10]; simp
  have p0X : w10.cell? ⟨w9.heap.size, 0, none⟩ = some (.int .i64 MX.c) := by rw [← hwb10]; clear hwb10; go_simp
  have p1X : w10.cell? ⟨w9.heap.size, 1, none⟩ = some (.int .i64 MX.d) := by rw [← hwb10]; clear hwb10; go_simp
  have p2X : w10.cell? ⟨w9.heap.size, 2, none⟩ = some (.int .i64 MX.s) := by rw [← hwb10]; clear hwb10; go_simp
  have p3X : w10.cell? ⟨w9.heap.size, 3, none⟩ = some (.int .i64 MX.m) := by rw [← hwb10]; clear hwb10; go_simp
  have p4X : w10.cell? ⟨w9.heap.size, 4, none⟩ = some (.int .i64 MX.l) := by rw [← hwb10]; clear hwb10; go_simp
  have p5X : w10.cell? ⟨w9.heap.size, 5, none⟩ = some (.slice axX nxX kxX) := by rw [← hwb10]; clear hwb10; go_simp
  clear hwb10
  have B10 : Below w.heap.size w w10 := B9.trans (b10.mono B9.size)
  replace rS0 := stable_rows.below rS0 b10
  replace rxX := stable_rows.below rxX b10
  replace q0X := (b10.cell (p := ⟨w.heap.size, 0, none⟩) (by show w.heap.size < w9.heap.size; omega)).trans q0X
  replace q1X := (b10.cell (p := ⟨w.heap.size, 1, none⟩) (by show w.heap.size < w9.heap.size; omega)).trans q1X
  replace q2X := (b10.cell (p := ⟨w.heap.size, 2, none⟩) (by show w.heap.size < w9.heap.size; omega)).trans q2X
  replace q3X := (b10.cell (p := ⟨w.heap.size, 3, none⟩) (by show w.heap.size < w9.heap.size; omega)).trans q3X
  replace q4X := (b10.cell (p := ⟨w.heap.size, 4, none⟩) (by show w.heap.size < w9.heap.size; omega)).trans q4X
  replace q5X := (b10.cell (p := ⟨w.heap.size, 5, none⟩) (by show w.heap.size < w9.heap.size; omega)).trans q5X
  replace S0R0 := (b10.cell (p := ⟨w7.heap.size, 0, none⟩) (by show w7.heap.size < w9.heap.size; omega)).trans S0R0
  replace S1R0 := (b10.cell (p := ⟨w7.heap.size, 1, none⟩) (by show w7.heap.size < w9.heap.size; omega)).trans S1R0
  replace S2R0 := (b10.cell (p := ⟨w7.heap.size, 2, none⟩) (by show w7.heap.size < w9.heap.size; omega)).trans S2R0
  replace S3R0 := (b10.cell (p := ⟨w7.heap.size, 3, none⟩) (by show w7.heap.size < w9.heap.size; omega)).trans S3R0
  replace S4R0 := (b10.cell (p := ⟨w7.heap.size, 4, none⟩) (by show w7.heap.size < w9.heap.size; omega)).trans S4R0
  replace S5R0 := (b10.cell (p := ⟨w7.heap.size, 5, none⟩) (by show w7.heap.size < w9.heap.size; omega)).trans S5R0
  refine Calls.mono (toInt64SS_c w10 _ _ cuts (stable_rows.below hcuts B10) lbcuts) ?_
  rintro e w11 ⟨uxcuts, rfl, rxcuts, bb11⟩
  have b11 : Below w10.heap.size w10 w11 := bb11
  have B11 : Below w.heap.size w w11 := B10.trans (b11.mono B10.size)
  have s11 : w10.heap.size ≤ w11.heap.size := b11.size
  replace rS0 := stable_rows.below rS0 b11
  replace rxX := stable_rows.below rxX b11
  replace q0X := (b11.cell (p := ⟨w.heap.size, 0, none⟩) (by show w.heap.size < w10.heap.size; omega)).trans q0X
  replace q1X := (b11.cell (p := ⟨w.heap.size, 1, none⟩) (by show w.heap.size < w10.heap.size; omega)).trans q1X
  replace q2X := (b11.cell (p := ⟨w.heap.size, 2, none⟩) (by show w.heap.size < w10.heap.size; omega)).trans q2X
  replace q3X := (b11.cell (p := ⟨w.heap.size, 3, none⟩) (by show w.heap.size < w10.heap.size; omega)).trans q3X
  replace q4X := (b11.cell (p := ⟨w.heap.size, 4, none⟩) (by show w.heap.size < w10.heap.size; omega)).trans q4X
  replace q5X := (b11.cell (p := ⟨w.heap.size, 5, none⟩) (by show w.heap.size < w10.heap.size; omega)).trans q5X
  replace S0R0 := (b11.cell (p := ⟨w7.heap.size, 0, none⟩) (by show w7.heap.size < w10.heap.size; omega)).trans S0R0
  replace S1R0 := (b11.cell (p := ⟨w7.heap.size, 1, none⟩) (by show w7.heap.size < w10.heap.size; omega)).trans S1R0
  replace S2R0 := (b11.cell (p := ⟨w7.heap.size, 2, none⟩) (by show w7.heap.size < w10.heap.size; omega)).trans S2R0
  replace S3R0 := (b11.cell (p := ⟨w7.heap.size, 3, none⟩) (by show w7.heap.size < w10.heap.size; omega)).trans S3R0
  replace S4R0 := (b11.cell (p := ⟨w7.heap.size, 4, none⟩) (by show w7.heap.size < w10.heap.size; omega)).trans S4R0
  replace S5R0 := (b11.cell (p := ⟨w7.heap.size, 5, none⟩) (by show w7.heap.size < w10.heap.size; omega)).trans S5R0
  replace p0X := (b11.cell (p := ⟨w9.heap.size, 0, none⟩) (by show w9.heap.size < w10.heap.size; omega)).trans p0X
  replace p1X := (b11.cell (p := ⟨w9.heap.size, 1, none⟩) (by show w9.heap.size < w10.heap.size; omega)).trans p1X
  replace p2X := (b11.cell (p := ⟨w9.heap.size, 2, none⟩) (by show w9.heap.size < w10.heap.size; omega)).trans p2X
  replace p3X := (b11.cell (p := ⟨w9.heap.size, 3, none⟩) (by show w9.heap.size < w10.heap.size; omega)).trans p3X
  replace p4X := (b11.cell (p := ⟨w9.heap.size, 4, none⟩) (by show w9.heap.size < w10.heap.size; omega)).trans p4X
  replace p5X := (b11.cell (p := ⟨w9.heap.size, 5, none⟩) (by show w9.heap.size < w10.heap.size; omega)).trans p5X
  go_wp2_with fail
  refine Calls.mono (toInt64S_c w11 _ _ col (stable_ints.below hcol B11) hlcol) ?_
  rintro e w12 ⟨uxcol, rfl, rxcol, bb12⟩
  have b12 : Below w11.heap.size w11 w12 := bb12
  have B12 : Below w.heap.size w w12 := B11.trans (b12.mono B11.size)
  have s12 : w11.heap.size ≤ w12.heap.size := b12.size
  replace rS0 := stable_rows.below rS0 b12
  replace rxX := stable_rows.below rxX b12
  replace rxcuts := stable_rows.below rxcuts b12
  replace q0X := (b12.cell (p := ⟨w.heap.size, 0, none⟩) (by show w.heap.size < w11.heap.size; omega)).trans q0X
  replace q1X := (b12.cell (p := ⟨w.heap.size, 1, none⟩) (by show w.heap.size < w11.heap.size; omega)).trans q1X
  replace q2X := (b12.cell (p := ⟨w.heap.size, 2, none⟩) (by show w.heap.size < w11.heap.size; omega)).trans q2X
  replace q3X := (b12.cell (p := ⟨w.heap.size, 3, none⟩) (by show w.heap.size < w11.heap.size; omega)).trans q3X
  replace q4X := (b12.cell (p := ⟨w.heap.size, 4, none⟩) (by show w.heap.size < w11.heap.size; omega)).trans q4X
  replace q5X := (b12.cell (p := ⟨w.heap.size, 5, none⟩) (by show w.heap.size < w11.heap.size; omega)).trans q5X
  replace S0R0 := (b12.cell (p := ⟨w7.heap.size, 0, none⟩) (by show w7.heap.size < w11.heap.size; omega)).trans S0R0
  replace S1R0 := (b12.cell (p := ⟨w7.heap.size, 1, none⟩) (by show w7.heap.size < w11.heap.size; omega)).trans S1R0
  replace S2R0 := (b12.cell (p := ⟨w7.heap.size, 2, none⟩) (by show w7.heap.size < w11.heap.size; omega)).trans S2R0
  replace S3R0 := (b12.cell (p := ⟨w7.heap.size, 3, none⟩) (by show w7.heap.size < w11.heap.size; omega)).trans S3R0
  replace S4R0 := (b12.cell (p := ⟨w7.heap.size, 4, none⟩) (by show w7.heap.size < w11.heap.size; omega)).trans S4R0
  replace S5R0 := (b12.cell (p := ⟨w7.heap.size, 5, none⟩) (by show w7.heap.size < w11.heap.size; omega)).trans S5R0
  replace p0X := (b12.cell (p := ⟨w9.heap.size, 0, none⟩) (by show w9.heap.size < w11.heap.size; omega)).trans p0X
  replace p1X := (b12.cell (p := ⟨w9.heap.size, 1, none⟩) (by show w9.heap.size < w11.heap.size; omega)).trans p1X
  replace p2X := (b12.cell (p := ⟨w9.heap.size, 2, none⟩) (by show w9.heap.size < w11.heap.size; omega)).trans p2X
  replace p3X := (b12.cell (p := ⟨w9.heap.size, 3, none⟩) (by show w9.heap.size < w11.heap.size; omega)).trans p3X
  replace p4X := (b12.cell (p := ⟨w9.heap.size, 4, none⟩) (by show w9.heap.size < w11.heap.size; omega)).trans p4X
  replace p5X := (b12.cell (p := ⟨w9.heap.size, 5, none⟩) (by show w9.heap.size < w11.heap.size; omega)).trans p5X
  go_wp2_with fail
  refine Calls.mono (CI.out w12 _ _ _ _ _ _ rxX rxcuts rxcol) ?_
  rintro e w13 ⟨rr13, rfl, ⟨G0, rfl, rG0⟩, bb13⟩
  have b13 : Below w12.heap.size w12 w13 := bb13
  have B13 : Below w.heap.size w w13 := B12.trans (b13.mono B12.size)
  have s13 : w12.heap.size ≤ w13.heap.size := b13.size
  replace rS0 := stable_rows.below rS0 b13
  replace rxX := stable_rows.below rxX b13
  replace rxcuts := stable_rows.below rxcuts b13
  replace rxcol := stable_ints.below rxcol b13
  replace q0X := (b13.cell (p := ⟨w.heap.size, 0, none⟩) (by show w.heap.size < w12.heap.size; omega)).trans q0X
  replace q1X := (b13.cell (p := ⟨w.heap.size, 1, none⟩) (by show w.heap.size < w12.heap.size; omega)).trans q1X
  replace q2X := (b13.cell (p := ⟨w.heap.size, 2, none⟩) (by show w.heap.size < w12.heap.size; omega)).trans q2X
  replace q3X := (b13.cell (p := ⟨w.heap.size, 3, none⟩) (by show w.heap.size < w12.heap.size; omega)).trans q3X
  replace q4X := (b13.cell (p := ⟨w.heap.size, 4, none⟩) (by show w.heap.size < w12.heap.size; omega)).trans q4X
  replace q5X := (b13.cell (p := ⟨w.heap.size, 5, none⟩) (by show w.heap.size < w12.heap.size; omega)).trans q5X
  replace S0R0 := (b13.cell (p := ⟨w7.heap.size, 0, none⟩) (by show w7.heap.size < w12.heap.size; omega)).trans S0R0
  replace S1R0 := (b13.cell (p := ⟨w7.heap.size, 1, none⟩) (by show w7.heap.size < w12.heap.size; omega)).trans S1R0
  replace S2R0 := (b13.cell (p := ⟨w7.heap.size, 2, none⟩) (by show w7.heap.size < w12.heap.size; omega)).trans S2R0
  replace S3R0 := (b13.cell (p := ⟨w7.heap.size, 3, none⟩) (by show w7.heap.size < w12.heap.size; omega)).trans S3R0
  replace S4R0 := (b13.cell (p := ⟨w7.heap.size, 4, none⟩) (by show w7.heap.size < w12.heap.size; omega)).trans S4R0
  replace S5R0 := (b13.cell (p := ⟨w7.heap.size, 5, none⟩) (by show w7.heap.size < w12.heap.size; omega)).trans S5R0
  replace p0X := (b13.cell (p := ⟨w9.heap.size, 0, none⟩) (by show w9.heap.size < w12.heap.size; omega)).trans p0X
  replace p1X := (b13.cell (p := ⟨w9.heap.size, 1, none⟩) (by show w9.heap.size < w12.heap.size; omega)).trans p1X
  replace p2X := (b13.cell (p := ⟨w9.heap.size, 2, none⟩) (by show w9.heap.size < w12.heap.size; omega)).trans p2X
  replace p3X := (b13.cell (p := ⟨w9.heap.size, 3, none⟩) (by show w9.heap.size < w12.heap.size; omega)).trans p3X
  replace p4X := (b13.cell (p := ⟨w9.heap.size, 4, none⟩) (by show w9.heap.size < w12.heap.size; omega)).trans p4X
  replace p5X := (b13.cell (p := ⟨w9.heap.size, 5, none⟩) (by show w9.heap.size < w12.heap.size; omega)).trans p5X
  obtain ⟨aG0, nG0, kG0, rfl, -⟩ := SliceR.shape rG0
  have zl0 : w.heap.size < w13.heap.size := by omega
  have zm0 := Nat.ne_of_lt zl0; have zn0 := Nat.ne_of_gt zl0
  have zl1 : w7.heap.size < w13.heap.size := by omega
  have zm1 := Nat.ne_of_lt zl1; have zn1 := Nat.ne_of_gt zl1
  have zl2 : w9.heap.size < w13.heap.size := by omega
  have zm2 := Nat.ne_of_lt zl2; have zn2 := Nat.ne_of_gt zl2
  go_wp2_with fail
  clear zl0 zm0 zn0
  clear zl1 zm1 zn1
  clear zl2 zm2 zn2
  generalize hwb14 : World.alloc _ _ = w14
  have b14 : Below w13.heap.size w13 w14 := by rw [← hwb14]; exact (Below.refl _ _).alloc (Nat.le_refl _) _
  have s14 : w13.heap.size < w14.heap.size := by rw [← hwb14]; simp
  have G0R0 : w14.cell? ⟨w13.heap.size, 0, none⟩ = some (.int .i64 MR0.c) := by rw [← hwb14]; clear hwb14; go_simp
  have G1R0 : w14.cell? ⟨w13.heap.size, 1, none⟩ = some (.int .i64 MR0.d) := by rw [← hwb14]; clear hwb14; go_simp
  have G2R0 : w14.cell? ⟨w13.heap.size, 2, none⟩ = some (.int .i64 MR0.s) := by rw [← hwb14]; clear hwb14; go_simp
  have G3R0 : w14.cell? ⟨w13.heap.size, 3, none⟩ = some (.int .i64 MR0.m) := by rw [← hwb14]; clear hwb14; go_simp
  have G4R0 : w14.cell? ⟨w13.heap.size, 4, none⟩ = some (.int .i64 MR0.l) := by rw [← hwb14]; clear hwb14; go_simp
  have G5R0 : w14.cell? ⟨w13.heap.size, 5, none⟩ = some (.slice aG0 nG0 kG0) := by rw [← hwb14]; clear hwb14; go_simp
  clear hwb14
  have B14 : Below w.heap.size w w14 := B13.trans (b14.mono B13.size)
  replace rS0 := stable_rows.below rS0 b14
  replace rxX := stable_rows.below rxX b14
  replace rxcuts := stable_rows.below rxcuts b14
  replace rxcol := stable_ints.below rxcol b14
  replace rG0 := stable_rows.below rG0 b14
  replace q0X := (b14.cell (p := ⟨w.heap.size, 0, none⟩) (by show w.heap.size < w13.heap.size; omega)).trans q0X
  replace q1X := (b14.cell (p := ⟨w.heap.size, 1, none⟩) (by show w.heap.size < w13.heap.size; omega)).trans q1X
  replace q2X := (b14.cell (p := ⟨w.heap.size, 2, none⟩) (by show w.heap.size < w13.heap.size; omega)).trans q2X
  replace q3X := (b14.cell (p := ⟨w.heap.size, 3, none⟩) (by show w.heap.size < w13.heap.size; omega)).trans q3X
  replace q4X := (b14.cell (p := ⟨w.heap.size, 4, none⟩) (by show w.heap.size < w13.heap.size; omega)).trans q4X
  replace q5X := (b14.cell (p := ⟨w.heap.size, 5, none⟩) (by show w.heap.size < w13.heap.size; omega)).trans q5X
  replace S0R0 := (b14.cell (p := ⟨w7.heap.size, 0, none⟩) (by show w7.heap.size < w13.heap.size; omega)).trans S0R0
  replace S1R0 := (b14.cell (p := ⟨w7.heap.size, 1, none⟩) (by show w7.heap.size < w13.heap.size; omega)).trans S1R0
  replace S2R0 := (b14.cell (p := ⟨w7.heap.size, 2, none⟩) (by show w7.heap.size < w13.heap.size; omega)).trans S2R0
  replace S3R0 := (b14.cell (p := ⟨w7.heap.size, 3, none⟩) (by show w7.heap.size < w13.heap.size; omega)).trans S3R0
  replace S4R0 := (b14.cell (p := ⟨w7.heap.size, 4, none⟩) (by show w7.heap.size < w13.heap.size; omega)).trans S4R0
  replace S5R0 := (b14.cell (p := ⟨w7.heap.size, 5, none⟩) (by show w7.heap.size < w13.heap.size; omega)).trans S5R0
  replace p0X := (b14.cell (p := ⟨w9.heap.size, 0, none⟩) (by show w9.heap.size < w13.heap.size; omega)).trans p0X
  replace p1X := (b14.cell (p := ⟨w9.heap.size, 1, none⟩) (by show w9.heap.size < w13.heap.size; omega)).trans p1X
  replace p2X := (b14.cell (p := ⟨w9.heap.size, 2, none⟩) (by show w9.heap.size < w13.heap.size; omega)).trans p2X
  replace p3X := (b14.cell (p := ⟨w9.heap.size, 3, none⟩) (by show w9.heap.size < w13.heap.size; omega)).trans p3X
  replace p4X := (b14.cell (p := ⟨w9.heap.size, 4, none⟩) (by show w9.heap.size < w13.heap.size; omega)).trans p4X
  replace p5X := (b14.cell (p := ⟨w9.heap.size, 5, none⟩) (by show w9.heap.size < w13.heap.size; omega)).trans p5X
  refine Calls.mono (eqSystemA_c w14 _ _ _ _ _ res0 rG0 rS0) ?_
  rintro e w15 ⟨rv15, rfl, rfl, hd15⟩
  have b15 : Below w14.heap.size w14 w15 := hd15
  have B15 : Below w.heap.size w w15 := B14.trans (b15.mono B14.size)
  have s15 : w14.heap.size ≤ w15.heap.size := b15.size
  replace rS0 := stable_rows.below rS0 b15
  replace rxX := stable_rows.below rxX b15
  replace rxcuts := stable_rows.below rxcuts b15
  replace rxcol := stable_ints.below rxcol b15
  replace rG0 := stable_rows.below rG0 b15
  replace q0X := (b15.cell (p := ⟨w.heap.size, 0, none⟩) (by show w.heap.size < w14.heap.size; omega)).trans q0X
  replace q1X := (b15.cell (p := ⟨w.heap.size, 1, none⟩) (by show w.heap.size < w14.heap.size; omega)).trans q1X
  replace q2X := (b15.cell (p := ⟨w.heap.size, 2, none⟩) (by show w.heap.size < w14.heap.size; omega)).trans q2X
  replace q3X := (b15.cell (p := ⟨w.heap.size, 3, none⟩) (by show w.heap.size < w14.heap.size; omega)).trans q3X
  replace q4X := (b15.cell (p := ⟨w.heap.size, 4, none⟩) (by show w.heap.size < w14.heap.size; omega)).trans q4X
  replace q5X := (b15.cell (p := ⟨w.heap.size, 5, none⟩) (by show w.heap.size < w14.heap.size; omega)).trans q5X
  replace S0R0 := (b15.cell (p := ⟨w7.heap.size, 0, none⟩) (by show w7.heap.size < w14.heap.size; omega)).trans S0R0
  replace S1R0 := (b15.cell (p := ⟨w7.heap.size, 1, none⟩) (by show w7.heap.size < w14.heap.size; omega)).trans S1R0
  replace S2R0 := (b15.cell (p := ⟨w7.heap.size, 2, none⟩) (by show w7.heap.size < w14.heap.size; omega)).trans S2R0
  replace S3R0 := (b15.cell (p := ⟨w7.heap.size, 3, none⟩) (by show w7.heap.size < w14.heap.size; omega)).trans S3R0
  replace S4R0 := (b15.cell (p := ⟨w7.heap.size, 4, none⟩) (by show w7.heap.size < w14.heap.size; omega)).trans S4R0
  replace S5R0 := (b15.cell (p := ⟨w7.heap.size, 5, none⟩) (by show w7.heap.size < w14.heap.size; omega)).trans S5R0
  replace p0X := (b15.cell (p := ⟨w9.heap.size, 0, none⟩) (by show w9.heap.size < w14.heap.size; omega)).trans p0X
  replace p1X := (b15.cell (p := ⟨w9.heap.size, 1, none⟩) (by show w9.heap.size < w14.heap.size; omega)).trans p1X
  replace p2X := (b15.cell (p := ⟨w9.heap.size, 2, none⟩) (by show w9.heap.size < w14.heap.size; omega)).trans p2X
  replace p3X := (b15.cell (p := ⟨w9.heap.size, 3, none⟩) (by show w9.heap.size < w14.heap.size; omega)).trans p3X
  replace p4X := (b15.cell (p := ⟨w9.heap.size, 4, none⟩) (by show w9.heap.size < w14.heap.size; omega)).trans p4X
  replace p5X := (b15.cell (p := ⟨w9.heap.size, 5, none⟩) (by show w9.heap.size < w14.heap.size; omega)).trans p5X
  replace G0R0 := (b15.cell (p := ⟨w13.heap.size, 0, none⟩) (by show w13.heap.size < w14.heap.size; omega)).trans G0R0
  replace G1R0 := (b15.cell (p := ⟨w13.heap.size, 1, none⟩) (by show w13.heap.size < w14.heap.size; omega)).trans G1R0
  replace G2R0 := (b15.cell (p := ⟨w13.heap.size, 2, none⟩) (by show w13.heap.size < w14.heap.size; omega)).trans G2R0
  replace G3R0 := (b15.cell (p := ⟨w13.heap.size, 3, none⟩) (by show w13.heap.size < w14.heap.size; omega)).trans G3R0
  replace G4R0 := (b15.cell (p := ⟨w13.heap.size, 4, none⟩) (by show w13.heap.size < w14.heap.size; omega)).trans G4R0
  replace G5R0 := (b15.cell (p := ⟨w13.heap.size, 5, none⟩) (by show w13.heap.size < w14.heap.size; omega)).trans G5R0
  have HK17 : Hid (∀ w', Below w15.heap.size w15 w' → w'.cell? ⟨w.heap.size, 0, none⟩ = some (.int .i64 MX.c) ∧ w'.cell? ⟨w.heap.size, 1, none⟩ = some (.int .i64 MX.d) ∧ w'.cell? ⟨w.heap.size, 2, none⟩ = some (.int .i64 MX.s) ∧ w'.cell? ⟨w.heap.size, 3, none⟩ = some (.int .i64 MX.m) ∧ w'.cell? ⟨w.heap.size, 4, none⟩ = some (.int .i64 MX.l) ∧ w'.cell? ⟨w.heap.size, 5, none⟩ = some (.slice aX nX cX) ∧ w'.cell? ⟨w9.heap.size, 0, none⟩ = some (.int .i64 MX.c) ∧ w'.cell? ⟨w9.heap.size, 1, none⟩ = some (.int .i64 MX.d) ∧ w'.cell? ⟨w9.heap.size, 2, none⟩ = some (.int .i64 MX.s) ∧ w'.cell? ⟨w9.heap.size, 3, none⟩ = some (.int .i64 MX.m) ∧ w'.cell? ⟨w9.heap.size, 4, none⟩ = some (.int .i64 MX.l) ∧ w'.cell? ⟨w9.heap.size, 5, none⟩ = some (.slice axX nxX kxX)) := fun w' hb => ⟨(hb.cell (by show w.heap.size < w15.heap.size; omega)).trans q0X, (hb.cell (by show w.heap.size < w15.heap.size; omega)).trans q1X, (hb.cell (by show w.heap.size < w15.heap.size; omega)).trans q2X, (hb.cell (by show w.heap.size < w15.heap.size; omega)).trans q3X, (hb.cell (by show w.heap.size < w15.heap.size; omega)).trans q4X, (hb.cell (by show w.heap.size < w15.heap.size; omega)).trans q5X, (hb.cell (by show w9.heap.size < w15.heap.size; omega)).trans p0X, (hb.cell (by show w9.heap.size < w15.heap.size; omega)).trans p1X, (hb.cell (by show w9.heap.size < w15.heap.size; omega)).trans p2X, (hb.cell (by show w9.heap.size < w15.heap.size; omega)).trans p3X, (hb.cell (by show w9.heap.size < w15.heap.size; omega)).trans p4X, (hb.cell (by show w9.heap.size < w15.heap.size; omega)).trans p5X⟩
  have HF17 := Lib.hid (stable_rows.below hX B15)
  have HX17 := Lib.hid rxX
  go_wp2_with fail
  go_region_held3 (fun w' => w'.cell? ⟨w.heap.size, 0, none⟩ = some (.int .i64 MX.c) ∧ w'.cell? ⟨w.heap.size, 1, none⟩ = some (.int .i64 MX.d) ∧ w'.cell? ⟨w.heap.size, 2, none⟩ = some (.int .i64 MX.s) ∧ w'.cell? ⟨w.heap.size, 3, none⟩ = some (.int .i64 MX.m) ∧ w'.cell? ⟨w.heap.size, 4, none⟩ = some (.int .i64 MX.l) ∧ w'.cell? ⟨w.heap.size, 5, none⟩ = some (.slice aX nX cX) ∧ w'.cell? ⟨w9.heap.size, 0, none⟩ = some (.int .i64 MX.c) ∧ w'.cell? ⟨w9.heap.size, 1, none⟩ = some (.int .i64 MX.d) ∧ w'.cell? ⟨w9.heap.size, 2, none⟩ = some (.int .i64 MX.s) ∧ w'.cell? ⟨w9.heap.size, 3, none⟩ = some (.int .i64 MX.m) ∧ w'.cell? ⟨w9.heap.size, 4, none⟩ = some (.int .i64 MX.l) ∧ w'.cell? ⟨w9.heap.size, 5, none⟩ = some (.slice axX nxX kxX)) (first | exact HK17.out _ (Below.refl _ _).drew | exact HK17.out _ ((Below.refl _ _).drew.trans bA17) | exact HK17.out _ (((Below.refl _ _).drew.trans bA17).trans (bB17.mono bA17.size)))
    (first | (go_at_call 16; refine (toSystemA_c _ _ _ _ X (stable_rows.below HF17.out (Below.refl _ _).drew) lbX).mono ?_; rintro e wA17 ⟨rv, rfl, ⟨uA17, rfl, rA17⟩, bA17⟩) | (go_at_call 20; refine (eqSystemA_c _ _ _ _ _ _ X (stable_rows.below HX17.out ((Below.refl _ _).drew.trans bA17)) rA17).mono ?_; rintro e w17 ⟨rv, rfl, rfl, bB17⟩))
  clear HK17 HF17 HX17
  have b17 : Below w15.heap.size w15 w17 := (((Below.refl _ _).drew.trans bA17).trans (bB17.mono bA17.size))
  have B17 : Below w.heap.size w w17 := B15.trans (b17.mono B15.size)
  have s17 : w15.heap.size ≤ w17.heap.size := b17.size
  replace rS0 := stable_rows.below rS0 b17
  replace rxX := stable_rows.below rxX b17
  replace rxcuts := stable_rows.below rxcuts b17
  replace rxcol := stable_ints.below rxcol b17
  replace rG0 := stable_rows.below rG0 b17
  replace q0X := (b17.cell (p := ⟨w.heap.size, 0, none⟩) (by show w.heap.size < w15.heap.size; omega)).trans q0X
  replace q1X := (b17.cell (p := ⟨w.heap.size, 1, none⟩) (by show w.heap.size < w15.heap.size; omega)).trans q1X
  replace q2X := (b17.cell (p := ⟨w.heap.size, 2, none⟩) (by show w.heap.size < w15.heap.size; omega)).trans q2X
  replace q3X := (b17.cell (p := ⟨w.heap.size, 3, none⟩) (by show w.heap.size < w15.heap.size; omega)).trans q3X
  replace q4X := (b17.cell (p := ⟨w.heap.size, 4, none⟩) (by show w.heap.size < w15.heap.size; omega)).trans q4X
  replace q5X := (b17.cell (p := ⟨w.heap.size, 5, none⟩) (by show w.heap.size < w15.heap.size; omega)).trans q5X
  replace S0R0 := (b17.cell (p := ⟨w7.heap.size, 0, none⟩) (by show w7.heap.size < w15.heap.size; omega)).trans S0R0
  replace S1R0 := (b17.cell (p := ⟨w7.heap.size, 1, none⟩) (by show w7.heap.size < w15.heap.size; omega)).trans S1R0
  replace S2R0 := (b17.cell (p := ⟨w7.heap.size, 2, none⟩) (by show w7.heap.size < w15.heap.size; omega)).trans S2R0
  replace S3R0 := (b17.cell (p := ⟨w7.heap.size, 3, none⟩) (by show w7.heap.size < w15.heap.size; omega)).trans S3R0
  replace S4R0 := (b17.cell (p := ⟨w7.heap.size, 4, none⟩) (by show w7.heap.size < w15.heap.size; omega)).trans S4R0
  replace S5R0 := (b17.cell (p := ⟨w7.heap.size, 5, none⟩) (by show w7.heap.size < w15.heap.size; omega)).trans S5R0
  replace p0X := (b17.cell (p := ⟨w9.heap.size, 0, none⟩) (by show w9.heap.size < w15.heap.size; omega)).trans p0X
  replace p1X := (b17.cell (p := ⟨w9.heap.size, 1, none⟩) (by show w9.heap.size < w15.heap.size; omega)).trans p1X
  replace p2X := (b17.cell (p := ⟨w9.heap.size, 2, none⟩) (by show w9.heap.size < w15.heap.size; omega)).trans p2X
  replace p3X := (b17.cell (p := ⟨w9.heap.size, 3, none⟩) (by show w9.heap.size < w15.heap.size; omega)).trans p3X
  replace p4X := (b17.cell (p := ⟨w9.heap.size, 4, none⟩) (by show w9.heap.size < w15.heap.size; omega)).trans p4X
  replace p5X := (b17.cell (p := ⟨w9.heap.size, 5, none⟩) (by show w9.heap.size < w15.heap.size; omega)).trans p5X
  replace G0R0 := (b17.cell (p := ⟨w13.heap.size, 0, none⟩) (by show w13.heap.size < w15.heap.size; omega)).trans G0R0
  replace G1R0 := (b17.cell (p := ⟨w13.heap.size, 1, none⟩) (by show w13.heap.size < w15.heap.size; omega)).trans G1R0
  replace G2R0 := (b17.cell (p := ⟨w13.heap.size, 2, none⟩) (by show w13.heap.size < w15.heap.size; omega)).trans G2R0
  replace G3R0 := (b17.cell (p := ⟨w13.heap.size, 3, none⟩) (by show w13.heap.size < w15.heap.size; omega)).trans G3R0
  replace G4R0 := (b17.cell (p := ⟨w13.heap.size, 4, none⟩) (by show w13.heap.size < w15.heap.size; omega)).trans G4R0
  replace G5R0 := (b17.cell (p := ⟨w13.heap.size, 5, none⟩) (by show w13.heap.size < w15.heap.size; omega)).trans G5R0
  go_wp2_with fail
  refine Calls.mono (toInt64SS_c w17 _ _ cuts (stable_rows.below hcuts B17) lbcuts) ?_
  rintro e w18 ⟨uccuts, rfl, rccuts, bb18⟩
  have b18 : Below w17.heap.size w17 w18 := bb18
  have B18 : Below w.heap.size w w18 := B17.trans (b18.mono B17.size)
  have s18 : w17.heap.size ≤ w18.heap.size := b18.size
  replace rS0 := stable_rows.below rS0 b18
  replace rxX := stable_rows.below rxX b18
  replace rxcuts := stable_rows.below rxcuts b18
  replace rxcol := stable_ints.below rxcol b18
  replace rG0 := stable_rows.below rG0 b18
  replace q0X := (b18.cell (p := ⟨w.heap.size, 0, none⟩) (by show w.heap.size < w17.heap.size; omega)).trans q0X
  replace q1X := (b18.cell (p := ⟨w.heap.size, 1, none⟩) (by show w.heap.size < w17.heap.size; omega)).trans q1X
  replace q2X := (b18.cell (p := ⟨w.heap.size, 2, none⟩) (by show w.heap.size < w17.heap.size; omega)).trans q2X
  replace q3X := (b18.cell (p := ⟨w.heap.size, 3, none⟩) (by show w.heap.size < w17.heap.size; omega)).trans q3X
  replace q4X := (b18.cell (p := ⟨w.heap.size, 4, none⟩) (by show w.heap.size < w17.heap.size; omega)).trans q4X
  replace q5X := (b18.cell (p := ⟨w.heap.size, 5, none⟩) (by show w.heap.size < w17.heap.size; omega)).trans q5X
  replace S0R0 := (b18.cell (p := ⟨w7.heap.size, 0, none⟩) (by show w7.heap.size < w17.heap.size; omega)).trans S0R0
  replace S1R0 := (b18.cell (p := ⟨w7.heap.size, 1, none⟩) (by show w7.heap.size < w17.heap.size; omega)).trans S1R0
  replace S2R0 := (b18.cell (p := ⟨w7.heap.size, 2, none⟩) (by show w7.heap.size < w17.heap.size; omega)).trans S2R0
  replace S3R0 := (b18.cell (p := ⟨w7.heap.size, 3, none⟩) (by show w7.heap.size < w17.heap.size; omega)).trans S3R0
  replace S4R0 := (b18.cell (p := ⟨w7.heap.size, 4, none⟩) (by show w7.heap.size < w17.heap.size; omega)).trans S4R0
  replace S5R0 := (b18.cell (p := ⟨w7.heap.size, 5, none⟩) (by show w7.heap.size < w17.heap.size; omega)).trans S5R0
  replace p0X := (b18.cell (p := ⟨w9.heap.size, 0, none⟩) (by show w9.heap.size < w17.heap.size; omega)).trans p0X
  replace p1X := (b18.cell (p := ⟨w9.heap.size, 1, none⟩) (by show w9.heap.size < w17.heap.size; omega)).trans p1X
  replace p2X := (b18.cell (p := ⟨w9.heap.size, 2, none⟩) (by show w9.heap.size < w17.heap.size; omega)).trans p2X
  replace p3X := (b18.cell (p := ⟨w9.heap.size, 3, none⟩) (by show w9.heap.size < w17.heap.size; omega)).trans p3X
  replace p4X := (b18.cell (p := ⟨w9.heap.size, 4, none⟩) (by show w9.heap.size < w17.heap.size; omega)).trans p4X
  replace p5X := (b18.cell (p := ⟨w9.heap.size, 5, none⟩) (by show w9.heap.size < w17.heap.size; omega)).trans p5X
  replace G0R0 := (b18.cell (p := ⟨w13.heap.size, 0, none⟩) (by show w13.heap.size < w17.heap.size; omega)).trans G0R0
  replace G1R0 := (b18.cell (p := ⟨w13.heap.size, 1, none⟩) (by show w13.heap.size < w17.heap.size; omega)).trans G1R0
  replace G2R0 := (b18.cell (p := ⟨w13.heap.size, 2, none⟩) (by show w13.heap.size < w17.heap.size; omega)).trans G2R0
  replace G3R0 := (b18.cell (p := ⟨w13.heap.size, 3, none⟩) (by show w13.heap.size < w17.heap.size; omega)).trans G3R0
  replace G4R0 := (b18.cell (p := ⟨w13.heap.size, 4, none⟩) (by show w13.heap.size < w17.heap.size; omega)).trans G4R0
  replace G5R0 := (b18.cell (p := ⟨w13.heap.size, 5, none⟩) (by show w13.heap.size < w17.heap.size; omega)).trans G5R0
  go_wp2_with fail
  refine Calls.mono (Calls.vq (eqInt64SS_c w18 _ _ _ _ cuts cuts rxcuts rccuts) (congrArg Value.bool (decide_eq_true rfl))) ?_
  rintro e w19 ⟨rfl, hd19⟩
  have b19 : Below w18.heap.size w18 w19 := hd19.below _
  have B19 : Below w.heap.size w w19 := B18.trans (b19.mono B18.size)
  have s19 : w18.heap.size ≤ w19.heap.size := b19.size
  replace rS0 := stable_rows.below rS0 b19
  replace rxX := stable_rows.below rxX b19
  replace rxcuts := stable_rows.below rxcuts b19
  replace rxcol := stable_ints.below rxcol b19
  replace rG0 := stable_rows.below rG0 b19
  replace rccuts := stable_rows.below rccuts b19
  replace q0X := (b19.cell (p := ⟨w.heap.size, 0, none⟩) (by show w.heap.size < w18.heap.size; omega)).trans q0X
  replace q1X := (b19.cell (p := ⟨w.heap.size, 1, none⟩) (by show w.heap.size < w18.heap.size; omega)).trans q1X
  replace q2X := (b19.cell (p := ⟨w.heap.size, 2, none⟩) (by show w.heap.size < w18.heap.size; omega)).trans q2X
  replace q3X := (b19.cell (p := ⟨w.heap.size, 3, none⟩) (by show w.heap.size < w18.heap.size; omega)).trans q3X
  replace q4X := (b19.cell (p := ⟨w.heap.size, 4, none⟩) (by show w.heap.size < w18.heap.size; omega)).trans q4X
  replace q5X := (b19.cell (p := ⟨w.heap.size, 5, none⟩) (by show w.heap.size < w18.heap.size; omega)).trans q5X
  replace S0R0 := (b19.cell (p := ⟨w7.heap.size, 0, none⟩) (by show w7.heap.size < w18.heap.size; omega)).trans S0R0
  replace S1R0 := (b19.cell (p := ⟨w7.heap.size, 1, none⟩) (by show w7.heap.size < w18.heap.size; omega)).trans S1R0
  replace S2R0 := (b19.cell (p := ⟨w7.heap.size, 2, none⟩) (by show w7.heap.size < w18.heap.size; omega)).trans S2R0
  replace S3R0 := (b19.cell (p := ⟨w7.heap.size, 3, none⟩) (by show w7.heap.size < w18.heap.size; omega)).trans S3R0
  replace S4R0 := (b19.cell (p := ⟨w7.heap.size, 4, none⟩) (by show w7.heap.size < w18.heap.size; omega)).trans S4R0
  replace S5R0 := (b19.cell (p := ⟨w7.heap.size, 5, none⟩) (by show w7.heap.size < w18.heap.size; omega)).trans S5R0
  replace p0X := (b19.cell (p := ⟨w9.heap.size, 0, none⟩) (by show w9.heap.size < w18.heap.size; omega)).trans p0X
  replace p1X := (b19.cell (p := ⟨w9.heap.size, 1, none⟩) (by show w9.heap.size < w18.heap.size; omega)).trans p1X
  replace p2X := (b19.cell (p := ⟨w9.heap.size, 2, none⟩) (by show w9.heap.size < w18.heap.size; omega)).trans p2X
  replace p3X := (b19.cell (p := ⟨w9.heap.size, 3, none⟩) (by show w9.heap.size < w18.heap.size; omega)).trans p3X
  replace p4X := (b19.cell (p := ⟨w9.heap.size, 4, none⟩) (by show w9.heap.size < w18.heap.size; omega)).trans p4X
  replace p5X := (b19.cell (p := ⟨w9.heap.size, 5, none⟩) (by show w9.heap.size < w18.heap.size; omega)).trans p5X
  replace G0R0 := (b19.cell (p := ⟨w13.heap.size, 0, none⟩) (by show w13.heap.size < w18.heap.size; omega)).trans G0R0
  replace G1R0 := (b19.cell (p := ⟨w13.heap.size, 1, none⟩) (by show w13.heap.size < w18.heap.size; omega)).trans G1R0
  replace G2R0 := (b19.cell (p := ⟨w13.heap.size, 2, none⟩) (by show w13.heap.size < w18.heap.size; omega)).trans G2R0
  replace G3R0 := (b19.cell (p := ⟨w13.heap.size, 3, none⟩) (by show w13.heap.size < w18.heap.size; omega)).trans G3R0
  replace G4R0 := (b19.cell (p := ⟨w13.heap.size, 4, none⟩) (by show w13.heap.size < w18.heap.size; omega)).trans G4R0
  replace G5R0 := (b19.cell (p := ⟨w13.heap.size, 5, none⟩) (by show w13.heap.size < w18.heap.size; omega)).trans G5R0
  clear rccuts
  go_wp2_with fail
  refine Calls.mono (toInt64S_c w19 _ _ col (stable_ints.below hcol B19) hlcol) ?_
  rintro e w20 ⟨uccol, rfl, rccol, bb20⟩
  have b20 : Below w19.heap.size w19 w20 := bb20
  have B20 : Below w.heap.size w w20 := B19.trans (b20.mono B19.size)
  have s20 : w19.heap.size ≤ w20.heap.size := b20.size
  replace rS0 := stable_rows.below rS0 b20
  replace rxX := stable_rows.below rxX b20
  replace rxcuts := stable_rows.below rxcuts b20
  replace rxcol := stable_ints.below rxcol b20
  replace rG0 := stable_rows.below rG0 b20
  replace q0X := (b20.cell (p := ⟨w.heap.size, 0, none⟩) (by show w.heap.size < w19.heap.size; omega)).trans q0X
  replace q1X := (b20.cell (p := ⟨w.heap.size, 1, none⟩) (by show w.heap.size < w19.heap.size; omega)).trans q1X
  replace q2X := (b20.cell (p := ⟨w.heap.size, 2, none⟩) (by show w.heap.size < w19.heap.size; omega)).trans q2X
  replace q3X := (b20.cell (p := ⟨w.heap.size, 3, none⟩) (by show w.heap.size < w19.heap.size; omega)).trans q3X
  replace q4X := (b20.cell (p := ⟨w.heap.size, 4, none⟩) (by show w.heap.size < w19.heap.size; omega)).trans q4X
  replace q5X := (b20.cell (p := ⟨w.heap.size, 5, none⟩) (by show w.heap.size < w19.heap.size; omega)).trans q5X
  replace S0R0 := (b20.cell (p := ⟨w7.heap.size, 0, none⟩) (by show w7.heap.size < w19.heap.size; omega)).trans S0R0
  replace S1R0 := (b20.cell (p := ⟨w7.heap.size, 1, none⟩) (by show w7.heap.size < w19.heap.size; omega)).trans S1R0
  replace S2R0 := (b20.cell (p := ⟨w7.heap.size, 2, none⟩) (by show w7.heap.size < w19.heap.size; omega)).trans S2R0
  replace S3R0 := (b20.cell (p := ⟨w7.heap.size, 3, none⟩) (by show w7.heap.size < w19.heap.size; omega)).trans S3R0
  replace S4R0 := (b20.cell (p := ⟨w7.heap.size, 4, none⟩) (by show w7.heap.size < w19.heap.size; omega)).trans S4R0
  replace S5R0 := (b20.cell (p := ⟨w7.heap.size, 5, none⟩) (by show w7.heap.size < w19.heap.size; omega)).trans S5R0
  replace p0X := (b20.cell (p := ⟨w9.heap.size, 0, none⟩) (by show w9.heap.size < w19.heap.size; omega)).trans p0X
  replace p1X := (b20.cell (p := ⟨w9.heap.size, 1, none⟩) (by show w9.heap.size < w19.heap.size; omega)).trans p1X
  replace p2X := (b20.cell (p := ⟨w9.heap.size, 2, none⟩) (by show w9.heap.size < w19.heap.size; omega)).trans p2X
  replace p3X := (b20.cell (p := ⟨w9.heap.size, 3, none⟩) (by show w9.heap.size < w19.heap.size; omega)).trans p3X
  replace p4X := (b20.cell (p := ⟨w9.heap.size, 4, none⟩) (by show w9.heap.size < w19.heap.size; omega)).trans p4X
  replace p5X := (b20.cell (p := ⟨w9.heap.size, 5, none⟩) (by show w9.heap.size < w19.heap.size; omega)).trans p5X
  replace G0R0 := (b20.cell (p := ⟨w13.heap.size, 0, none⟩) (by show w13.heap.size < w19.heap.size; omega)).trans G0R0
  replace G1R0 := (b20.cell (p := ⟨w13.heap.size, 1, none⟩) (by show w13.heap.size < w19.heap.size; omega)).trans G1R0
  replace G2R0 := (b20.cell (p := ⟨w13.heap.size, 2, none⟩) (by show w13.heap.size < w19.heap.size; omega)).trans G2R0
  replace G3R0 := (b20.cell (p := ⟨w13.heap.size, 3, none⟩) (by show w13.heap.size < w19.heap.size; omega)).trans G3R0
  replace G4R0 := (b20.cell (p := ⟨w13.heap.size, 4, none⟩) (by show w13.heap.size < w19.heap.size; omega)).trans G4R0
  replace G5R0 := (b20.cell (p := ⟨w13.heap.size, 5, none⟩) (by show w13.heap.size < w19.heap.size; omega)).trans G5R0
  go_wp2_with fail
  refine Calls.mono (Calls.vq (eqInt64S_c w20 _ _ _ _ col col rxcol rccol) (congrArg Value.bool (decide_eq_true rfl))) ?_
  rintro e w21 ⟨rfl, hd21⟩
  have b21 : Below w20.heap.size w20 w21 := hd21.below _
  have B21 : Below w.heap.size w w21 := B20.trans (b21.mono B20.size)
  have s21 : w20.heap.size ≤ w21.heap.size := b21.size
  replace rS0 := stable_rows.below rS0 b21
  replace rxX := stable_rows.below rxX b21
  replace rxcuts := stable_rows.below rxcuts b21
  replace rxcol := stable_ints.below rxcol b21
  replace rG0 := stable_rows.below rG0 b21
  replace rccol := stable_ints.below rccol b21
  replace q0X := (b21.cell (p := ⟨w.heap.size, 0, none⟩) (by show w.heap.size < w20.heap.size; omega)).trans q0X
  replace q1X := (b21.cell (p := ⟨w.heap.size, 1, none⟩) (by show w.heap.size < w20.heap.size; omega)).trans q1X
  replace q2X := (b21.cell (p := ⟨w.heap.size, 2, none⟩) (by show w.heap.size < w20.heap.size; omega)).trans q2X
  replace q3X := (b21.cell (p := ⟨w.heap.size, 3, none⟩) (by show w.heap.size < w20.heap.size; omega)).trans q3X
  replace q4X := (b21.cell (p := ⟨w.heap.size, 4, none⟩) (by show w.heap.size < w20.heap.size; omega)).trans q4X
  replace q5X := (b21.cell (p := ⟨w.heap.size, 5, none⟩) (by show w.heap.size < w20.heap.size; omega)).trans q5X
  replace S0R0 := (b21.cell (p := ⟨w7.heap.size, 0, none⟩) (by show w7.heap.size < w20.heap.size; omega)).trans S0R0
  replace S1R0 := (b21.cell (p := ⟨w7.heap.size, 1, none⟩) (by show w7.heap.size < w20.heap.size; omega)).trans S1R0
  replace S2R0 := (b21.cell (p := ⟨w7.heap.size, 2, none⟩) (by show w7.heap.size < w20.heap.size; omega)).trans S2R0
  replace S3R0 := (b21.cell (p := ⟨w7.heap.size, 3, none⟩) (by show w7.heap.size < w20.heap.size; omega)).trans S3R0
  replace S4R0 := (b21.cell (p := ⟨w7.heap.size, 4, none⟩) (by show w7.heap.size < w20.heap.size; omega)).trans S4R0
  replace S5R0 := (b21.cell (p := ⟨w7.heap.size, 5, none⟩) (by show w7.heap.size < w20.heap.size; omega)).trans S5R0
  replace p0X := (b21.cell (p := ⟨w9.heap.size, 0, none⟩) (by show w9.heap.size < w20.heap.size; omega)).trans p0X
  replace p1X := (b21.cell (p := ⟨w9.heap.size, 1, none⟩) (by show w9.heap.size < w20.heap.size; omega)).trans p1X
  replace p2X := (b21.cell (p := ⟨w9.heap.size, 2, none⟩) (by show w9.heap.size < w20.heap.size; omega)).trans p2X
  replace p3X := (b21.cell (p := ⟨w9.heap.size, 3, none⟩) (by show w9.heap.size < w20.heap.size; omega)).trans p3X
  replace p4X := (b21.cell (p := ⟨w9.heap.size, 4, none⟩) (by show w9.heap.size < w20.heap.size; omega)).trans p4X
  replace p5X := (b21.cell (p := ⟨w9.heap.size, 5, none⟩) (by show w9.heap.size < w20.heap.size; omega)).trans p5X
  replace G0R0 := (b21.cell (p := ⟨w13.heap.size, 0, none⟩) (by show w13.heap.size < w20.heap.size; omega)).trans G0R0
  replace G1R0 := (b21.cell (p := ⟨w13.heap.size, 1, none⟩) (by show w13.heap.size < w20.heap.size; omega)).trans G1R0
  replace G2R0 := (b21.cell (p := ⟨w13.heap.size, 2, none⟩) (by show w13.heap.size < w20.heap.size; omega)).trans G2R0
  replace G3R0 := (b21.cell (p := ⟨w13.heap.size, 3, none⟩) (by show w13.heap.size < w20.heap.size; omega)).trans G3R0
  replace G4R0 := (b21.cell (p := ⟨w13.heap.size, 4, none⟩) (by show w13.heap.size < w20.heap.size; omega)).trans G4R0
  replace G5R0 := (b21.cell (p := ⟨w13.heap.size, 5, none⟩) (by show w13.heap.size < w20.heap.size; omega)).trans G5R0
  clear rccol
  have ofX : offs X X.length ≤ 1048576 := by have := offs_all X; omega
  have ofcuts : offs cuts cuts.length ≤ 1048576 := by have := offs_all cuts; omega
  go_wp2_with fail
  refine Calls.mono (markSystemA_c w21 _ _ _ X _ rxX rfl (by omega) (by omega)) ?_
  rintro e w22 ⟨rfl, rmxX, wm22, hb22, hw22⟩
  have hz22 : w22.heap.size = wm22.heap.size := hw22.size
  have hy22 : w21.heap.size ≤ wm22.heap.size := hb22.size
  have B22 : Below w.heap.size w w22 := (B21.trans (hb22.mono B21.size)).trans (hw22.below (by simp only [Zone.new]; omega))
  clear rxX
  replace rS0 := stable_rows.within (stable_rows.below rS0 hb22) hw22 (fun k h1 h2 => by have q1 := h1.1; have q2 := h1.2; have q3 := h2.1; have q4 := h2.2; simp only [Zone.new] at q1 q2 q3 q4; omega)
  replace rxcuts := stable_rows.within (stable_rows.below rxcuts hb22) hw22 (fun k h1 h2 => by have q1 := h1.1; have q2 := h1.2; have q3 := h2.1; have q4 := h2.2; simp only [Zone.new] at q1 q2 q3 q4; omega)
  replace rxcol := stable_ints.within (stable_ints.below rxcol hb22) hw22 (fun k h1 h2 => by have q1 := h1.1; have q2 := h1.2; have q3 := h2.1; have q4 := h2.2; simp only [Zone.new] at q1 q2 q3 q4; omega)
  replace rG0 := stable_rows.within (stable_rows.below rG0 hb22) hw22 (fun k h1 h2 => by have q1 := h1.1; have q2 := h1.2; have q3 := h2.1; have q4 := h2.2; simp only [Zone.new] at q1 q2 q3 q4; omega)
  clear p0X
  clear p1X
  clear p2X
  clear p3X
  clear p4X
  clear p5X
  replace q0X := (hw22.cell (p := ⟨w.heap.size, 0, none⟩) (fun h => by have q1 := h.1; have q2 := h.2; simp only [Zone.new] at q1 q2; omega)).trans ((hb22.cell (p := ⟨w.heap.size, 0, none⟩) (by show w.heap.size < w21.heap.size; omega)).trans q0X)
  replace q1X := (hw22.cell (p := ⟨w.heap.size, 1, none⟩) (fun h => by have q1 := h.1; have q2 := h.2; simp only [Zone.new] at q1 q2; omega)).trans ((hb22.cell (p := ⟨w.heap.size, 1, none⟩) (by show w.heap.size < w21.heap.size; omega)).trans q1X)
  replace q2X := (hw22.cell (p := ⟨w.heap.size, 2, none⟩) (fun h => by have q1 := h.1; have q2 := h.2; simp only [Zone.new] at q1 q2; omega)).trans ((hb22.cell (p := ⟨w.heap.size, 2, none⟩) (by show w.heap.size < w21.heap.size; omega)).trans q2X)
  replace q3X := (hw22.cell (p := ⟨w.heap.size, 3, none⟩) (fun h => by have q1 := h.1; have q2 := h.2; simp only [Zone.new] at q1 q2; omega)).trans ((hb22.cell (p := ⟨w.heap.size, 3, none⟩) (by show w.heap.size < w21.heap.size; omega)).trans q3X)
  replace q4X := (hw22.cell (p := ⟨w.heap.size, 4, none⟩) (fun h => by have q1 := h.1; have q2 := h.2; simp only [Zone.new] at q1 q2; omega)).trans ((hb22.cell (p := ⟨w.heap.size, 4, none⟩) (by show w.heap.size < w21.heap.size; omega)).trans q4X)
  replace q5X := (hw22.cell (p := ⟨w.heap.size, 5, none⟩) (fun h => by have q1 := h.1; have q2 := h.2; simp only [Zone.new] at q1 q2; omega)).trans ((hb22.cell (p := ⟨w.heap.size, 5, none⟩) (by show w.heap.size < w21.heap.size; omega)).trans q5X)
  replace S0R0 := (hw22.cell (p := ⟨w7.heap.size, 0, none⟩) (fun h => by have q1 := h.1; have q2 := h.2; simp only [Zone.new] at q1 q2; omega)).trans ((hb22.cell (p := ⟨w7.heap.size, 0, none⟩) (by show w7.heap.size < w21.heap.size; omega)).trans S0R0)
  replace S1R0 := (hw22.cell (p := ⟨w7.heap.size, 1, none⟩) (fun h => by have q1 := h.1; have q2 := h.2; simp only [Zone.new] at q1 q2; omega)).trans ((hb22.cell (p := ⟨w7.heap.size, 1, none⟩) (by show w7.heap.size < w21.heap.size; omega)).trans S1R0)
  replace S2R0 := (hw22.cell (p := ⟨w7.heap.size, 2, none⟩) (fun h => by have q1 := h.1; have q2 := h.2; simp only [Zone.new] at q1 q2; omega)).trans ((hb22.cell (p := ⟨w7.heap.size, 2, none⟩) (by show w7.heap.size < w21.heap.size; omega)).trans S2R0)
  replace S3R0 := (hw22.cell (p := ⟨w7.heap.size, 3, none⟩) (fun h => by have q1 := h.1; have q2 := h.2; simp only [Zone.new] at q1 q2; omega)).trans ((hb22.cell (p := ⟨w7.heap.size, 3, none⟩) (by show w7.heap.size < w21.heap.size; omega)).trans S3R0)
  replace S4R0 := (hw22.cell (p := ⟨w7.heap.size, 4, none⟩) (fun h => by have q1 := h.1; have q2 := h.2; simp only [Zone.new] at q1 q2; omega)).trans ((hb22.cell (p := ⟨w7.heap.size, 4, none⟩) (by show w7.heap.size < w21.heap.size; omega)).trans S4R0)
  replace S5R0 := (hw22.cell (p := ⟨w7.heap.size, 5, none⟩) (fun h => by have q1 := h.1; have q2 := h.2; simp only [Zone.new] at q1 q2; omega)).trans ((hb22.cell (p := ⟨w7.heap.size, 5, none⟩) (by show w7.heap.size < w21.heap.size; omega)).trans S5R0)
  replace G0R0 := (hw22.cell (p := ⟨w13.heap.size, 0, none⟩) (fun h => by have q1 := h.1; have q2 := h.2; simp only [Zone.new] at q1 q2; omega)).trans ((hb22.cell (p := ⟨w13.heap.size, 0, none⟩) (by show w13.heap.size < w21.heap.size; omega)).trans G0R0)
  replace G1R0 := (hw22.cell (p := ⟨w13.heap.size, 1, none⟩) (fun h => by have q1 := h.1; have q2 := h.2; simp only [Zone.new] at q1 q2; omega)).trans ((hb22.cell (p := ⟨w13.heap.size, 1, none⟩) (by show w13.heap.size < w21.heap.size; omega)).trans G1R0)
  replace G2R0 := (hw22.cell (p := ⟨w13.heap.size, 2, none⟩) (fun h => by have q1 := h.1; have q2 := h.2; simp only [Zone.new] at q1 q2; omega)).trans ((hb22.cell (p := ⟨w13.heap.size, 2, none⟩) (by show w13.heap.size < w21.heap.size; omega)).trans G2R0)
  replace G3R0 := (hw22.cell (p := ⟨w13.heap.size, 3, none⟩) (fun h => by have q1 := h.1; have q2 := h.2; simp only [Zone.new] at q1 q2; omega)).trans ((hb22.cell (p := ⟨w13.heap.size, 3, none⟩) (by show w13.heap.size < w21.heap.size; omega)).trans G3R0)
  replace G4R0 := (hw22.cell (p := ⟨w13.heap.size, 4, none⟩) (fun h => by have q1 := h.1; have q2 := h.2; simp only [Zone.new] at q1 q2; omega)).trans ((hb22.cell (p := ⟨w13.heap.size, 4, none⟩) (by show w13.heap.size < w21.heap.size; omega)).trans G4R0)
  replace G5R0 := (hw22.cell (p := ⟨w13.heap.size, 5, none⟩) (fun h => by have q1 := h.1; have q2 := h.2; simp only [Zone.new] at q1 q2; omega)).trans ((hb22.cell (p := ⟨w13.heap.size, 5, none⟩) (by show w13.heap.size < w21.heap.size; omega)).trans G5R0)
  have s22 : w21.heap.size ≤ w22.heap.size := by omega
  clear hw22 hb22
  clear rmxX
  have ck1 : (0 : Int) ≤ 1 + (offs X X.length : Int) ∧ 1 + (offs X X.length : Int) ≤ 1048577 := by omega
  obtain ⟨ck1a, ck1b⟩ := ck1
  generalize (1 : Int) + (offs X X.length : Int) = k1 at *
  go_wp2_with fail
  refine Calls.mono (markInt64SS_c w22 _ _ cuts _ rxcuts rfl (by omega) (by omega)) ?_
  rintro e w23 ⟨rfl, rmxcuts, hw23⟩
  have hz23 : w23.heap.size = w22.heap.size := hw23.size
  have B23 : Below w.heap.size w w23 := B22.trans (hw23.below (by simp only [Zone.new]; omega))
  clear rxcuts
  replace rS0 := stable_rows.within rS0 hw23 (fun k h1 h2 => by have q1 := h1.1; have q2 := h1.2; have q3 := h2.1; have q4 := h2.2; simp only [Zone.new] at q1 q2 q3 q4; omega)
  replace rxcol := stable_ints.within rxcol hw23 (fun k h1 h2 => by have q1 := h1.1; have q2 := h1.2; have q3 := h2.1; have q4 := h2.2; simp only [Zone.new] at q1 q2 q3 q4; omega)
  replace rG0 := stable_rows.within rG0 hw23 (fun k h1 h2 => by have q1 := h1.1; have q2 := h1.2; have q3 := h2.1; have q4 := h2.2; simp only [Zone.new] at q1 q2 q3 q4; omega)
  replace q0X := (hw23.cell (p := ⟨w.heap.size, 0, none⟩) (fun h => by have q1 := h.1; have q2 := h.2; simp only [Zone.new] at q1 q2; omega)).trans q0X
  replace q1X := (hw23.cell (p := ⟨w.heap.size, 1, none⟩) (fun h => by have q1 := h.1; have q2 := h.2; simp only [Zone.new] at q1 q2; omega)).trans q1X
  replace q2X := (hw23.cell (p := ⟨w.heap.size, 2, none⟩) (fun h => by have q1 := h.1; have q2 := h.2; simp only [Zone.new] at q1 q2; omega)).trans q2X
  replace q3X := (hw23.cell (p := ⟨w.heap.size, 3, none⟩) (fun h => by have q1 := h.1; have q2 := h.2; simp only [Zone.new] at q1 q2; omega)).trans q3X
  replace q4X := (hw23.cell (p := ⟨w.heap.size, 4, none⟩) (fun h => by have q1 := h.1; have q2 := h.2; simp only [Zone.new] at q1 q2; omega)).trans q4X
  replace q5X := (hw23.cell (p := ⟨w.heap.size, 5, none⟩) (fun h => by have q1 := h.1; have q2 := h.2; simp only [Zone.new] at q1 q2; omega)).trans q5X
  replace S0R0 := (hw23.cell (p := ⟨w7.heap.size, 0, none⟩) (fun h => by have q1 := h.1; have q2 := h.2; simp only [Zone.new] at q1 q2; omega)).trans S0R0
  replace S1R0 := (hw23.cell (p := ⟨w7.heap.size, 1, none⟩) (fun h => by have q1 := h.1; have q2 := h.2; simp only [Zone.new] at q1 q2; omega)).trans S1R0
  replace S2R0 := (hw23.cell (p := ⟨w7.heap.size, 2, none⟩) (fun h => by have q1 := h.1; have q2 := h.2; simp only [Zone.new] at q1 q2; omega)).trans S2R0
  replace S3R0 := (hw23.cell (p := ⟨w7.heap.size, 3, none⟩) (fun h => by have q1 := h.1; have q2 := h.2; simp only [Zone.new] at q1 q2; omega)).trans S3R0
  replace S4R0 := (hw23.cell (p := ⟨w7.heap.size, 4, none⟩) (fun h => by have q1 := h.1; have q2 := h.2; simp only [Zone.new] at q1 q2; omega)).trans S4R0
  replace S5R0 := (hw23.cell (p := ⟨w7.heap.size, 5, none⟩) (fun h => by have q1 := h.1; have q2 := h.2; simp only [Zone.new] at q1 q2; omega)).trans S5R0
  replace G0R0 := (hw23.cell (p := ⟨w13.heap.size, 0, none⟩) (fun h => by have q1 := h.1; have q2 := h.2; simp only [Zone.new] at q1 q2; omega)).trans G0R0
  replace G1R0 := (hw23.cell (p := ⟨w13.heap.size, 1, none⟩) (fun h => by have q1 := h.1; have q2 := h.2; simp only [Zone.new] at q1 q2; omega)).trans G1R0
  replace G2R0 := (hw23.cell (p := ⟨w13.heap.size, 2, none⟩) (fun h => by have q1 := h.1; have q2 := h.2; simp only [Zone.new] at q1 q2; omega)).trans G2R0
  replace G3R0 := (hw23.cell (p := ⟨w13.heap.size, 3, none⟩) (fun h => by have q1 := h.1; have q2 := h.2; simp only [Zone.new] at q1 q2; omega)).trans G3R0
  replace G4R0 := (hw23.cell (p := ⟨w13.heap.size, 4, none⟩) (fun h => by have q1 := h.1; have q2 := h.2; simp only [Zone.new] at q1 q2; omega)).trans G4R0
  replace G5R0 := (hw23.cell (p := ⟨w13.heap.size, 5, none⟩) (fun h => by have q1 := h.1; have q2 := h.2; simp only [Zone.new] at q1 q2; omega)).trans G5R0
  have s23 : w22.heap.size ≤ w23.heap.size := by omega
  clear hw23
  clear rmxcuts
  have ck2 : (0 : Int) ≤ k1 + (offs cuts cuts.length : Int) ∧ k1 + (offs cuts cuts.length : Int) ≤ 2097153 := by omega
  obtain ⟨ck2a, ck2b⟩ := ck2
  generalize (k1 : Int) + (offs cuts cuts.length : Int) = k2 at *
  go_wp2_with fail
  refine Calls.mono (markInt64S_c w23 _ _ col _ rxcol rfl (by omega) (by omega)) ?_
  rintro e w24 ⟨rfl, rmxcol, hw24⟩
  have hz24 : w24.heap.size = w23.heap.size := hw24.size
  have B24 : Below w.heap.size w w24 := B23.trans (hw24.below (by simp only [Zone.new]; omega))
  clear rxcol
  replace rS0 := stable_rows.within rS0 hw24 (fun k h1 h2 => by have q1 := h1.1; have q2 := h1.2; have q3 := h2.1; have q4 := h2.2; simp only [Zone.new] at q1 q2 q3 q4; omega)
  replace rG0 := stable_rows.within rG0 hw24 (fun k h1 h2 => by have q1 := h1.1; have q2 := h1.2; have q3 := h2.1; have q4 := h2.2; simp only [Zone.new] at q1 q2 q3 q4; omega)
  replace q0X := (hw24.cell (p := ⟨w.heap.size, 0, none⟩) (fun h => by have q1 := h.1; have q2 := h.2; simp only [Zone.new] at q1 q2; omega)).trans q0X
  replace q1X := (hw24.cell (p := ⟨w.heap.size, 1, none⟩) (fun h => by have q1 := h.1; have q2 := h.2; simp only [Zone.new] at q1 q2; omega)).trans q1X
  replace q2X := (hw24.cell (p := ⟨w.heap.size, 2, none⟩) (fun h => by have q1 := h.1; have q2 := h.2; simp only [Zone.new] at q1 q2; omega)).trans q2X
  replace q3X := (hw24.cell (p := ⟨w.heap.size, 3, none⟩) (fun h => by have q1 := h.1; have q2 := h.2; simp only [Zone.new] at q1 q2; omega)).trans q3X
  replace q4X := (hw24.cell (p := ⟨w.heap.size, 4, none⟩) (fun h => by have q1 := h.1; have q2 := h.2; simp only [Zone.new] at q1 q2; omega)).trans q4X
  replace q5X := (hw24.cell (p := ⟨w.heap.size, 5, none⟩) (fun h => by have q1 := h.1; have q2 := h.2; simp only [Zone.new] at q1 q2; omega)).trans q5X
  replace S0R0 := (hw24.cell (p := ⟨w7.heap.size, 0, none⟩) (fun h => by have q1 := h.1; have q2 := h.2; simp only [Zone.new] at q1 q2; omega)).trans S0R0
  replace S1R0 := (hw24.cell (p := ⟨w7.heap.size, 1, none⟩) (fun h => by have q1 := h.1; have q2 := h.2; simp only [Zone.new] at q1 q2; omega)).trans S1R0
  replace S2R0 := (hw24.cell (p := ⟨w7.heap.size, 2, none⟩) (fun h => by have q1 := h.1; have q2 := h.2; simp only [Zone.new] at q1 q2; omega)).trans S2R0
  replace S3R0 := (hw24.cell (p := ⟨w7.heap.size, 3, none⟩) (fun h => by have q1 := h.1; have q2 := h.2; simp only [Zone.new] at q1 q2; omega)).trans S3R0
  replace S4R0 := (hw24.cell (p := ⟨w7.heap.size, 4, none⟩) (fun h => by have q1 := h.1; have q2 := h.2; simp only [Zone.new] at q1 q2; omega)).trans S4R0
  replace S5R0 := (hw24.cell (p := ⟨w7.heap.size, 5, none⟩) (fun h => by have q1 := h.1; have q2 := h.2; simp only [Zone.new] at q1 q2; omega)).trans S5R0
  replace G0R0 := (hw24.cell (p := ⟨w13.heap.size, 0, none⟩) (fun h => by have q1 := h.1; have q2 := h.2; simp only [Zone.new] at q1 q2; omega)).trans G0R0
  replace G1R0 := (hw24.cell (p := ⟨w13.heap.size, 1, none⟩) (fun h => by have q1 := h.1; have q2 := h.2; simp only [Zone.new] at q1 q2; omega)).trans G1R0
  replace G2R0 := (hw24.cell (p := ⟨w13.heap.size, 2, none⟩) (fun h => by have q1 := h.1; have q2 := h.2; simp only [Zone.new] at q1 q2; omega)).trans G2R0
  replace G3R0 := (hw24.cell (p := ⟨w13.heap.size, 3, none⟩) (fun h => by have q1 := h.1; have q2 := h.2; simp only [Zone.new] at q1 q2; omega)).trans G3R0
  replace G4R0 := (hw24.cell (p := ⟨w13.heap.size, 4, none⟩) (fun h => by have q1 := h.1; have q2 := h.2; simp only [Zone.new] at q1 q2; omega)).trans G4R0
  replace G5R0 := (hw24.cell (p := ⟨w13.heap.size, 5, none⟩) (fun h => by have q1 := h.1; have q2 := h.2; simp only [Zone.new] at q1 q2; omega)).trans G5R0
  have s24 : w23.heap.size ≤ w24.heap.size := by omega
  clear hw24
  clear rmxcol
  have ck3 : (0 : Int) ≤ k2 + (col.length : Int) ∧ k2 + (col.length : Int) ≤ 3145729 := by omega
  obtain ⟨ck3a, ck3b⟩ := ck3
  generalize (k2 : Int) + (col.length : Int) = k3 at *
  go_wp2_with fail
  refine Calls.mono (eqSystemA_c w24 _ _ _ _ _ res0 rG0 rS0) ?_
  rintro e w25 ⟨rv25, rfl, rfl, hd25⟩
  have b25 : Below w24.heap.size w24 w25 := hd25
  have B25 : Below w.heap.size w w25 := B24.trans (b25.mono B24.size)
  have s25 : w24.heap.size ≤ w25.heap.size := b25.size
  replace rS0 := stable_rows.below rS0 b25
  replace rG0 := stable_rows.below rG0 b25
  replace q0X := (b25.cell (p := ⟨w.heap.size, 0, none⟩) (by show w.heap.size < w24.heap.size; omega)).trans q0X
  replace q1X := (b25.cell (p := ⟨w.heap.size, 1, none⟩) (by show w.heap.size < w24.heap.size; omega)).trans q1X
  replace q2X := (b25.cell (p := ⟨w.heap.size, 2, none⟩) (by show w.heap.size < w24.heap.size; omega)).trans q2X
  replace q3X := (b25.cell (p := ⟨w.heap.size, 3, none⟩) (by show w.heap.size < w24.heap.size; omega)).trans q3X
  replace q4X := (b25.cell (p := ⟨w.heap.size, 4, none⟩) (by show w.heap.size < w24.heap.size; omega)).trans q4X
  replace q5X := (b25.cell (p := ⟨w.heap.size, 5, none⟩) (by show w.heap.size < w24.heap.size; omega)).trans q5X
  replace S0R0 := (b25.cell (p := ⟨w7.heap.size, 0, none⟩) (by show w7.heap.size < w24.heap.size; omega)).trans S0R0
  replace S1R0 := (b25.cell (p := ⟨w7.heap.size, 1, none⟩) (by show w7.heap.size < w24.heap.size; omega)).trans S1R0
  replace S2R0 := (b25.cell (p := ⟨w7.heap.size, 2, none⟩) (by show w7.heap.size < w24.heap.size; omega)).trans S2R0
  replace S3R0 := (b25.cell (p := ⟨w7.heap.size, 3, none⟩) (by show w7.heap.size < w24.heap.size; omega)).trans S3R0
  replace S4R0 := (b25.cell (p := ⟨w7.heap.size, 4, none⟩) (by show w7.heap.size < w24.heap.size; omega)).trans S4R0
  replace S5R0 := (b25.cell (p := ⟨w7.heap.size, 5, none⟩) (by show w7.heap.size < w24.heap.size; omega)).trans S5R0
  replace G0R0 := (b25.cell (p := ⟨w13.heap.size, 0, none⟩) (by show w13.heap.size < w24.heap.size; omega)).trans G0R0
  replace G1R0 := (b25.cell (p := ⟨w13.heap.size, 1, none⟩) (by show w13.heap.size < w24.heap.size; omega)).trans G1R0
  replace G2R0 := (b25.cell (p := ⟨w13.heap.size, 2, none⟩) (by show w13.heap.size < w24.heap.size; omega)).trans G2R0
  replace G3R0 := (b25.cell (p := ⟨w13.heap.size, 3, none⟩) (by show w13.heap.size < w24.heap.size; omega)).trans G3R0
  replace G4R0 := (b25.cell (p := ⟨w13.heap.size, 4, none⟩) (by show w13.heap.size < w24.heap.size; omega)).trans G4R0
  replace G5R0 := (b25.cell (p := ⟨w13.heap.size, 5, none⟩) (by show w13.heap.size < w24.heap.size; omega)).trans G5R0
  go_wp2_with fail
  refine Calls.mono (markSystemA_c w25 _ _ _ res0 _ rG0 rfl (by omega) (by omega)) ?_
  rintro e w26 ⟨rfl, rmG0, wm26, hb26, hw26⟩
  have hz26 : w26.heap.size = wm26.heap.size := hw26.size
  have hy26 : w25.heap.size ≤ wm26.heap.size := hb26.size
  have B26 : Below w.heap.size w w26 := (B25.trans (hb26.mono B25.size)).trans (hw26.below (by simp only [Zone.new]; omega))
  clear rG0
  replace rS0 := stable_rows.within (stable_rows.below rS0 hb26) hw26 (fun k h1 h2 => by have q1 := h1.1; have q2 := h1.2; have q3 := h2.1; have q4 := h2.2; simp only [Zone.new] at q1 q2 q3 q4; omega)
  replace q0X := (hw26.cell (p := ⟨w.heap.size, 0, none⟩) (fun h => by have q1 := h.1; have q2 := h.2; simp only [Zone.new] at q1 q2; omega)).trans ((hb26.cell (p := ⟨w.heap.size, 0, none⟩) (by show w.heap.size < w25.heap.size; omega)).trans q0X)
  replace q1X := (hw26.cell (p := ⟨w.heap.size, 1, none⟩) (fun h => by have q1 := h.1; have q2 := h.2; simp only [Zone.new] at q1 q2; omega)).trans ((hb26.cell (p := ⟨w.heap.size, 1, none⟩) (by show w.heap.size < w25.heap.size; omega)).trans q1X)
  replace q2X := (hw26.cell (p := ⟨w.heap.size, 2, none⟩) (fun h => by have q1 := h.1; have q2 := h.2; simp only [Zone.new] at q1 q2; omega)).trans ((hb26.cell (p := ⟨w.heap.size, 2, none⟩) (by show w.heap.size < w25.heap.size; omega)).trans q2X)
  replace q3X := (hw26.cell (p := ⟨w.heap.size, 3, none⟩) (fun h => by have q1 := h.1; have q2 := h.2; simp only [Zone.new] at q1 q2; omega)).trans ((hb26.cell (p := ⟨w.heap.size, 3, none⟩) (by show w.heap.size < w25.heap.size; omega)).trans q3X)
  replace q4X := (hw26.cell (p := ⟨w.heap.size, 4, none⟩) (fun h => by have q1 := h.1; have q2 := h.2; simp only [Zone.new] at q1 q2; omega)).trans ((hb26.cell (p := ⟨w.heap.size, 4, none⟩) (by show w.heap.size < w25.heap.size; omega)).trans q4X)
  replace q5X := (hw26.cell (p := ⟨w.heap.size, 5, none⟩) (fun h => by have q1 := h.1; have q2 := h.2; simp only [Zone.new] at q1 q2; omega)).trans ((hb26.cell (p := ⟨w.heap.size, 5, none⟩) (by show w.heap.size < w25.heap.size; omega)).trans q5X)
  replace S0R0 := (hw26.cell (p := ⟨w7.heap.size, 0, none⟩) (fun h => by have q1 := h.1; have q2 := h.2; simp only [Zone.new] at q1 q2; omega)).trans ((hb26.cell (p := ⟨w7.heap.size, 0, none⟩) (by show w7.heap.size < w25.heap.size; omega)).trans S0R0)
  replace S1R0 := (hw26.cell (p := ⟨w7.heap.size, 1, none⟩) (fun h => by have q1 := h.1; have q2 := h.2; simp only [Zone.new] at q1 q2; omega)).trans ((hb26.cell (p := ⟨w7.heap.size, 1, none⟩) (by show w7.heap.size < w25.heap.size; omega)).trans S1R0)
  replace S2R0 := (hw26.cell (p := ⟨w7.heap.size, 2, none⟩) (fun h => by have q1 := h.1; have q2 := h.2; simp only [Zone.new] at q1 q2; omega)).trans ((hb26.cell (p := ⟨w7.heap.size, 2, none⟩) (by show w7.heap.size < w25.heap.size; omega)).trans S2R0)
  replace S3R0 := (hw26.cell (p := ⟨w7.heap.size, 3, none⟩) (fun h => by have q1 := h.1; have q2 := h.2; simp only [Zone.new] at q1 q2; omega)).trans ((hb26.cell (p := ⟨w7.heap.size, 3, none⟩) (by show w7.heap.size < w25.heap.size; omega)).trans S3R0)
  replace S4R0 := (hw26.cell (p := ⟨w7.heap.size, 4, none⟩) (fun h => by have q1 := h.1; have q2 := h.2; simp only [Zone.new] at q1 q2; omega)).trans ((hb26.cell (p := ⟨w7.heap.size, 4, none⟩) (by show w7.heap.size < w25.heap.size; omega)).trans S4R0)
  replace S5R0 := (hw26.cell (p := ⟨w7.heap.size, 5, none⟩) (fun h => by have q1 := h.1; have q2 := h.2; simp only [Zone.new] at q1 q2; omega)).trans ((hb26.cell (p := ⟨w7.heap.size, 5, none⟩) (by show w7.heap.size < w25.heap.size; omega)).trans S5R0)
  replace G0R0 := (hw26.cell (p := ⟨w13.heap.size, 0, none⟩) (fun h => by have q1 := h.1; have q2 := h.2; simp only [Zone.new] at q1 q2; omega)).trans ((hb26.cell (p := ⟨w13.heap.size, 0, none⟩) (by show w13.heap.size < w25.heap.size; omega)).trans G0R0)
  replace G1R0 := (hw26.cell (p := ⟨w13.heap.size, 1, none⟩) (fun h => by have q1 := h.1; have q2 := h.2; simp only [Zone.new] at q1 q2; omega)).trans ((hb26.cell (p := ⟨w13.heap.size, 1, none⟩) (by show w13.heap.size < w25.heap.size; omega)).trans G1R0)
  replace G2R0 := (hw26.cell (p := ⟨w13.heap.size, 2, none⟩) (fun h => by have q1 := h.1; have q2 := h.2; simp only [Zone.new] at q1 q2; omega)).trans ((hb26.cell (p := ⟨w13.heap.size, 2, none⟩) (by show w13.heap.size < w25.heap.size; omega)).trans G2R0)
  replace G3R0 := (hw26.cell (p := ⟨w13.heap.size, 3, none⟩) (fun h => by have q1 := h.1; have q2 := h.2; simp only [Zone.new] at q1 q2; omega)).trans ((hb26.cell (p := ⟨w13.heap.size, 3, none⟩) (by show w13.heap.size < w25.heap.size; omega)).trans G3R0)
  replace G4R0 := (hw26.cell (p := ⟨w13.heap.size, 4, none⟩) (fun h => by have q1 := h.1; have q2 := h.2; simp only [Zone.new] at q1 q2; omega)).trans ((hb26.cell (p := ⟨w13.heap.size, 4, none⟩) (by show w13.heap.size < w25.heap.size; omega)).trans G4R0)
  replace G5R0 := (hw26.cell (p := ⟨w13.heap.size, 5, none⟩) (fun h => by have q1 := h.1; have q2 := h.2; simp only [Zone.new] at q1 q2; omega)).trans ((hb26.cell (p := ⟨w13.heap.size, 5, none⟩) (by show w13.heap.size < w25.heap.size; omega)).trans G5R0)
  have s26 : w25.heap.size ≤ w26.heap.size := by omega
  clear hw26 hb26
  obtain ⟨m1, em1⟩ : ∃ t : Int, t = 1 + (offs res0 res0.length : Int) := ⟨_, rfl⟩
  rw [← em1]
  have gm1a : 0 ≤ m1 ∧ m1 ≤ 1048577 := by omega
  have Em1 := Lib.hid em1; clear em1; obtain ⟨gm1a, gm1b⟩ := gm1a
  go_wp2_with fail
  have hh27 := heldSystemA_c w26 MR0 _ _ _ _ rmG0 (by omega) (by have := Em1.out; omega)
  rw [← Em1.out] at hh27
  refine Calls.mono hh27 ?_
  rintro e w27 ⟨rv27, rfl, rfl, hd27⟩
  clear hh27
  have b27 : Below w26.heap.size w26 w27 := hd27
  have B27 : Below w.heap.size w w27 := B26.trans (b27.mono B26.size)
  have s27 : w26.heap.size ≤ w27.heap.size := b27.size
  replace rS0 := stable_rows.below rS0 b27
  replace rmG0 := stable_rows.below rmG0 b27
  replace q0X := (b27.cell (p := ⟨w.heap.size, 0, none⟩) (by show w.heap.size < w26.heap.size; omega)).trans q0X
  replace q1X := (b27.cell (p := ⟨w.heap.size, 1, none⟩) (by show w.heap.size < w26.heap.size; omega)).trans q1X
  replace q2X := (b27.cell (p := ⟨w.heap.size, 2, none⟩) (by show w.heap.size < w26.heap.size; omega)).trans q2X
  replace q3X := (b27.cell (p := ⟨w.heap.size, 3, none⟩) (by show w.heap.size < w26.heap.size; omega)).trans q3X
  replace q4X := (b27.cell (p := ⟨w.heap.size, 4, none⟩) (by show w.heap.size < w26.heap.size; omega)).trans q4X
  replace q5X := (b27.cell (p := ⟨w.heap.size, 5, none⟩) (by show w.heap.size < w26.heap.size; omega)).trans q5X
  replace S0R0 := (b27.cell (p := ⟨w7.heap.size, 0, none⟩) (by show w7.heap.size < w26.heap.size; omega)).trans S0R0
  replace S1R0 := (b27.cell (p := ⟨w7.heap.size, 1, none⟩) (by show w7.heap.size < w26.heap.size; omega)).trans S1R0
  replace S2R0 := (b27.cell (p := ⟨w7.heap.size, 2, none⟩) (by show w7.heap.size < w26.heap.size; omega)).trans S2R0
  replace S3R0 := (b27.cell (p := ⟨w7.heap.size, 3, none⟩) (by show w7.heap.size < w26.heap.size; omega)).trans S3R0
  replace S4R0 := (b27.cell (p := ⟨w7.heap.size, 4, none⟩) (by show w7.heap.size < w26.heap.size; omega)).trans S4R0
  replace S5R0 := (b27.cell (p := ⟨w7.heap.size, 5, none⟩) (by show w7.heap.size < w26.heap.size; omega)).trans S5R0
  replace G0R0 := (b27.cell (p := ⟨w13.heap.size, 0, none⟩) (by show w13.heap.size < w26.heap.size; omega)).trans G0R0
  replace G1R0 := (b27.cell (p := ⟨w13.heap.size, 1, none⟩) (by show w13.heap.size < w26.heap.size; omega)).trans G1R0
  replace G2R0 := (b27.cell (p := ⟨w13.heap.size, 2, none⟩) (by show w13.heap.size < w26.heap.size; omega)).trans G2R0
  replace G3R0 := (b27.cell (p := ⟨w13.heap.size, 3, none⟩) (by show w13.heap.size < w26.heap.size; omega)).trans G3R0
  replace G4R0 := (b27.cell (p := ⟨w13.heap.size, 4, none⟩) (by show w13.heap.size < w26.heap.size; omega)).trans G4R0
  replace G5R0 := (b27.cell (p := ⟨w13.heap.size, 5, none⟩) (by show w13.heap.size < w26.heap.size; omega)).trans G5R0
  go_wp2_with fail
  refine Calls.mono (toSystemA_c w27 MX _ _ X (stable_rows.below hX B27) lbX) ?_
  rintro e w28 ⟨rvyX, rfl, ⟨uyX, rfl, ryX⟩, bb28⟩
  have b28 : Below w27.heap.size w27 w28 := bb28
  have B28 : Below w.heap.size w w28 := B27.trans (b28.mono B27.size)
  have s28 : w27.heap.size ≤ w28.heap.size := b28.size
  replace rS0 := stable_rows.below rS0 b28
  replace rmG0 := stable_rows.below rmG0 b28
  replace q0X := (b28.cell (p := ⟨w.heap.size, 0, none⟩) (by show w.heap.size < w27.heap.size; omega)).trans q0X
  replace q1X := (b28.cell (p := ⟨w.heap.size, 1, none⟩) (by show w.heap.size < w27.heap.size; omega)).trans q1X
  replace q2X := (b28.cell (p := ⟨w.heap.size, 2, none⟩) (by show w.heap.size < w27.heap.size; omega)).trans q2X
  replace q3X := (b28.cell (p := ⟨w.heap.size, 3, none⟩) (by show w.heap.size < w27.heap.size; omega)).trans q3X
  replace q4X := (b28.cell (p := ⟨w.heap.size, 4, none⟩) (by show w.heap.size < w27.heap.size; omega)).trans q4X
  replace q5X := (b28.cell (p := ⟨w.heap.size, 5, none⟩) (by show w.heap.size < w27.heap.size; omega)).trans q5X
  replace S0R0 := (b28.cell (p := ⟨w7.heap.size, 0, none⟩) (by show w7.heap.size < w27.heap.size; omega)).trans S0R0
  replace S1R0 := (b28.cell (p := ⟨w7.heap.size, 1, none⟩) (by show w7.heap.size < w27.heap.size; omega)).trans S1R0
  replace S2R0 := (b28.cell (p := ⟨w7.heap.size, 2, none⟩) (by show w7.heap.size < w27.heap.size; omega)).trans S2R0
  replace S3R0 := (b28.cell (p := ⟨w7.heap.size, 3, none⟩) (by show w7.heap.size < w27.heap.size; omega)).trans S3R0
  replace S4R0 := (b28.cell (p := ⟨w7.heap.size, 4, none⟩) (by show w7.heap.size < w27.heap.size; omega)).trans S4R0
  replace S5R0 := (b28.cell (p := ⟨w7.heap.size, 5, none⟩) (by show w7.heap.size < w27.heap.size; omega)).trans S5R0
  replace G0R0 := (b28.cell (p := ⟨w13.heap.size, 0, none⟩) (by show w13.heap.size < w27.heap.size; omega)).trans G0R0
  replace G1R0 := (b28.cell (p := ⟨w13.heap.size, 1, none⟩) (by show w13.heap.size < w27.heap.size; omega)).trans G1R0
  replace G2R0 := (b28.cell (p := ⟨w13.heap.size, 2, none⟩) (by show w13.heap.size < w27.heap.size; omega)).trans G2R0
  replace G3R0 := (b28.cell (p := ⟨w13.heap.size, 3, none⟩) (by show w13.heap.size < w27.heap.size; omega)).trans G3R0
  replace G4R0 := (b28.cell (p := ⟨w13.heap.size, 4, none⟩) (by show w13.heap.size < w27.heap.size; omega)).trans G4R0
  replace G5R0 := (b28.cell (p := ⟨w13.heap.size, 5, none⟩) (by show w13.heap.size < w27.heap.size; omega)).trans G5R0
  obtain ⟨ayX, nyX, kyX, rfl, -⟩ := SliceR.shape ryX
  go_wp2_with fail
  refine Calls.mono (toInt64SS_c w28 _ _ cuts (stable_rows.below hcuts B28) lbcuts) ?_
  rintro e w29 ⟨uycuts, rfl, rycuts, bb29⟩
  have b29 : Below w28.heap.size w28 w29 := bb29
  have B29 : Below w.heap.size w w29 := B28.trans (b29.mono B28.size)
  have s29 : w28.heap.size ≤ w29.heap.size := b29.size
  replace rS0 := stable_rows.below rS0 b29
  replace rmG0 := stable_rows.below rmG0 b29
  replace ryX := stable_rows.below ryX b29
  replace q0X := (b29.cell (p := ⟨w.heap.size, 0, none⟩) (by show w.heap.size < w28.heap.size; omega)).trans q0X
  replace q1X := (b29.cell (p := ⟨w.heap.size, 1, none⟩) (by show w.heap.size < w28.heap.size; omega)).trans q1X
  replace q2X := (b29.cell (p := ⟨w.heap.size, 2, none⟩) (by show w.heap.size < w28.heap.size; omega)).trans q2X
  replace q3X := (b29.cell (p := ⟨w.heap.size, 3, none⟩) (by show w.heap.size < w28.heap.size; omega)).trans q3X
  replace q4X := (b29.cell (p := ⟨w.heap.size, 4, none⟩) (by show w.heap.size < w28.heap.size; omega)).trans q4X
  replace q5X := (b29.cell (p := ⟨w.heap.size, 5, none⟩) (by show w.heap.size < w28.heap.size; omega)).trans q5X
  replace S0R0 := (b29.cell (p := ⟨w7.heap.size, 0, none⟩) (by show w7.heap.size < w28.heap.size; omega)).trans S0R0
  replace S1R0 := (b29.cell (p := ⟨w7.heap.size, 1, none⟩) (by show w7.heap.size < w28.heap.size; omega)).trans S1R0
  replace S2R0 := (b29.cell (p := ⟨w7.heap.size, 2, none⟩) (by show w7.heap.size < w28.heap.size; omega)).trans S2R0
  replace S3R0 := (b29.cell (p := ⟨w7.heap.size, 3, none⟩) (by show w7.heap.size < w28.heap.size; omega)).trans S3R0
  replace S4R0 := (b29.cell (p := ⟨w7.heap.size, 4, none⟩) (by show w7.heap.size < w28.heap.size; omega)).trans S4R0
  replace S5R0 := (b29.cell (p := ⟨w7.heap.size, 5, none⟩) (by show w7.heap.size < w28.heap.size; omega)).trans S5R0
  replace G0R0 := (b29.cell (p := ⟨w13.heap.size, 0, none⟩) (by show w13.heap.size < w28.heap.size; omega)).trans G0R0
  replace G1R0 := (b29.cell (p := ⟨w13.heap.size, 1, none⟩) (by show w13.heap.size < w28.heap.size; omega)).trans G1R0
  replace G2R0 := (b29.cell (p := ⟨w13.heap.size, 2, none⟩) (by show w13.heap.size < w28.heap.size; omega)).trans G2R0
  replace G3R0 := (b29.cell (p := ⟨w13.heap.size, 3, none⟩) (by show w13.heap.size < w28.heap.size; omega)).trans G3R0
  replace G4R0 := (b29.cell (p := ⟨w13.heap.size, 4, none⟩) (by show w13.heap.size < w28.heap.size; omega)).trans G4R0
  replace G5R0 := (b29.cell (p := ⟨w13.heap.size, 5, none⟩) (by show w13.heap.size < w28.heap.size; omega)).trans G5R0
  go_wp2_with fail
  refine Calls.mono (toInt64S_c w29 _ _ col (stable_ints.below hcol B29) hlcol) ?_
  rintro e w30 ⟨uycol, rfl, rycol, bb30⟩
  have b30 : Below w29.heap.size w29 w30 := bb30
  have B30 : Below w.heap.size w w30 := B29.trans (b30.mono B29.size)
  have s30 : w29.heap.size ≤ w30.heap.size := b30.size
  replace rS0 := stable_rows.below rS0 b30
  replace rmG0 := stable_rows.below rmG0 b30
  replace ryX := stable_rows.below ryX b30
  replace rycuts := stable_rows.below rycuts b30
  replace q0X := (b30.cell (p := ⟨w.heap.size, 0, none⟩) (by show w.heap.size < w29.heap.size; omega)).trans q0X
  replace q1X := (b30.cell (p := ⟨w.heap.size, 1, none⟩) (by show w.heap.size < w29.heap.size; omega)).trans q1X
  replace q2X := (b30.cell (p := ⟨w.heap.size, 2, none⟩) (by show w.heap.size < w29.heap.size; omega)).trans q2X
  replace q3X := (b30.cell (p := ⟨w.heap.size, 3, none⟩) (by show w.heap.size < w29.heap.size; omega)).trans q3X
  replace q4X := (b30.cell (p := ⟨w.heap.size, 4, none⟩) (by show w.heap.size < w29.heap.size; omega)).trans q4X
  replace q5X := (b30.cell (p := ⟨w.heap.size, 5, none⟩) (by show w.heap.size < w29.heap.size; omega)).trans q5X
  replace S0R0 := (b30.cell (p := ⟨w7.heap.size, 0, none⟩) (by show w7.heap.size < w29.heap.size; omega)).trans S0R0
  replace S1R0 := (b30.cell (p := ⟨w7.heap.size, 1, none⟩) (by show w7.heap.size < w29.heap.size; omega)).trans S1R0
  replace S2R0 := (b30.cell (p := ⟨w7.heap.size, 2, none⟩) (by show w7.heap.size < w29.heap.size; omega)).trans S2R0
  replace S3R0 := (b30.cell (p := ⟨w7.heap.size, 3, none⟩) (by show w7.heap.size < w29.heap.size; omega)).trans S3R0
  replace S4R0 := (b30.cell (p := ⟨w7.heap.size, 4, none⟩) (by show w7.heap.size < w29.heap.size; omega)).trans S4R0
  replace S5R0 := (b30.cell (p := ⟨w7.heap.size, 5, none⟩) (by show w7.heap.size < w29.heap.size; omega)).trans S5R0
  replace G0R0 := (b30.cell (p := ⟨w13.heap.size, 0, none⟩) (by show w13.heap.size < w29.heap.size; omega)).trans G0R0
  replace G1R0 := (b30.cell (p := ⟨w13.heap.size, 1, none⟩) (by show w13.heap.size < w29.heap.size; omega)).trans G1R0
  replace G2R0 := (b30.cell (p := ⟨w13.heap.size, 2, none⟩) (by show w13.heap.size < w29.heap.size; omega)).trans G2R0
  replace G3R0 := (b30.cell (p := ⟨w13.heap.size, 3, none⟩) (by show w13.heap.size < w29.heap.size; omega)).trans G3R0
  replace G4R0 := (b30.cell (p := ⟨w13.heap.size, 4, none⟩) (by show w13.heap.size < w29.heap.size; omega)).trans G4R0
  replace G5R0 := (b30.cell (p := ⟨w13.heap.size, 5, none⟩) (by show w13.heap.size < w29.heap.size; omega)).trans G5R0
  go_wp2_with fail
  refine Calls.mono (CI.out w30 _ _ _ _ _ _ ryX rycuts rycol) ?_
  rintro e w31 ⟨rr31, rfl, ⟨H0, rfl, rH0⟩, bb31⟩
  have b31 : Below w30.heap.size w30 w31 := bb31
  have B31 : Below w.heap.size w w31 := B30.trans (b31.mono B30.size)
  have s31 : w30.heap.size ≤ w31.heap.size := b31.size
  replace rS0 := stable_rows.below rS0 b31
  replace rmG0 := stable_rows.below rmG0 b31
  replace ryX := stable_rows.below ryX b31
  replace rycuts := stable_rows.below rycuts b31
  replace rycol := stable_ints.below rycol b31
  replace q0X := (b31.cell (p := ⟨w.heap.size, 0, none⟩) (by show w.heap.size < w30.heap.size; omega)).trans q0X
  replace q1X := (b31.cell (p := ⟨w.heap.size, 1, none⟩) (by show w.heap.size < w30.heap.size; omega)).trans q1X
  replace q2X := (b31.cell (p := ⟨w.heap.size, 2, none⟩) (by show w.heap.size < w30.heap.size; omega)).trans q2X
  replace q3X := (b31.cell (p := ⟨w.heap.size, 3, none⟩) (by show w.heap.size < w30.heap.size; omega)).trans q3X
  replace q4X := (b31.cell (p := ⟨w.heap.size, 4, none⟩) (by show w.heap.size < w30.heap.size; omega)).trans q4X
  replace q5X := (b31.cell (p := ⟨w.heap.size, 5, none⟩) (by show w.heap.size < w30.heap.size; omega)).trans q5X
  replace S0R0 := (b31.cell (p := ⟨w7.heap.size, 0, none⟩) (by show w7.heap.size < w30.heap.size; omega)).trans S0R0
  replace S1R0 := (b31.cell (p := ⟨w7.heap.size, 1, none⟩) (by show w7.heap.size < w30.heap.size; omega)).trans S1R0
  replace S2R0 := (b31.cell (p := ⟨w7.heap.size, 2, none⟩) (by show w7.heap.size < w30.heap.size; omega)).trans S2R0
  replace S3R0 := (b31.cell (p := ⟨w7.heap.size, 3, none⟩) (by show w7.heap.size < w30.heap.size; omega)).trans S3R0
  replace S4R0 := (b31.cell (p := ⟨w7.heap.size, 4, none⟩) (by show w7.heap.size < w30.heap.size; omega)).trans S4R0
  replace S5R0 := (b31.cell (p := ⟨w7.heap.size, 5, none⟩) (by show w7.heap.size < w30.heap.size; omega)).trans S5R0
  replace G0R0 := (b31.cell (p := ⟨w13.heap.size, 0, none⟩) (by show w13.heap.size < w30.heap.size; omega)).trans G0R0
  replace G1R0 := (b31.cell (p := ⟨w13.heap.size, 1, none⟩) (by show w13.heap.size < w30.heap.size; omega)).trans G1R0
  replace G2R0 := (b31.cell (p := ⟨w13.heap.size, 2, none⟩) (by show w13.heap.size < w30.heap.size; omega)).trans G2R0
  replace G3R0 := (b31.cell (p := ⟨w13.heap.size, 3, none⟩) (by show w13.heap.size < w30.heap.size; omega)).trans G3R0
  replace G4R0 := (b31.cell (p := ⟨w13.heap.size, 4, none⟩) (by show w13.heap.size < w30.heap.size; omega)).trans G4R0
  replace G5R0 := (b31.cell (p := ⟨w13.heap.size, 5, none⟩) (by show w13.heap.size < w30.heap.size; omega)).trans G5R0
  obtain ⟨aH0, nH0, kH0, rfl, -⟩ := SliceR.shape rH0
  have zl0 : w.heap.size < w31.heap.size := by omega
  have zm0 := Nat.ne_of_lt zl0; have zn0 := Nat.ne_of_gt zl0
  have zl1 : w13.heap.size < w31.heap.size := by omega
  have zm1 := Nat.ne_of_lt zl1; have zn1 := Nat.ne_of_gt zl1
  have zl2 : w7.heap.size < w31.heap.size := by omega
  have zm2 := Nat.ne_of_lt zl2; have zn2 := Nat.ne_of_gt zl2
  go_wp2_with fail
  clear zl0 zm0 zn0
  clear zl1 zm1 zn1
  clear zl2 zm2 zn2
  generalize hwb32 : World.alloc _ _ = w32
  have b32 : Below w31.heap.size w31 w32 := by rw [← hwb32]; exact (Below.refl _ _).alloc (Nat.le_refl _) _
  have s32 : w31.heap.size < w32.heap.size := by rw [← hwb32]; simp
  have H0R0 : w32.cell? ⟨w31.heap.size, 0, none⟩ = some (.int .i64 MR0.c) := by rw [← hwb32]; clear hwb32; go_simp
  have H1R0 : w32.cell? ⟨w31.heap.size, 1, none⟩ = some (.int .i64 MR0.d) := by rw [← hwb32]; clear hwb32; go_simp
  have H2R0 : w32.cell? ⟨w31.heap.size, 2, none⟩ = some (.int .i64 MR0.s) := by rw [← hwb32]; clear hwb32; go_simp
  have H3R0 : w32.cell? ⟨w31.heap.size, 3, none⟩ = some (.int .i64 MR0.m) := by rw [← hwb32]; clear hwb32; go_simp
  have H4R0 : w32.cell? ⟨w31.heap.size, 4, none⟩ = some (.int .i64 MR0.l) := by rw [← hwb32]; clear hwb32; go_simp
  have H5R0 : w32.cell? ⟨w31.heap.size, 5, none⟩ = some (.slice aH0 nH0 kH0) := by rw [← hwb32]; clear hwb32; go_simp
  clear hwb32
  have B32 : Below w.heap.size w w32 := B31.trans (b32.mono B31.size)
  replace rS0 := stable_rows.below rS0 b32
  replace rmG0 := stable_rows.below rmG0 b32
  replace ryX := stable_rows.below ryX b32
  replace rycuts := stable_rows.below rycuts b32
  replace rycol := stable_ints.below rycol b32
  replace rH0 := stable_rows.below rH0 b32
  replace q0X := (b32.cell (p := ⟨w.heap.size, 0, none⟩) (by show w.heap.size < w31.heap.size; omega)).trans q0X
  replace q1X := (b32.cell (p := ⟨w.heap.size, 1, none⟩) (by show w.heap.size < w31.heap.size; omega)).trans q1X
  replace q2X := (b32.cell (p := ⟨w.heap.size, 2, none⟩) (by show w.heap.size < w31.heap.size; omega)).trans q2X
  replace q3X := (b32.cell (p := ⟨w.heap.size, 3, none⟩) (by show w.heap.size < w31.heap.size; omega)).trans q3X
  replace q4X := (b32.cell (p := ⟨w.heap.size, 4, none⟩) (by show w.heap.size < w31.heap.size; omega)).trans q4X
  replace q5X := (b32.cell (p := ⟨w.heap.size, 5, none⟩) (by show w.heap.size < w31.heap.size; omega)).trans q5X
  replace S0R0 := (b32.cell (p := ⟨w7.heap.size, 0, none⟩) (by show w7.heap.size < w31.heap.size; omega)).trans S0R0
  replace S1R0 := (b32.cell (p := ⟨w7.heap.size, 1, none⟩) (by show w7.heap.size < w31.heap.size; omega)).trans S1R0
  replace S2R0 := (b32.cell (p := ⟨w7.heap.size, 2, none⟩) (by show w7.heap.size < w31.heap.size; omega)).trans S2R0
  replace S3R0 := (b32.cell (p := ⟨w7.heap.size, 3, none⟩) (by show w7.heap.size < w31.heap.size; omega)).trans S3R0
  replace S4R0 := (b32.cell (p := ⟨w7.heap.size, 4, none⟩) (by show w7.heap.size < w31.heap.size; omega)).trans S4R0
  replace S5R0 := (b32.cell (p := ⟨w7.heap.size, 5, none⟩) (by show w7.heap.size < w31.heap.size; omega)).trans S5R0
  replace G0R0 := (b32.cell (p := ⟨w13.heap.size, 0, none⟩) (by show w13.heap.size < w31.heap.size; omega)).trans G0R0
  replace G1R0 := (b32.cell (p := ⟨w13.heap.size, 1, none⟩) (by show w13.heap.size < w31.heap.size; omega)).trans G1R0
  replace G2R0 := (b32.cell (p := ⟨w13.heap.size, 2, none⟩) (by show w13.heap.size < w31.heap.size; omega)).trans G2R0
  replace G3R0 := (b32.cell (p := ⟨w13.heap.size, 3, none⟩) (by show w13.heap.size < w31.heap.size; omega)).trans G3R0
  replace G4R0 := (b32.cell (p := ⟨w13.heap.size, 4, none⟩) (by show w13.heap.size < w31.heap.size; omega)).trans G4R0
  replace G5R0 := (b32.cell (p := ⟨w13.heap.size, 5, none⟩) (by show w13.heap.size < w31.heap.size; omega)).trans G5R0
  clear ryX
  clear rycuts
  clear rycol
  refine Calls.mono (eqSystemA_c w32 _ _ _ _ _ res0 rH0 rS0) ?_
  rintro e w33 ⟨rv33, rfl, rfl, hd33⟩
  have b33 : Below w32.heap.size w32 w33 := hd33
  have B33 : Below w.heap.size w w33 := B32.trans (b33.mono B32.size)
  have s33 : w32.heap.size ≤ w33.heap.size := b33.size
  replace rS0 := stable_rows.below rS0 b33
  replace rmG0 := stable_rows.below rmG0 b33
  replace rH0 := stable_rows.below rH0 b33
  replace q0X := (b33.cell (p := ⟨w.heap.size, 0, none⟩) (by show w.heap.size < w32.heap.size; omega)).trans q0X
  replace q1X := (b33.cell (p := ⟨w.heap.size, 1, none⟩) (by show w.heap.size < w32.heap.size; omega)).trans q1X
  replace q2X := (b33.cell (p := ⟨w.heap.size, 2, none⟩) (by show w.heap.size < w32.heap.size; omega)).trans q2X
  replace q3X := (b33.cell (p := ⟨w.heap.size, 3, none⟩) (by show w.heap.size < w32.heap.size; omega)).trans q3X
  replace q4X := (b33.cell (p := ⟨w.heap.size, 4, none⟩) (by show w.heap.size < w32.heap.size; omega)).trans q4X
  replace q5X := (b33.cell (p := ⟨w.heap.size, 5, none⟩) (by show w.heap.size < w32.heap.size; omega)).trans q5X
  replace S0R0 := (b33.cell (p := ⟨w7.heap.size, 0, none⟩) (by show w7.heap.size < w32.heap.size; omega)).trans S0R0
  replace S1R0 := (b33.cell (p := ⟨w7.heap.size, 1, none⟩) (by show w7.heap.size < w32.heap.size; omega)).trans S1R0
  replace S2R0 := (b33.cell (p := ⟨w7.heap.size, 2, none⟩) (by show w7.heap.size < w32.heap.size; omega)).trans S2R0
  replace S3R0 := (b33.cell (p := ⟨w7.heap.size, 3, none⟩) (by show w7.heap.size < w32.heap.size; omega)).trans S3R0
  replace S4R0 := (b33.cell (p := ⟨w7.heap.size, 4, none⟩) (by show w7.heap.size < w32.heap.size; omega)).trans S4R0
  replace S5R0 := (b33.cell (p := ⟨w7.heap.size, 5, none⟩) (by show w7.heap.size < w32.heap.size; omega)).trans S5R0
  replace G0R0 := (b33.cell (p := ⟨w13.heap.size, 0, none⟩) (by show w13.heap.size < w32.heap.size; omega)).trans G0R0
  replace G1R0 := (b33.cell (p := ⟨w13.heap.size, 1, none⟩) (by show w13.heap.size < w32.heap.size; omega)).trans G1R0
  replace G2R0 := (b33.cell (p := ⟨w13.heap.size, 2, none⟩) (by show w13.heap.size < w32.heap.size; omega)).trans G2R0
  replace G3R0 := (b33.cell (p := ⟨w13.heap.size, 3, none⟩) (by show w13.heap.size < w32.heap.size; omega)).trans G3R0
  replace G4R0 := (b33.cell (p := ⟨w13.heap.size, 4, none⟩) (by show w13.heap.size < w32.heap.size; omega)).trans G4R0
  replace G5R0 := (b33.cell (p := ⟨w13.heap.size, 5, none⟩) (by show w13.heap.size < w32.heap.size; omega)).trans G5R0
  replace H0R0 := (b33.cell (p := ⟨w31.heap.size, 0, none⟩) (by show w31.heap.size < w32.heap.size; omega)).trans H0R0
  replace H1R0 := (b33.cell (p := ⟨w31.heap.size, 1, none⟩) (by show w31.heap.size < w32.heap.size; omega)).trans H1R0
  replace H2R0 := (b33.cell (p := ⟨w31.heap.size, 2, none⟩) (by show w31.heap.size < w32.heap.size; omega)).trans H2R0
  replace H3R0 := (b33.cell (p := ⟨w31.heap.size, 3, none⟩) (by show w31.heap.size < w32.heap.size; omega)).trans H3R0
  replace H4R0 := (b33.cell (p := ⟨w31.heap.size, 4, none⟩) (by show w31.heap.size < w32.heap.size; omega)).trans H4R0
  replace H5R0 := (b33.cell (p := ⟨w31.heap.size, 5, none⟩) (by show w31.heap.size < w32.heap.size; omega)).trans H5R0
  go_wp2_with fail
  have hh34 := heldSystemA_c w33 MR0 _ _ _ _ rmG0 (by omega) (by have := Em1.out; omega)
  rw [← Em1.out] at hh34
  refine Calls.mono hh34 ?_
  rintro e w34 ⟨rv34, rfl, rfl, hd34⟩
  clear hh34
  have b34 : Below w33.heap.size w33 w34 := hd34
  have B34 : Below w.heap.size w w34 := B33.trans (b34.mono B33.size)
  have s34 : w33.heap.size ≤ w34.heap.size := b34.size
  replace rS0 := stable_rows.below rS0 b34
  replace rmG0 := stable_rows.below rmG0 b34
  replace rH0 := stable_rows.below rH0 b34
  replace q0X := (b34.cell (p := ⟨w.heap.size, 0, none⟩) (by show w.heap.size < w33.heap.size; omega)).trans q0X
  replace q1X := (b34.cell (p := ⟨w.heap.size, 1, none⟩) (by show w.heap.size < w33.heap.size; omega)).trans q1X
  replace q2X := (b34.cell (p := ⟨w.heap.size, 2, none⟩) (by show w.heap.size < w33.heap.size; omega)).trans q2X
  replace q3X := (b34.cell (p := ⟨w.heap.size, 3, none⟩) (by show w.heap.size < w33.heap.size; omega)).trans q3X
  replace q4X := (b34.cell (p := ⟨w.heap.size, 4, none⟩) (by show w.heap.size < w33.heap.size; omega)).trans q4X
  replace q5X := (b34.cell (p := ⟨w.heap.size, 5, none⟩) (by show w.heap.size < w33.heap.size; omega)).trans q5X
  replace S0R0 := (b34.cell (p := ⟨w7.heap.size, 0, none⟩) (by show w7.heap.size < w33.heap.size; omega)).trans S0R0
  replace S1R0 := (b34.cell (p := ⟨w7.heap.size, 1, none⟩) (by show w7.heap.size < w33.heap.size; omega)).trans S1R0
  replace S2R0 := (b34.cell (p := ⟨w7.heap.size, 2, none⟩) (by show w7.heap.size < w33.heap.size; omega)).trans S2R0
  replace S3R0 := (b34.cell (p := ⟨w7.heap.size, 3, none⟩) (by show w7.heap.size < w33.heap.size; omega)).trans S3R0
  replace S4R0 := (b34.cell (p := ⟨w7.heap.size, 4, none⟩) (by show w7.heap.size < w33.heap.size; omega)).trans S4R0
  replace S5R0 := (b34.cell (p := ⟨w7.heap.size, 5, none⟩) (by show w7.heap.size < w33.heap.size; omega)).trans S5R0
  replace G0R0 := (b34.cell (p := ⟨w13.heap.size, 0, none⟩) (by show w13.heap.size < w33.heap.size; omega)).trans G0R0
  replace G1R0 := (b34.cell (p := ⟨w13.heap.size, 1, none⟩) (by show w13.heap.size < w33.heap.size; omega)).trans G1R0
  replace G2R0 := (b34.cell (p := ⟨w13.heap.size, 2, none⟩) (by show w13.heap.size < w33.heap.size; omega)).trans G2R0
  replace G3R0 := (b34.cell (p := ⟨w13.heap.size, 3, none⟩) (by show w13.heap.size < w33.heap.size; omega)).trans G3R0
  replace G4R0 := (b34.cell (p := ⟨w13.heap.size, 4, none⟩) (by show w13.heap.size < w33.heap.size; omega)).trans G4R0
  replace G5R0 := (b34.cell (p := ⟨w13.heap.size, 5, none⟩) (by show w13.heap.size < w33.heap.size; omega)).trans G5R0
  replace H0R0 := (b34.cell (p := ⟨w31.heap.size, 0, none⟩) (by show w31.heap.size < w33.heap.size; omega)).trans H0R0
  replace H1R0 := (b34.cell (p := ⟨w31.heap.size, 1, none⟩) (by show w31.heap.size < w33.heap.size; omega)).trans H1R0
  replace H2R0 := (b34.cell (p := ⟨w31.heap.size, 2, none⟩) (by show w31.heap.size < w33.heap.size; omega)).trans H2R0
  replace H3R0 := (b34.cell (p := ⟨w31.heap.size, 3, none⟩) (by show w31.heap.size < w33.heap.size; omega)).trans H3R0
  replace H4R0 := (b34.cell (p := ⟨w31.heap.size, 4, none⟩) (by show w31.heap.size < w33.heap.size; omega)).trans H4R0
  replace H5R0 := (b34.cell (p := ⟨w31.heap.size, 5, none⟩) (by show w31.heap.size < w33.heap.size; omega)).trans H5R0
  go_wp2_with fail
  go_ret
  exact ⟨_, rfl, rfl, B34⟩


/-! ### the row -/
theorem own : ownKnob Try.prog.godebug = none := by kernel_rfl
theorem laidOut : laidOutB Try.prog = true := by kernel_rfl
set_option maxRecDepth 100000 in
theorem lifted (os : Os) (started : os.Started) (H : Type) (enc : TypeId × Value → H) :
    ReturnsInHanded {} Try.checked os 6 .any (Rows.fnExactAddDoorSpec.pre6 enc Try.prog Try.f6 Rows.fnExactAddDoorRow.domain false) (Rows.fnExactAddDoorSpec.post enc Try.prog Try.f6 false true false false) := by
  refine returnsInHanded_of_change (C := Try.checked) own started (by kernel_rfl) Try.func6
    (ChangeSpec.witness6 (enc := enc) (C := Try.checked) false ⟨#[], #[.agg #[.int .i64 0, .int .i64 0, .int .i64 0, .int .i64 0, .int .i64 0, .slice none 0 0], .slice none 0 0, .slice none 0 0], []⟩ 8 (by kernel_rfl) (by kernel_rfl) (by kernel_rfl) (by kernel_rfl)) ?_
  intro W base args ds gs before hval0 hW hcnd _
  have hval : ∀ (j : Nat) t v, Try.f6.params[j]? = some t → args[j]? = some v → Value.okWide Try.prog W .any base t v := hval0
  have hW' := hW
  obtain ⟨p, q, hA0, hV, rfl, hfz, hnd⟩ := hW
  have hA : DataW.TrodAll enc Try.prog W 0 (fun _ => true) true Try.f6.params.toList args.toList ds p := hA0
  rw [Try.params6] at hA hval
  obtain ⟨v0, vs0, d0, ds0, p0, q0, hargs, rfl, rfl, h0, r0⟩ := trodAll_cons hA
  obtain ⟨v1, vs1, d1, ds1, p1, q1, rfl, rfl, rfl, h1, r1⟩ := trodAll_cons r0
  obtain ⟨v2, vs2, d2, ds2, p2, q2, rfl, rfl, rfl, h2, r2⟩ := trodAll_cons r1
  obtain ⟨rfl, rfl, rfl⟩ := trodAll_nil r2
  obtain rfl : args = #[v0, v1, v2] := by cases args; simp_all
  obtain ⟨rfl, rfl⟩ := trodVars_none hV
  have k0 := h0
  have lt0 : ∀ x ∈ p0, x.block < W.heap.size := by obtain ⟨m, hm⟩ := k0; exact DataW.trod_lt m _ _ _ hm
  obtain ⟨M0, u0, y0, m0, rfl, hw0, hu0⟩ := open_sys Try.underlying26 Try.underlying23 (by kernel_rfl) (by kernel_rfl) (by kernel_rfl) rfl rfl ⟨rfl, by kernel_rfl, Try.underlying2⟩ ⟨rfl, by kernel_rfl, Try.underlying2⟩ ⟨rfl, by kernel_rfl, Try.underlying2⟩ ⟨rfl, by kernel_rfl, Try.underlying2⟩ ⟨rfl, by kernel_rfl, Try.underlying2⟩ (hval 0 26 v0 rfl rfl) h0
  obtain ⟨x0, b0⟩ := open_RowsR Try.underlying24 Try.underlying27 Try.underlying2 (by kernel_rfl) (by kernel_rfl) hu0
  have k1 := h1
  have lt1 : ∀ x ∈ p1, x.block < W.heap.size := by obtain ⟨m, hm⟩ := k1; exact DataW.trod_lt m _ _ _ hm
  obtain ⟨a1, len1, cap1, rfl⟩ := okWide_slice Try.underlying24 (hval 1 24 v1 rfl rfl)
  obtain ⟨x1, w1⟩ : ∃ xs, RowsR (.old W) W (.slice a1 len1 cap1) xs := by obtain ⟨fuel, hf⟩ := h1; exact open_RowsR Try.underlying24 Try.underlying27 Try.underlying2 (by kernel_rfl) (by kernel_rfl) hf
  have k2 := h2
  have lt2 : ∀ x ∈ p2, x.block < W.heap.size := by obtain ⟨m, hm⟩ := k2; exact DataW.trod_lt m _ _ _ hm
  obtain ⟨a2, len2, cap2, rfl⟩ := okWide_slice Try.underlying27 (hval 2 27 v2 rfl rfl)
  obtain ⟨x2, w2⟩ : ∃ xs, IntsR (.old W) W (.slice a2 len2 cap2) xs := by obtain ⟨fuel, hf⟩ := h2; exact open_IntsR Try.underlying27 Try.underlying2 (by kernel_rfl) hf
  clear hA0 hval0
  refine (walk W M0 _ x0 b0 _ x1 w1 _ x2 w2).mono fun e W' hret => ?_
  obtain ⟨r, rfl, rfl, bel⟩ := hret
  exact ⟨_, rfl, _, _, _, [], _, [], hW', trodAll_mk1 (shut_bool Try.underlying4 _), (trodAll_cons_mk (Below.trod laidOut (by kernel_rfl) (of_decide_eq_true (by kernel_rfl)) k0 bel lt0) (trodAll_cons_mk (Below.trod laidOut (by kernel_rfl) (of_decide_eq_true (by kernel_rfl)) k1 bel lt1) (trodAll_cons_mk (Below.trod laidOut (by kernel_rfl) (of_decide_eq_true (by kernel_rfl)) k2 bel lt2) trodAll_mk0))), rfl, bel.frame _, fun h => by cases h⟩

theorem over : Rows.fnExactAddDoorRow.holds Try.pinned (OpenSpec.ofChange Rows.fnExactAddDoorSpec) :=
  OpenClaim.holds_of_wide 6 Try.f6 rfl rfl rfl rfl rfl rfl rfl ⟨rfl, rfl, rfl, rfl, rfl⟩ rfl rfl rfl rfl rfl (by kernel_rfl) Try.func6 (by kernel_rfl)
    (of_decide_eq_true (by kernel_rfl)) (by unfold Func.isWrapper; first | (rw [if_pos (by decide +kernel)]; kernel_rfl) | (rw [if_neg (by decide +kernel)]; exact ⟨rfl, rfl⟩))
    (fun os started H enc _ => lifted os started H enc)

theorem proved : Rows.FnExactAddDoorSaid := over


end fnExactAddDoor
end Go.Proofs.Ytgagjibjnaappaa
