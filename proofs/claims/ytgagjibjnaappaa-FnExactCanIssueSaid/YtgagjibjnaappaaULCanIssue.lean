/- Proved: for every system, every list of lists, every row and every key, laws.FnExactCanIssue returns true and changes nothing that was there; no condition. -/
import Derived.Test.YtgagjibjnaappaaRows
import Derived.Deep.RegionHeld3
import Derived.Test.YtgagjibjnaappaaUOpenSys
import Derived.Test.YtgagjibjnaappaaUPkCan
import Derived.Test.YtgagjibjnaappaaULawSystem
namespace Go.Proofs.Ytgagjibjnaappaa
open Go.ChangeShapes Go.WideShapes Go.ChangeAt Go.RowKit
set_option linter.unusedVariables false
namespace fnExactCanIssue

set_option maxRecDepth 20000 in
set_option maxHeartbeats 2000000 in
theorem walk (w : World) (MX : MK) (vX : Value) (X : List (List Int)) (hX : RowsR (.old w) w vX X) (vcuts : Value) (cuts : List (List Int)) (hcuts : RowsR (.old w) w vcuts cuts) (vrow : Value) (row : List Int) (hrow : IntsR (.old w) w vrow row) (vkey : Value) (key : List Int) (hkey : IntsR (.old w) w vkey key) :
    Calls Try.prog 9 #[.agg #[.int .i64 MX.c, .int .i64 MX.d, .int .i64 MX.s, .int .i64 MX.m, .int .i64 MX.l, vX], vcuts, vrow, vkey] w (Ret w fun r _ => r = .bool true) := by
  obtain ⟨aX, nX, cX, rfl, shX, -⟩ := SliceR.shape hX
  clear shX
  obtain ⟨acuts, ncuts, ccuts, rfl, shcuts, -⟩ := SliceR.shape hcuts
  clear shcuts
  obtain ⟨arow, nrow, crow, rfl, shrow, -⟩ := SliceR.shape hrow
  have Hnrow := Lib.hid shrow; clear shrow
  obtain ⟨akey, nkey, ckey, rfl, shkey, -⟩ := SliceR.shape hkey
  have Hnkey := Lib.hid shkey; clear shkey
  rcases Nat.lt_or_ge 1048576 nrow with hlrow | hlrow
  · go_enter Try.func9, Try.ntmps9
    go_wp2_with fail
    go_ret
    exact ⟨_, rfl, rfl, (Below.refl _ _).alloc (Nat.le_refl _) _⟩
  have hlrow : row.length ≤ 1048576 := by rw [← Hnrow.out]; exact hlrow
  rcases Nat.lt_or_ge 1048576 nkey with hlkey | hlkey
  · go_enter Try.func9, Try.ntmps9
    go_wp2_with fail
    go_ret
    exact ⟨_, rfl, rfl, (Below.refl _ _).alloc (Nat.le_refl _) _⟩
  have hlkey : key.length ≤ 1048576 := by rw [← Hnkey.out]; exact hlkey
  have cS : ∀ (wq : World) (yX : Value) (zX : Zone) (ycuts : Value) (zcuts : Zone) (yrow : Value) (zrow : Zone) (ykey : Value) (zkey : Zone) (gX : RowsR zX wq yX X) (gcuts : RowsR zcuts wq ycuts cuts) (grow : IntsR zrow wq yrow row) (gkey : IntsR zkey wq ykey key), Calls Try.prog 39 #[.agg #[.int .i64 MX.c, .int .i64 MX.d, .int .i64 MX.s, .int .i64 MX.m, .int .i64 MX.l, yX], ycuts, yrow, ykey] wq (Ret wq fun r _ => r = .tuple #[.bool (canIssue MX X cuts row key).1, .int .i64 (canIssue MX X cuts row key).2]) := fun wq yX zX ycuts zcuts yrow zrow ykey zkey gX gcuts grow gkey => (fun w M v z x h u y cuts h2 v3 z3 row h3 v4 z4 key h4 => CanIssueSpec_c w M v z x h u y cuts h2 v3 z3 row h3 v4 z4 key h4) wq MX yX zX X gX ycuts zcuts cuts gcuts yrow zrow row grow ykey zkey key gkey
  have cI : ∀ (wq : World) (yX : Value) (zX : Zone) (ycuts : Value) (zcuts : Zone) (yrow : Value) (zrow : Zone) (ykey : Value) (zkey : Zone) (gX : RowsR zX wq yX X) (gcuts : RowsR zcuts wq ycuts cuts) (grow : IntsR zrow wq yrow row) (gkey : IntsR zkey wq ykey key), Calls Try.prog 40 #[.agg #[.int .i64 MX.c, .int .i64 MX.d, .int .i64 MX.s, .int .i64 MX.m, .int .i64 MX.l, yX], ycuts, yrow, ykey] wq (Ret wq fun r _ => r = .tuple #[.bool (canIssue MX X cuts row key).1, .int .i64 (canIssue MX X cuts row key).2]) := fun wq yX zX ycuts zcuts yrow zrow ykey zkey gX gcuts grow gkey => (fun w M v z x h u y cuts h2 v3 z3 row h3 v4 z4 key h4 => CanIssue_c w M v z x h u y cuts h2 v3 z3 row h3 v4 z4 key h4) wq MX yX zX X gX ycuts zcuts cuts gcuts yrow zrow row grow ykey zkey key gkey
  generalize (canIssue MX X cuts row key).1 = res0 at cS cI
  generalize (canIssue MX X cuts row key).2 = res1 at cS cI
  have CS := Lib.hid cS; have CI := Lib.hid cI; clear cS cI
  go_enter Try.func9, Try.ntmps9
  go_wp2_with fail
  generalize hwb1 : World.alloc _ _ = w1
  have b1 : Below w.heap.size w w1 := by rw [← hwb1]; exact (Below.refl _ _).alloc (Nat.le_refl _) _
  have s1 : w.heap.size < w1.heap.size := by rw [← hwb1]; simp
  have q0X : w1.cell? ⟨w.heap.size, 0, none⟩ = some (.int .i64 MX.c) := by rw [← hwb1]; clear hwb1; go_simp
  have q1X : w1.cell? ⟨w.heap.size, 1, none⟩ = some (.int .i64 MX.d) := by rw [← hwb1]; clear hwb1; go_simp
  have q2X : w1.cell? ⟨w.heap.size, 2, none⟩ = some (.int .i64 MX.s) := by rw [← hwb1]; clear hwb1; go_simp
  have q3X : w1.cell? ⟨w.heap.size, 3, none⟩ = some (.int .i64 MX.m) := by rw [← hwb1]; clear hwb1; go_simp
  have q4X : w1.cell? ⟨w.heap.size, 4, none⟩ = some (.int .i64 MX.l) := by rw [← hwb1]; clear hwb1; go_simp
  have q5X : w1.cell? ⟨w.heap.size, 5, none⟩ = some (.slice aX nX cX) := by rw [← hwb1]; clear hwb1; go_simp
  clear hwb1
  have B1 : Below w.heap.size w w1 := b1
  have szX := szSystemA_c w1 MX _ _ X 1048576 (stable_rows.below hX B1) (by omega) (by omega)
  rcases Nat.lt_or_ge (1048576 : Int).toNat (bulk X) with hbX | hbX
  · rw [szLeft_neg (by omega)] at szX
    refine Calls.mono szX ?_
    rintro e wx ⟨r, rfl, rfl, bx⟩
    go_wp2_with fail
    go_ret
    exact ⟨_, rfl, rfl, B1.trans (bx.mono B1.size)⟩
  rw [szLeft_pos (by omega)] at szX
  have lbX : bulk X ≤ 1048576 := by omega
  have lgX : (0 : Int) ≤ 1048576 - (bulk X : Int) := by omega
  have lhX : 1048576 - (bulk X : Int) ≤ 1048576 := by omega
  generalize (1048576 : Int) - (bulk X : Int) = lX at *
  refine Calls.mono szX ?_
  rintro e w2 ⟨r, rfl, rfl, hd2⟩
  clear szX
  have b2 : Below w1.heap.size w1 w2 := hd2
  have B2 : Below w.heap.size w w2 := B1.trans (b2.mono B1.size)
  have s2 : w1.heap.size ≤ w2.heap.size := b2.size
  replace q0X := (b2.cell (p := ⟨w.heap.size, 0, none⟩) (by show w.heap.size < w1.heap.size; omega)).trans q0X
  replace q1X := (b2.cell (p := ⟨w.heap.size, 1, none⟩) (by show w.heap.size < w1.heap.size; omega)).trans q1X
  replace q2X := (b2.cell (p := ⟨w.heap.size, 2, none⟩) (by show w.heap.size < w1.heap.size; omega)).trans q2X
  replace q3X := (b2.cell (p := ⟨w.heap.size, 3, none⟩) (by show w.heap.size < w1.heap.size; omega)).trans q3X
  replace q4X := (b2.cell (p := ⟨w.heap.size, 4, none⟩) (by show w.heap.size < w1.heap.size; omega)).trans q4X
  replace q5X := (b2.cell (p := ⟨w.heap.size, 5, none⟩) (by show w.heap.size < w1.heap.size; omega)).trans q5X
  have szcuts := szInt64SS_c w2 _ _ cuts lX (stable_rows.below hcuts B2) (by omega) (by omega)
  go_wp2_with fail
  rcases Nat.lt_or_ge (lX : Int).toNat (bulk cuts) with hbcuts | hbcuts
  · rw [szLeft_neg (by omega)] at szcuts
    refine Calls.mono szcuts ?_
    rintro e wx ⟨rfl, hdx⟩
    go_wp2_with fail
    go_ret
    exact ⟨_, rfl, rfl, B2.trans (hdx.below _)⟩
  rw [szLeft_pos (by omega)] at szcuts
  have lbcuts : bulk cuts ≤ 1048576 := by omega
  have lgcuts : (0 : Int) ≤ lX - (bulk cuts : Int) := by omega
  have lhcuts : lX - (bulk cuts : Int) ≤ 1048576 := by omega
  generalize (lX : Int) - (bulk cuts : Int) = lcuts at *
  refine Calls.mono szcuts ?_
  rintro e w3 ⟨rfl, hd3⟩
  clear szcuts
  have b3 : Below w2.heap.size w2 w3 := hd3.below _
  have B3 : Below w.heap.size w w3 := B2.trans (b3.mono B2.size)
  have s3 : w2.heap.size ≤ w3.heap.size := b3.size
  replace q0X := (b3.cell (p := ⟨w.heap.size, 0, none⟩) (by show w.heap.size < w2.heap.size; omega)).trans q0X
  replace q1X := (b3.cell (p := ⟨w.heap.size, 1, none⟩) (by show w.heap.size < w2.heap.size; omega)).trans q1X
  replace q2X := (b3.cell (p := ⟨w.heap.size, 2, none⟩) (by show w.heap.size < w2.heap.size; omega)).trans q2X
  replace q3X := (b3.cell (p := ⟨w.heap.size, 3, none⟩) (by show w.heap.size < w2.heap.size; omega)).trans q3X
  replace q4X := (b3.cell (p := ⟨w.heap.size, 4, none⟩) (by show w.heap.size < w2.heap.size; omega)).trans q4X
  replace q5X := (b3.cell (p := ⟨w.heap.size, 5, none⟩) (by show w.heap.size < w2.heap.size; omega)).trans q5X
  go_wp2_with fail
  refine Calls.mono (toSystemA_c w3 MX _ _ X (stable_rows.below hX B3) lbX) ?_
  rintro e w4 ⟨rvsX, rfl, ⟨usX, rfl, rsX⟩, bb4⟩
  have b4 : Below w3.heap.size w3 w4 := bb4
  have B4 : Below w.heap.size w w4 := B3.trans (b4.mono B3.size)
  have s4 : w3.heap.size ≤ w4.heap.size := b4.size
  replace q0X := (b4.cell (p := ⟨w.heap.size, 0, none⟩) (by show w.heap.size < w3.heap.size; omega)).trans q0X
  replace q1X := (b4.cell (p := ⟨w.heap.size, 1, none⟩) (by show w.heap.size < w3.heap.size; omega)).trans q1X
  replace q2X := (b4.cell (p := ⟨w.heap.size, 2, none⟩) (by show w.heap.size < w3.heap.size; omega)).trans q2X
  replace q3X := (b4.cell (p := ⟨w.heap.size, 3, none⟩) (by show w.heap.size < w3.heap.size; omega)).trans q3X
  replace q4X := (b4.cell (p := ⟨w.heap.size, 4, none⟩) (by show w.heap.size < w3.heap.size; omega)).trans q4X
  replace q5X := (b4.cell (p := ⟨w.heap.size, 5, none⟩) (by show w.heap.size < w3.heap.size; omega)).trans q5X
  obtain ⟨asX, nsX, ksX, rfl, -⟩ := SliceR.shape rsX
  go_wp2_with fail
  refine Calls.mono (toInt64SS_c w4 _ _ cuts (stable_rows.below hcuts B4) lbcuts) ?_
  rintro e w5 ⟨uscuts, rfl, rscuts, bb5⟩
  have b5 : Below w4.heap.size w4 w5 := bb5
  have B5 : Below w.heap.size w w5 := B4.trans (b5.mono B4.size)
  have s5 : w4.heap.size ≤ w5.heap.size := b5.size
  replace rsX := stable_rows.below rsX b5
  replace q0X := (b5.cell (p := ⟨w.heap.size, 0, none⟩) (by show w.heap.size < w4.heap.size; omega)).trans q0X
  replace q1X := (b5.cell (p := ⟨w.heap.size, 1, none⟩) (by show w.heap.size < w4.heap.size; omega)).trans q1X
  replace q2X := (b5.cell (p := ⟨w.heap.size, 2, none⟩) (by show w.heap.size < w4.heap.size; omega)).trans q2X
  replace q3X := (b5.cell (p := ⟨w.heap.size, 3, none⟩) (by show w.heap.size < w4.heap.size; omega)).trans q3X
  replace q4X := (b5.cell (p := ⟨w.heap.size, 4, none⟩) (by show w.heap.size < w4.heap.size; omega)).trans q4X
  replace q5X := (b5.cell (p := ⟨w.heap.size, 5, none⟩) (by show w.heap.size < w4.heap.size; omega)).trans q5X
  go_wp2_with fail
  refine Calls.mono (toInt64S_c w5 _ _ row (stable_ints.below hrow B5) hlrow) ?_
  rintro e w6 ⟨usrow, rfl, rsrow, bb6⟩
  have b6 : Below w5.heap.size w5 w6 := bb6
  have B6 : Below w.heap.size w w6 := B5.trans (b6.mono B5.size)
  have s6 : w5.heap.size ≤ w6.heap.size := b6.size
  replace rsX := stable_rows.below rsX b6
  replace rscuts := stable_rows.below rscuts b6
  replace q0X := (b6.cell (p := ⟨w.heap.size, 0, none⟩) (by show w.heap.size < w5.heap.size; omega)).trans q0X
  replace q1X := (b6.cell (p := ⟨w.heap.size, 1, none⟩) (by show w.heap.size < w5.heap.size; omega)).trans q1X
  replace q2X := (b6.cell (p := ⟨w.heap.size, 2, none⟩) (by show w.heap.size < w5.heap.size; omega)).trans q2X
  replace q3X := (b6.cell (p := ⟨w.heap.size, 3, none⟩) (by show w.heap.size < w5.heap.size; omega)).trans q3X
  replace q4X := (b6.cell (p := ⟨w.heap.size, 4, none⟩) (by show w.heap.size < w5.heap.size; omega)).trans q4X
  replace q5X := (b6.cell (p := ⟨w.heap.size, 5, none⟩) (by show w.heap.size < w5.heap.size; omega)).trans q5X
  go_wp2_with fail
  refine Calls.mono (toInt64S_c w6 _ _ key (stable_ints.below hkey B6) hlkey) ?_
  rintro e w7 ⟨uskey, rfl, rskey, bb7⟩
  have b7 : Below w6.heap.size w6 w7 := bb7
  have B7 : Below w.heap.size w w7 := B6.trans (b7.mono B6.size)
  have s7 : w6.heap.size ≤ w7.heap.size := b7.size
  replace rsX := stable_rows.below rsX b7
  replace rscuts := stable_rows.below rscuts b7
  replace rsrow := stable_ints.below rsrow b7
  replace q0X := (b7.cell (p := ⟨w.heap.size, 0, none⟩) (by show w.heap.size < w6.heap.size; omega)).trans q0X
  replace q1X := (b7.cell (p := ⟨w.heap.size, 1, none⟩) (by show w.heap.size < w6.heap.size; omega)).trans q1X
  replace q2X := (b7.cell (p := ⟨w.heap.size, 2, none⟩) (by show w.heap.size < w6.heap.size; omega)).trans q2X
  replace q3X := (b7.cell (p := ⟨w.heap.size, 3, none⟩) (by show w.heap.size < w6.heap.size; omega)).trans q3X
  replace q4X := (b7.cell (p := ⟨w.heap.size, 4, none⟩) (by show w.heap.size < w6.heap.size; omega)).trans q4X
  replace q5X := (b7.cell (p := ⟨w.heap.size, 5, none⟩) (by show w.heap.size < w6.heap.size; omega)).trans q5X
  go_wp2_with fail
  refine Calls.mono (CS.out w7 _ _ _ _ _ _ _ _ rsX rscuts rsrow rskey) ?_
  rintro e w8 ⟨rr8, rfl, rfl, bb8⟩
  have b8 : Below w7.heap.size w7 w8 := bb8
  have B8 : Below w.heap.size w w8 := B7.trans (b8.mono B7.size)
  have s8 : w7.heap.size ≤ w8.heap.size := b8.size
  replace rsX := stable_rows.below rsX b8
  replace rscuts := stable_rows.below rscuts b8
  replace rsrow := stable_ints.below rsrow b8
  replace rskey := stable_ints.below rskey b8
  replace q0X := (b8.cell (p := ⟨w.heap.size, 0, none⟩) (by show w.heap.size < w7.heap.size; omega)).trans q0X
  replace q1X := (b8.cell (p := ⟨w.heap.size, 1, none⟩) (by show w.heap.size < w7.heap.size; omega)).trans q1X
  replace q2X := (b8.cell (p := ⟨w.heap.size, 2, none⟩) (by show w.heap.size < w7.heap.size; omega)).trans q2X
  replace q3X := (b8.cell (p := ⟨w.heap.size, 3, none⟩) (by show w.heap.size < w7.heap.size; omega)).trans q3X
  replace q4X := (b8.cell (p := ⟨w.heap.size, 4, none⟩) (by show w.heap.size < w7.heap.size; omega)).trans q4X
  replace q5X := (b8.cell (p := ⟨w.heap.size, 5, none⟩) (by show w.heap.size < w7.heap.size; omega)).trans q5X
  clear rsX
  clear rscuts
  clear rsrow
  clear rskey
  go_wp2_with fail
  refine Calls.mono (toSystemA_c w8 MX _ _ X (stable_rows.below hX B8) lbX) ?_
  rintro e w9 ⟨rvxX, rfl, ⟨uxX, rfl, rxX⟩, bb9⟩
  have b9 : Below w8.heap.size w8 w9 := bb9
  have B9 : Below w.heap.size w w9 := B8.trans (b9.mono B8.size)
  have s9 : w8.heap.size ≤ w9.heap.size := b9.size
  replace q0X := (b9.cell (p := ⟨w.heap.size, 0, none⟩) (by show w.heap.size < w8.heap.size; omega)).trans q0X
  replace q1X := (b9.cell (p := ⟨w.heap.size, 1, none⟩) (by show w.heap.size < w8.heap.size; omega)).trans q1X
  replace q2X := (b9.cell (p := ⟨w.heap.size, 2, none⟩) (by show w.heap.size < w8.heap.size; omega)).trans q2X
  replace q3X := (b9.cell (p := ⟨w.heap.size, 3, none⟩) (by show w.heap.size < w8.heap.size; omega)).trans q3X
  replace q4X := (b9.cell (p := ⟨w.heap.size, 4, none⟩) (by show w.heap.size < w8.heap.size; omega)).trans q4X
  replace q5X := (b9.cell (p := ⟨w.heap.size, 5, none⟩) (by show w.heap.size < w8.heap.size; omega)).trans q5X
  obtain ⟨axX, nxX, kxX, rfl, -⟩ := SliceR.shape rxX
  go_wp2_with fail
  generalize hwb10 : World.alloc _ _ = w10
  have b10 : Below w9.heap.size w9 w10 := by rw [← hwb10]; exact (Below.refl _ _).alloc (Nat.le_refl _) _
  have s10 : w9.heap.size < w10.heap.size := by rw [← hwb10]; simp
  have p0X : w10.cell? ⟨w9.heap.size, 0, none⟩ = some (.int .i64 MX.c) := by rw [← hwb10]; clear hwb10; go_simp
  have p1X : w10.cell? ⟨w9.heap.size, 1, none⟩ = some (.int .i64 MX.d) := by rw [← hwb10]; clear hwb10; go_simp
  have p2X : w10.cell? ⟨w9.heap.size, 2, none⟩ = some (.int .i64 MX.s) := by rw [← hwb10]; clear hwb10; go_simp
  have p3X : w10.cell? ⟨w9.heap.size, 3, none⟩ = some (.int .i64 MX.m) := by rw [← hwb10]; clear hwb10; go_simp
  have p4X : w10.cell? ⟨w9.heap.size, 4, none⟩ = some (.int .i64 MX.l) := by rw [← hwb10]; clear hwb10; go_simp
  have p5X : w10.cell? ⟨w9.heap.size, 5, none⟩ = some (.slice axX nxX kxX) := by rw [← hwb10]; clear hwb10; go_simp
  clear hwb10
  have B10 : Below w.heap.size w w10 := B9.trans (b10.mono B9.size)
  replace rxX := stable_rows.below rxX b10
  replace q0X := (b10.cell (p := ⟨w.heap.size, 0, none⟩) (by show w.heap.size < w9.heap.size; omega)).trans q0X
  replace q1X := (b10.cell (p := ⟨w.heap.size, 1, none⟩) (by show w.heap.size < w9.heap.size; omega)).trans q1X
  replace q2X := (b10.cell (p := ⟨w.heap.size, 2, none⟩) (by show w.heap.size < w9.heap.size; omega)).trans q2X
  replace q3X := (b10.cell (p := ⟨w.heap.size, 3, none⟩) (by show w.heap.size < w9.heap.size; omega)).trans q3X
  replace q4X := (b10.cell (p := ⟨w.heap.size, 4, none⟩) (by show w.heap.size < w9.heap.size; omega)).trans q4X
  replace q5X := (b10.cell (p := ⟨w.heap.size, 5, none⟩) (by show w.heap.size < w9.heap.size; omega)).trans q5X
  refine Calls.mono (toInt64SS_c w10 _ _ cuts (stable_rows.below hcuts B10) lbcuts) ?_
  rintro e w11 ⟨uxcuts, rfl, rxcuts, bb11⟩
  have b11 : Below w10.heap.size w10 w11 := bb11
  have B11 : Below w.heap.size w w11 := B10.trans (b11.mono B10.size)
  have s11 : w10.heap.size ≤ w11.heap.size := b11.size
  replace rxX := stable_rows.below rxX b11
  replace q0X := (b11.cell (p := ⟨w.heap.size, 0, none⟩) (by show w.heap.size < w10.heap.size; omega)).trans q0X
  replace q1X := (b11.cell (p := ⟨w.heap.size, 1, none⟩) (by show w.heap.size < w10.heap.size; omega)).trans q1X
  replace q2X := (b11.cell (p := ⟨w.heap.size, 2, none⟩) (by show w.heap.size < w10.heap.size; omega)).trans q2X
  replace q3X := (b11.cell (p := ⟨w.heap.size, 3, none⟩) (by show w.heap.size < w10.heap.size; omega)).trans q3X
  replace q4X := (b11.cell (p := ⟨w.heap.size, 4, none⟩) (by show w.heap.size < w10.heap.size; omega)).trans q4X
  replace q5X := (b11.cell (p := ⟨w.heap.size, 5, none⟩) (by show w.heap.size < w10.heap.size; omega)).trans q5X
  replace p0X := (b11.cell (p := ⟨w9.heap.size, 0, none⟩) (by show w9.heap.size < w10.heap.size; omega)).trans p0X
  replace p1X := (b11.cell (p := ⟨w9.heap.size, 1, none⟩) (by show w9.heap.size < w10.heap.size; omega)).trans p1X
  replace p2X := (b11.cell (p := ⟨w9.heap.size, 2, none⟩) (by show w9.heap.size < w10.heap.size; omega)).trans p2X
  replace p3X := (b11.cell (p := ⟨w9.heap.size, 3, none⟩) (by show w9.heap.size < w10.heap.size; omega)).trans p3X
  replace p4X := (b11.cell (p := ⟨w9.heap.size, 4, none⟩) (by show w9.heap.size < w10.heap.size; omega)).trans p4X
  replace p5X := (b11.cell (p := ⟨w9.heap.size, 5, none⟩) (by show w9.heap.size < w10.heap.size; omega)).trans p5X
  go_wp2_with fail
  refine Calls.mono (toInt64S_c w11 _ _ row (stable_ints.below hrow B11) hlrow) ?_
  rintro e w12 ⟨uxrow, rfl, rxrow, bb12⟩
  have b12 : Below w11.heap.size w11 w12 := bb12
  have B12 : Below w.heap.size w w12 := B11.trans (b12.mono B11.size)
  have s12 : w11.heap.size ≤ w12.heap.size := b12.size
  replace rxX := stable_rows.below rxX b12
  replace rxcuts := stable_rows.below rxcuts b12
  replace q0X := (b12.cell (p := ⟨w.heap.size, 0, none⟩) (by show w.heap.size < w11.heap.size; omega)).trans q0X
  replace q1X := (b12.cell (p := ⟨w.heap.size, 1, none⟩) (by show w.heap.size < w11.heap.size; omega)).trans q1X
  replace q2X := (b12.cell (p := ⟨w.heap.size, 2, none⟩) (by show w.heap.size < w11.heap.size; omega)).trans q2X
  replace q3X := (b12.cell (p := ⟨w.heap.size, 3, none⟩) (by show w.heap.size < w11.heap.size; omega)).trans q3X
  replace q4X := (b12.cell (p := ⟨w.heap.size, 4, none⟩) (by show w.heap.size < w11.heap.size; omega)).trans q4X
  replace q5X := (b12.cell (p := ⟨w.heap.size, 5, none⟩) (by show w.heap.size < w11.heap.size; omega)).trans q5X
  replace p0X := (b12.cell (p := ⟨w9.heap.size, 0, none⟩) (by show w9.heap.size < w11.heap.size; omega)).trans p0X
  replace p1X := (b12.cell (p := ⟨w9.heap.size, 1, none⟩) (by show w9.heap.size < w11.heap.size; omega)).trans p1X
  replace p2X := (b12.cell (p := ⟨w9.heap.size, 2, none⟩) (by show w9.heap.size < w11.heap.size; omega)).trans p2X
  replace p3X := (b12.cell (p := ⟨w9.heap.size, 3, none⟩) (by show w9.heap.size < w11.heap.size; omega)).trans p3X
  replace p4X := (b12.cell (p := ⟨w9.heap.size, 4, none⟩) (by show w9.heap.size < w11.heap.size; omega)).trans p4X
  replace p5X := (b12.cell (p := ⟨w9.heap.size, 5, none⟩) (by show w9.heap.size < w11.heap.size; omega)).trans p5X
  go_wp2_with fail
  refine Calls.mono (toInt64S_c w12 _ _ key (stable_ints.below hkey B12) hlkey) ?_
  rintro e w13 ⟨uxkey, rfl, rxkey, bb13⟩
  have b13 : Below w12.heap.size w12 w13 := bb13
  have B13 : Below w.heap.size w w13 := B12.trans (b13.mono B12.size)
  have s13 : w12.heap.size ≤ w13.heap.size := b13.size
  replace rxX := stable_rows.below rxX b13
  replace rxcuts := stable_rows.below rxcuts b13
  replace rxrow := stable_ints.below rxrow b13
  replace q0X := (b13.cell (p := ⟨w.heap.size, 0, none⟩) (by show w.heap.size < w12.heap.size; omega)).trans q0X
  replace q1X := (b13.cell (p := ⟨w.heap.size, 1, none⟩) (by show w.heap.size < w12.heap.size; omega)).trans q1X
  replace q2X := (b13.cell (p := ⟨w.heap.size, 2, none⟩) (by show w.heap.size < w12.heap.size; omega)).trans q2X
  replace q3X := (b13.cell (p := ⟨w.heap.size, 3, none⟩) (by show w.heap.size < w12.heap.size; omega)).trans q3X
  replace q4X := (b13.cell (p := ⟨w.heap.size, 4, none⟩) (by show w.heap.size < w12.heap.size; omega)).trans q4X
  replace q5X := (b13.cell (p := ⟨w.heap.size, 5, none⟩) (by show w.heap.size < w12.heap.size; omega)).trans q5X
  replace p0X := (b13.cell (p := ⟨w9.heap.size, 0, none⟩) (by show w9.heap.size < w12.heap.size; omega)).trans p0X
  replace p1X := (b13.cell (p := ⟨w9.heap.size, 1, none⟩) (by show w9.heap.size < w12.heap.size; omega)).trans p1X
  replace p2X := (b13.cell (p := ⟨w9.heap.size, 2, none⟩) (by show w9.heap.size < w12.heap.size; omega)).trans p2X
  replace p3X := (b13.cell (p := ⟨w9.heap.size, 3, none⟩) (by show w9.heap.size < w12.heap.size; omega)).trans p3X
  replace p4X := (b13.cell (p := ⟨w9.heap.size, 4, none⟩) (by show w9.heap.size < w12.heap.size; omega)).trans p4X
  replace p5X := (b13.cell (p := ⟨w9.heap.size, 5, none⟩) (by show w9.heap.size < w12.heap.size; omega)).trans p5X
  go_wp2_with fail
  refine Calls.mono (CI.out w13 _ _ _ _ _ _ _ _ rxX rxcuts rxrow rxkey) ?_
  rintro e w14 ⟨rr14, rfl, rfl, bb14⟩
  have b14 : Below w13.heap.size w13 w14 := bb14
  have B14 : Below w.heap.size w w14 := B13.trans (b14.mono B13.size)
  have s14 : w13.heap.size ≤ w14.heap.size := b14.size
  replace rxX := stable_rows.below rxX b14
  replace rxcuts := stable_rows.below rxcuts b14
  replace rxrow := stable_ints.below rxrow b14
  replace rxkey := stable_ints.below rxkey b14
  replace q0X := (b14.cell (p := ⟨w.heap.size, 0, none⟩) (by show w.heap.size < w13.heap.size; omega)).trans q0X
  replace q1X := (b14.cell (p := ⟨w.heap.size, 1, none⟩) (by show w.heap.size < w13.heap.size; omega)).trans q1X
  replace q2X := (b14.cell (p := ⟨w.heap.size, 2, none⟩) (by show w.heap.size < w13.heap.size; omega)).trans q2X
  replace q3X := (b14.cell (p := ⟨w.heap.size, 3, none⟩) (by show w.heap.size < w13.heap.size; omega)).trans q3X
  replace q4X := (b14.cell (p := ⟨w.heap.size, 4, none⟩) (by show w.heap.size < w13.heap.size; omega)).trans q4X
  replace q5X := (b14.cell (p := ⟨w.heap.size, 5, none⟩) (by show w.heap.size < w13.heap.size; omega)).trans q5X
  replace p0X := (b14.cell (p := ⟨w9.heap.size, 0, none⟩) (by show w9.heap.size < w13.heap.size; omega)).trans p0X
  replace p1X := (b14.cell (p := ⟨w9.heap.size, 1, none⟩) (by show w9.heap.size < w13.heap.size; omega)).trans p1X
  replace p2X := (b14.cell (p := ⟨w9.heap.size, 2, none⟩) (by show w9.heap.size < w13.heap.size; omega)).trans p2X
  replace p3X := (b14.cell (p := ⟨w9.heap.size, 3, none⟩) (by show w9.heap.size < w13.heap.size; omega)).trans p3X
  replace p4X := (b14.cell (p := ⟨w9.heap.size, 4, none⟩) (by show w9.heap.size < w13.heap.size; omega)).trans p4X
  replace p5X := (b14.cell (p := ⟨w9.heap.size, 5, none⟩) (by show w9.heap.size < w13.heap.size; omega)).trans p5X
  have HK16 : Hid (∀ w', Below w14.heap.size w14 w' → w'.cell? ⟨w.heap.size, 0, none⟩ = some (.int .i64 MX.c) ∧ w'.cell? ⟨w.heap.size, 1, none⟩ = some (.int .i64 MX.d) ∧ w'.cell? ⟨w.heap.size, 2, none⟩ = some (.int .i64 MX.s) ∧ w'.cell? ⟨w.heap.size, 3, none⟩ = some (.int .i64 MX.m) ∧ w'.cell? ⟨w.heap.size, 4, none⟩ = some (.int .i64 MX.l) ∧ w'.cell? ⟨w.heap.size, 5, none⟩ = some (.slice aX nX cX) ∧ w'.cell? ⟨w9.heap.size, 0, none⟩ = some (.int .i64 MX.c) ∧ w'.cell? ⟨w9.heap.size, 1, none⟩ = some (.int .i64 MX.d) ∧ w'.cell? ⟨w9.heap.size, 2, none⟩ = some (.int .i64 MX.s) ∧ w'.cell? ⟨w9.heap.size, 3, none⟩ = some (.int .i64 MX.m) ∧ w'.cell? ⟨w9.heap.size, 4, none⟩ = some (.int .i64 MX.l) ∧ w'.cell? ⟨w9.heap.size, 5, none⟩ = some (.slice axX nxX kxX)) := fun w' hb => ⟨(hb.cell (by show w.heap.size < w14.heap.size; omega)).trans q0X, (hb.cell (by show w.heap.size < w14.heap.size; omega)).trans q1X, (hb.cell (by show w.heap.size < w14.heap.size; omega)).trans q2X, (hb.cell (by show w.heap.size < w14.heap.size; omega)).trans q3X, (hb.cell (by show w.heap.size < w14.heap.size; omega)).trans q4X, (hb.cell (by show w.heap.size < w14.heap.size; omega)).trans q5X, (hb.cell (by show w9.heap.size < w14.heap.size; omega)).trans p0X, (hb.cell (by show w9.heap.size < w14.heap.size; omega)).trans p1X, (hb.cell (by show w9.heap.size < w14.heap.size; omega)).trans p2X, (hb.cell (by show w9.heap.size < w14.heap.size; omega)).trans p3X, (hb.cell (by show w9.heap.size < w14.heap.size; omega)).trans p4X, (hb.cell (by show w9.heap.size < w14.heap.size; omega)).trans p5X⟩
  have HF16 := Lib.hid (stable_rows.below hX B14)
  have HX16 := Lib.hid rxX
  go_wp2_with fail
  go_region_held3 (fun w' => w'.cell? ⟨w.heap.size, 0, none⟩ = some (.int .i64 MX.c) ∧ w'.cell? ⟨w.heap.size, 1, none⟩ = some (.int .i64 MX.d) ∧ w'.cell? ⟨w.heap.size, 2, none⟩ = some (.int .i64 MX.s) ∧ w'.cell? ⟨w.heap.size, 3, none⟩ = some (.int .i64 MX.m) ∧ w'.cell? ⟨w.heap.size, 4, none⟩ = some (.int .i64 MX.l) ∧ w'.cell? ⟨w.heap.size, 5, none⟩ = some (.slice aX nX cX) ∧ w'.cell? ⟨w9.heap.size, 0, none⟩ = some (.int .i64 MX.c) ∧ w'.cell? ⟨w9.heap.size, 1, none⟩ = some (.int .i64 MX.d) ∧ w'.cell? ⟨w9.heap.size, 2, none⟩ = some (.int .i64 MX.s) ∧ w'.cell? ⟨w9.heap.size, 3, none⟩ = some (.int .i64 MX.m) ∧ w'.cell? ⟨w9.heap.size, 4, none⟩ = some (.int .i64 MX.l) ∧ w'.cell? ⟨w9.heap.size, 5, none⟩ = some (.slice axX nxX kxX)) (first | exact HK16.out _ (Below.refl _ _).drew | exact HK16.out _ ((Below.refl _ _).drew.trans bA16) | exact HK16.out _ (((Below.refl _ _).drew.trans bA16).trans (bB16.mono bA16.size)))
    (first | (go_at_call 16; refine (toSystemA_c _ _ _ _ X (stable_rows.below HF16.out (Below.refl _ _).drew) lbX).mono ?_; rintro e wA16 ⟨rv, rfl, ⟨uA16, rfl, rA16⟩, bA16⟩) | (go_at_call 20; refine (eqSystemA_c _ _ _ _ _ _ X (stable_rows.below HX16.out ((Below.refl _ _).drew.trans bA16)) rA16).mono ?_; rintro e w16 ⟨rv, rfl, rfl, bB16⟩))
  clear HK16 HF16 HX16
  have b16 : Below w14.heap.size w14 w16 := (((Below.refl _ _).drew.trans bA16).trans (bB16.mono bA16.size))
  have B16 : Below w.heap.size w w16 := B14.trans (b16.mono B14.size)
  have s16 : w14.heap.size ≤ w16.heap.size := b16.size
  replace rxX := stable_rows.below rxX b16
  replace rxcuts := stable_rows.below rxcuts b16
  replace rxrow := stable_ints.below rxrow b16
  replace rxkey := stable_ints.below rxkey b16
  replace q0X := (b16.cell (p := ⟨w.heap.size, 0, none⟩) (by show w.heap.size < w14.heap.size; omega)).trans q0X
  replace q1X := (b16.cell (p := ⟨w.heap.size, 1, none⟩) (by show w.heap.size < w14.heap.size; omega)).trans q1X
  replace q2X := (b16.cell (p := ⟨w.heap.size, 2, none⟩) (by show w.heap.size < w14.heap.size; omega)).trans q2X
  replace q3X := (b16.cell (p := ⟨w.heap.size, 3, none⟩) (by show w.heap.size < w14.heap.size; omega)).trans q3X
  replace q4X := (b16.cell (p := ⟨w.heap.size, 4, none⟩) (by show w.heap.size < w14.heap.size; omega)).trans q4X
  replace q5X := (b16.cell (p := ⟨w.heap.size, 5, none⟩) (by show w.heap.size < w14.heap.size; omega)).trans q5X
  replace p0X := (b16.cell (p := ⟨w9.heap.size, 0, none⟩) (by show w9.heap.size < w14.heap.size; omega)).trans p0X
  replace p1X := (b16.cell (p := ⟨w9.heap.size, 1, none⟩) (by show w9.heap.size < w14.heap.size; omega)).trans p1X
  replace p2X := (b16.cell (p := ⟨w9.heap.size, 2, none⟩) (by show w9.heap.size < w14.heap.size; omega)).trans p2X
  replace p3X := (b16.cell (p := ⟨w9.heap.size, 3, none⟩) (by show w9.heap.size < w14.heap.size; omega)).trans p3X
  replace p4X := (b16.cell (p := ⟨w9.heap.size, 4, none⟩) (by show w9.heap.size < w14.heap.size; omega)).trans p4X
  replace p5X := (b16.cell (p := ⟨w9.heap.size, 5, none⟩) (by show w9.heap.size < w14.heap.size; omega)).trans p5X
  go_wp2_with fail
  refine Calls.mono (toInt64SS_c w16 _ _ cuts (stable_rows.below hcuts B16) lbcuts) ?_
  rintro e w17 ⟨uccuts, rfl, rccuts, bb17⟩
  have b17 : Below w16.heap.size w16 w17 := bb17
  have B17 : Below w.heap.size w w17 := B16.trans (b17.mono B16.size)
  have s17 : w16.heap.size ≤ w17.heap.size := b17.size
  replace rxX := stable_rows.below rxX b17
  replace rxcuts := stable_rows.below rxcuts b17
  replace rxrow := stable_ints.below rxrow b17
  replace rxkey := stable_ints.below rxkey b17
  replace q0X := (b17.cell (p := ⟨w.heap.size, 0, none⟩) (by show w.heap.size < w16.heap.size; omega)).trans q0X
  replace q1X := (b17.cell (p := ⟨w.heap.size, 1, none⟩) (by show w.heap.size < w16.heap.size; omega)).trans q1X
  replace q2X := (b17.cell (p := ⟨w.heap.size, 2, none⟩) (by show w.heap.size < w16.heap.size; omega)).trans q2X
  replace q3X := (b17.cell (p := ⟨w.heap.size, 3, none⟩) (by show w.heap.size < w16.heap.size; omega)).trans q3X
  replace q4X := (b17.cell (p := ⟨w.heap.size, 4, none⟩) (by show w.heap.size < w16.heap.size; omega)).trans q4X
  replace q5X := (b17.cell (p := ⟨w.heap.size, 5, none⟩) (by show w.heap.size < w16.heap.size; omega)).trans q5X
  replace p0X := (b17.cell (p := ⟨w9.heap.size, 0, none⟩) (by show w9.heap.size < w16.heap.size; omega)).trans p0X
  replace p1X := (b17.cell (p := ⟨w9.heap.size, 1, none⟩) (by show w9.heap.size < w16.heap.size; omega)).trans p1X
  replace p2X := (b17.cell (p := ⟨w9.heap.size, 2, none⟩) (by show w9.heap.size < w16.heap.size; omega)).trans p2X
  replace p3X := (b17.cell (p := ⟨w9.heap.size, 3, none⟩) (by show w9.heap.size < w16.heap.size; omega)).trans p3X
  replace p4X := (b17.cell (p := ⟨w9.heap.size, 4, none⟩) (by show w9.heap.size < w16.heap.size; omega)).trans p4X
  replace p5X := (b17.cell (p := ⟨w9.heap.size, 5, none⟩) (by show w9.heap.size < w16.heap.size; omega)).trans p5X
  go_wp2_with fail
  refine Calls.mono (Calls.vq (eqInt64SS_c w17 _ _ _ _ cuts cuts rxcuts rccuts) (congrArg Value.bool (decide_eq_true rfl))) ?_
  rintro e w18 ⟨rfl, hd18⟩
  have b18 : Below w17.heap.size w17 w18 := hd18.below _
  have B18 : Below w.heap.size w w18 := B17.trans (b18.mono B17.size)
  have s18 : w17.heap.size ≤ w18.heap.size := b18.size
  replace rxX := stable_rows.below rxX b18
  replace rxcuts := stable_rows.below rxcuts b18
  replace rxrow := stable_ints.below rxrow b18
  replace rxkey := stable_ints.below rxkey b18
  replace rccuts := stable_rows.below rccuts b18
  replace q0X := (b18.cell (p := ⟨w.heap.size, 0, none⟩) (by show w.heap.size < w17.heap.size; omega)).trans q0X
  replace q1X := (b18.cell (p := ⟨w.heap.size, 1, none⟩) (by show w.heap.size < w17.heap.size; omega)).trans q1X
  replace q2X := (b18.cell (p := ⟨w.heap.size, 2, none⟩) (by show w.heap.size < w17.heap.size; omega)).trans q2X
  replace q3X := (b18.cell (p := ⟨w.heap.size, 3, none⟩) (by show w.heap.size < w17.heap.size; omega)).trans q3X
  replace q4X := (b18.cell (p := ⟨w.heap.size, 4, none⟩) (by show w.heap.size < w17.heap.size; omega)).trans q4X
  replace q5X := (b18.cell (p := ⟨w.heap.size, 5, none⟩) (by show w.heap.size < w17.heap.size; omega)).trans q5X
  replace p0X := (b18.cell (p := ⟨w9.heap.size, 0, none⟩) (by show w9.heap.size < w17.heap.size; omega)).trans p0X
  replace p1X := (b18.cell (p := ⟨w9.heap.size, 1, none⟩) (by show w9.heap.size < w17.heap.size; omega)).trans p1X
  replace p2X := (b18.cell (p := ⟨w9.heap.size, 2, none⟩) (by show w9.heap.size < w17.heap.size; omega)).trans p2X
  replace p3X := (b18.cell (p := ⟨w9.heap.size, 3, none⟩) (by show w9.heap.size < w17.heap.size; omega)).trans p3X
  replace p4X := (b18.cell (p := ⟨w9.heap.size, 4, none⟩) (by show w9.heap.size < w17.heap.size; omega)).trans p4X
  replace p5X := (b18.cell (p := ⟨w9.heap.size, 5, none⟩) (by show w9.heap.size < w17.heap.size; omega)).trans p5X
  clear rccuts
  go_wp2_with fail
  refine Calls.mono (toInt64S_c w18 _ _ row (stable_ints.below hrow B18) hlrow) ?_
  rintro e w19 ⟨ucrow, rfl, rcrow, bb19⟩
  have b19 : Below w18.heap.size w18 w19 := bb19
  have B19 : Below w.heap.size w w19 := B18.trans (b19.mono B18.size)
  have s19 : w18.heap.size ≤ w19.heap.size := b19.size
  replace rxX := stable_rows.below rxX b19
  replace rxcuts := stable_rows.below rxcuts b19
  replace rxrow := stable_ints.below rxrow b19
  replace rxkey := stable_ints.below rxkey b19
  replace q0X := (b19.cell (p := ⟨w.heap.size, 0, none⟩) (by show w.heap.size < w18.heap.size; omega)).trans q0X
  replace q1X := (b19.cell (p := ⟨w.heap.size, 1, none⟩) (by show w.heap.size < w18.heap.size; omega)).trans q1X
  replace q2X := (b19.cell (p := ⟨w.heap.size, 2, none⟩) (by show w.heap.size < w18.heap.size; omega)).trans q2X
  replace q3X := (b19.cell (p := ⟨w.heap.size, 3, none⟩) (by show w.heap.size < w18.heap.size; omega)).trans q3X
  replace q4X := (b19.cell (p := ⟨w.heap.size, 4, none⟩) (by show w.heap.size < w18.heap.size; omega)).trans q4X
  replace q5X := (b19.cell (p := ⟨w.heap.size, 5, none⟩) (by show w.heap.size < w18.heap.size; omega)).trans q5X
  replace p0X := (b19.cell (p := ⟨w9.heap.size, 0, none⟩) (by show w9.heap.size < w18.heap.size; omega)).trans p0X
  replace p1X := (b19.cell (p := ⟨w9.heap.size, 1, none⟩) (by show w9.heap.size < w18.heap.size; omega)).trans p1X
  replace p2X := (b19.cell (p := ⟨w9.heap.size, 2, none⟩) (by show w9.heap.size < w18.heap.size; omega)).trans p2X
  replace p3X := (b19.cell (p := ⟨w9.heap.size, 3, none⟩) (by show w9.heap.size < w18.heap.size; omega)).trans p3X
  replace p4X := (b19.cell (p := ⟨w9.heap.size, 4, none⟩) (by show w9.heap.size < w18.heap.size; omega)).trans p4X
  replace p5X := (b19.cell (p := ⟨w9.heap.size, 5, none⟩) (by show w9.heap.size < w18.heap.size; omega)).trans p5X
  go_wp2_with fail
  refine Calls.mono (Calls.vq (eqInt64S_c w19 _ _ _ _ row row rxrow rcrow) (congrArg Value.bool (decide_eq_true rfl))) ?_
  rintro e w20 ⟨rfl, hd20⟩
  have b20 : Below w19.heap.size w19 w20 := hd20.below _
  have B20 : Below w.heap.size w w20 := B19.trans (b20.mono B19.size)
  have s20 : w19.heap.size ≤ w20.heap.size := b20.size
  replace rxX := stable_rows.below rxX b20
  replace rxcuts := stable_rows.below rxcuts b20
  replace rxrow := stable_ints.below rxrow b20
  replace rxkey := stable_ints.below rxkey b20
  replace rcrow := stable_ints.below rcrow b20
  replace q0X := (b20.cell (p := ⟨w.heap.size, 0, none⟩) (by show w.heap.size < w19.heap.size; omega)).trans q0X
  replace q1X := (b20.cell (p := ⟨w.heap.size, 1, none⟩) (by show w.heap.size < w19.heap.size; omega)).trans q1X
  replace q2X := (b20.cell (p := ⟨w.heap.size, 2, none⟩) (by show w.heap.size < w19.heap.size; omega)).trans q2X
  replace q3X := (b20.cell (p := ⟨w.heap.size, 3, none⟩) (by show w.heap.size < w19.heap.size; omega)).trans q3X
  replace q4X := (b20.cell (p := ⟨w.heap.size, 4, none⟩) (by show w.heap.size < w19.heap.size; omega)).trans q4X
  replace q5X := (b20.cell (p := ⟨w.heap.size, 5, none⟩) (by show w.heap.size < w19.heap.size; omega)).trans q5X
  replace p0X := (b20.cell (p := ⟨w9.heap.size, 0, none⟩) (by show w9.heap.size < w19.heap.size; omega)).trans p0X
  replace p1X := (b20.cell (p := ⟨w9.heap.size, 1, none⟩) (by show w9.heap.size < w19.heap.size; omega)).trans p1X
  replace p2X := (b20.cell (p := ⟨w9.heap.size, 2, none⟩) (by show w9.heap.size < w19.heap.size; omega)).trans p2X
  replace p3X := (b20.cell (p := ⟨w9.heap.size, 3, none⟩) (by show w9.heap.size < w19.heap.size; omega)).trans p3X
  replace p4X := (b20.cell (p := ⟨w9.heap.size, 4, none⟩) (by show w9.heap.size < w19.heap.size; omega)).trans p4X
  replace p5X := (b20.cell (p := ⟨w9.heap.size, 5, none⟩) (by show w9.heap.size < w19.heap.size; omega)).trans p5X
  clear rcrow
  go_wp2_with fail
  refine Calls.mono (toInt64S_c w20 _ _ key (stable_ints.below hkey B20) hlkey) ?_
  rintro e w21 ⟨uckey, rfl, rckey, bb21⟩
  have b21 : Below w20.heap.size w20 w21 := bb21
  have B21 : Below w.heap.size w w21 := B20.trans (b21.mono B20.size)
  have s21 : w20.heap.size ≤ w21.heap.size := b21.size
  replace rxX := stable_rows.below rxX b21
  replace rxcuts := stable_rows.below rxcuts b21
  replace rxrow := stable_ints.below rxrow b21
  replace rxkey := stable_ints.below rxkey b21
  replace q0X := (b21.cell (p := ⟨w.heap.size, 0, none⟩) (by show w.heap.size < w20.heap.size; omega)).trans q0X
  replace q1X := (b21.cell (p := ⟨w.heap.size, 1, none⟩) (by show w.heap.size < w20.heap.size; omega)).trans q1X
  replace q2X := (b21.cell (p := ⟨w.heap.size, 2, none⟩) (by show w.heap.size < w20.heap.size; omega)).trans q2X
  replace q3X := (b21.cell (p := ⟨w.heap.size, 3, none⟩) (by show w.heap.size < w20.heap.size; omega)).trans q3X
  replace q4X := (b21.cell (p := ⟨w.heap.size, 4, none⟩) (by show w.heap.size < w20.heap.size; omega)).trans q4X
  replace q5X := (b21.cell (p := ⟨w.heap.size, 5, none⟩) (by show w.heap.size < w20.heap.size; omega)).trans q5X
  replace p0X := (b21.cell (p := ⟨w9.heap.size, 0, none⟩) (by show w9.heap.size < w20.heap.size; omega)).trans p0X
  replace p1X := (b21.cell (p := ⟨w9.heap.size, 1, none⟩) (by show w9.heap.size < w20.heap.size; omega)).trans p1X
  replace p2X := (b21.cell (p := ⟨w9.heap.size, 2, none⟩) (by show w9.heap.size < w20.heap.size; omega)).trans p2X
  replace p3X := (b21.cell (p := ⟨w9.heap.size, 3, none⟩) (by show w9.heap.size < w20.heap.size; omega)).trans p3X
  replace p4X := (b21.cell (p := ⟨w9.heap.size, 4, none⟩) (by show w9.heap.size < w20.heap.size; omega)).trans p4X
  replace p5X := (b21.cell (p := ⟨w9.heap.size, 5, none⟩) (by show w9.heap.size < w20.heap.size; omega)).trans p5X
  go_wp2_with fail
  refine Calls.mono (Calls.vq (eqInt64S_c w21 _ _ _ _ key key rxkey rckey) (congrArg Value.bool (decide_eq_true rfl))) ?_
  rintro e w22 ⟨rfl, hd22⟩
  have b22 : Below w21.heap.size w21 w22 := hd22.below _
  have B22 : Below w.heap.size w w22 := B21.trans (b22.mono B21.size)
  have s22 : w21.heap.size ≤ w22.heap.size := b22.size
  replace rxX := stable_rows.below rxX b22
  replace rxcuts := stable_rows.below rxcuts b22
  replace rxrow := stable_ints.below rxrow b22
  replace rxkey := stable_ints.below rxkey b22
  replace rckey := stable_ints.below rckey b22
  replace q0X := (b22.cell (p := ⟨w.heap.size, 0, none⟩) (by show w.heap.size < w21.heap.size; omega)).trans q0X
  replace q1X := (b22.cell (p := ⟨w.heap.size, 1, none⟩) (by show w.heap.size < w21.heap.size; omega)).trans q1X
  replace q2X := (b22.cell (p := ⟨w.heap.size, 2, none⟩) (by show w.heap.size < w21.heap.size; omega)).trans q2X
  replace q3X := (b22.cell (p := ⟨w.heap.size, 3, none⟩) (by show w.heap.size < w21.heap.size; omega)).trans q3X
  replace q4X := (b22.cell (p := ⟨w.heap.size, 4, none⟩) (by show w.heap.size < w21.heap.size; omega)).trans q4X
  replace q5X := (b22.cell (p := ⟨w.heap.size, 5, none⟩) (by show w.heap.size < w21.heap.size; omega)).trans q5X
  replace p0X := (b22.cell (p := ⟨w9.heap.size, 0, none⟩) (by show w9.heap.size < w21.heap.size; omega)).trans p0X
  replace p1X := (b22.cell (p := ⟨w9.heap.size, 1, none⟩) (by show w9.heap.size < w21.heap.size; omega)).trans p1X
  replace p2X := (b22.cell (p := ⟨w9.heap.size, 2, none⟩) (by show w9.heap.size < w21.heap.size; omega)).trans p2X
  replace p3X := (b22.cell (p := ⟨w9.heap.size, 3, none⟩) (by show w9.heap.size < w21.heap.size; omega)).trans p3X
  replace p4X := (b22.cell (p := ⟨w9.heap.size, 4, none⟩) (by show w9.heap.size < w21.heap.size; omega)).trans p4X
  replace p5X := (b22.cell (p := ⟨w9.heap.size, 5, none⟩) (by show w9.heap.size < w21.heap.size; omega)).trans p5X
  clear rckey
  go_wp2_with fail
  go_ret
  exact ⟨_, rfl, rfl, B22⟩


/-! ### the row -/
theorem own : ownKnob Try.prog.godebug = none := by kernel_rfl
theorem laidOut : laidOutB Try.prog = true := by kernel_rfl
set_option maxRecDepth 100000 in
theorem lifted (os : Os) (started : os.Started) (H : Type) (enc : TypeId × Value → H) :
    ReturnsInHanded {} Try.checked os 9 .any (Rows.fnExactCanIssueSpec.pre6 enc Try.prog Try.f9 Rows.fnExactCanIssueRow.domain false) (Rows.fnExactCanIssueSpec.post enc Try.prog Try.f9 false true false false) := by
  refine returnsInHanded_of_change (C := Try.checked) own started (by kernel_rfl) Try.func9
    (ChangeSpec.witness6 (enc := enc) (C := Try.checked) false ⟨#[], #[.agg #[.int .i64 0, .int .i64 0, .int .i64 0, .int .i64 0, .int .i64 0, .slice none 0 0], .slice none 0 0, .slice none 0 0, .slice none 0 0], []⟩ 8 (by kernel_rfl) (by kernel_rfl) (by kernel_rfl) (by kernel_rfl)) ?_
  intro W base args ds gs before hval0 hW hcnd _
  have hval : ∀ (j : Nat) t v, Try.f9.params[j]? = some t → args[j]? = some v → Value.okWide Try.prog W .any base t v := hval0
  have hW' := hW
  obtain ⟨p, q, hA0, hV, rfl, hfz, hnd⟩ := hW
  have hA : DataW.TrodAll enc Try.prog W 0 (fun _ => true) true Try.f9.params.toList args.toList ds p := hA0
  rw [Try.params9] at hA hval
  obtain ⟨v0, vs0, d0, ds0, p0, q0, hargs, rfl, rfl, h0, r0⟩ := trodAll_cons hA
  obtain ⟨v1, vs1, d1, ds1, p1, q1, rfl, rfl, rfl, h1, r1⟩ := trodAll_cons r0
  obtain ⟨v2, vs2, d2, ds2, p2, q2, rfl, rfl, rfl, h2, r2⟩ := trodAll_cons r1
  obtain ⟨v3, vs3, d3, ds3, p3, q3, rfl, rfl, rfl, h3, r3⟩ := trodAll_cons r2
  obtain ⟨rfl, rfl, rfl⟩ := trodAll_nil r3
  obtain rfl : args = #[v0, v1, v2, v3] := by cases args; simp_all
  obtain ⟨rfl, rfl⟩ := trodVars_none hV
  have k0 := h0
  have lt0 : ∀ x ∈ p0, x.block < W.heap.size := by obtain ⟨m, hm⟩ := k0; exact DataW.trod_lt m _ _ _ hm
  obtain ⟨M0, u0, y0, m0, rfl, hw0, hu0⟩ := open_sys Try.underlying26 Try.underlying23 (by kernel_rfl) (by kernel_rfl) (by kernel_rfl) rfl rfl ⟨rfl, by kernel_rfl, Try.underlying2⟩ ⟨rfl, by kernel_rfl, Try.underlying2⟩ ⟨rfl, by kernel_rfl, Try.underlying2⟩ ⟨rfl, by kernel_rfl, Try.underlying2⟩ ⟨rfl, by kernel_rfl, Try.underlying2⟩ (hval 0 26 v0 rfl rfl) h0
  obtain ⟨x0, b0⟩ := open_RowsR Try.underlying24 Try.underlying27 Try.underlying2 (by kernel_rfl) (by kernel_rfl) hu0
  have k1 := h1
  have lt1 : ∀ x ∈ p1, x.block < W.heap.size := by obtain ⟨m, hm⟩ := k1; exact DataW.trod_lt m _ _ _ hm
  obtain ⟨a1, len1, cap1, rfl⟩ := okWide_slice Try.underlying24 (hval 1 24 v1 rfl rfl)
  obtain ⟨x1, w1⟩ : ∃ xs, RowsR (.old W) W (.slice a1 len1 cap1) xs := by obtain ⟨fuel, hf⟩ := h1; exact open_RowsR Try.underlying24 Try.underlying27 Try.underlying2 (by kernel_rfl) (by kernel_rfl) hf
  have k2 := h2
  have lt2 : ∀ x ∈ p2, x.block < W.heap.size := by obtain ⟨m, hm⟩ := k2; exact DataW.trod_lt m _ _ _ hm
  obtain ⟨a2, len2, cap2, rfl⟩ := okWide_slice Try.underlying27 (hval 2 27 v2 rfl rfl)
  obtain ⟨x2, w2⟩ : ∃ xs, IntsR (.old W) W (.slice a2 len2 cap2) xs := by obtain ⟨fuel, hf⟩ := h2; exact open_IntsR Try.underlying27 Try.underlying2 (by kernel_rfl) hf
  have k3 := h3
  have lt3 : ∀ x ∈ p3, x.block < W.heap.size := by obtain ⟨m, hm⟩ := k3; exact DataW.trod_lt m _ _ _ hm
  obtain ⟨a3, len3, cap3, rfl⟩ := okWide_slice Try.underlying27 (hval 3 27 v3 rfl rfl)
  obtain ⟨x3, w3⟩ : ∃ xs, IntsR (.old W) W (.slice a3 len3 cap3) xs := by obtain ⟨fuel, hf⟩ := h3; exact open_IntsR Try.underlying27 Try.underlying2 (by kernel_rfl) hf
  clear hA0 hval0
  refine (walk W M0 _ x0 b0 _ x1 w1 _ x2 w2 _ x3 w3).mono fun e W' hret => ?_
  obtain ⟨r, rfl, rfl, bel⟩ := hret
  exact ⟨_, rfl, _, _, _, [], _, [], hW', trodAll_mk1 (shut_bool Try.underlying4 _), (trodAll_cons_mk (Below.trod laidOut (by kernel_rfl) (of_decide_eq_true (by kernel_rfl)) k0 bel lt0) (trodAll_cons_mk (Below.trod laidOut (by kernel_rfl) (of_decide_eq_true (by kernel_rfl)) k1 bel lt1) (trodAll_cons_mk (Below.trod laidOut (by kernel_rfl) (of_decide_eq_true (by kernel_rfl)) k2 bel lt2) (trodAll_cons_mk (Below.trod laidOut (by kernel_rfl) (of_decide_eq_true (by kernel_rfl)) k3 bel lt3) trodAll_mk0)))), rfl, bel.frame _, fun h => by cases h⟩

theorem over : Rows.fnExactCanIssueRow.holds Try.pinned (OpenSpec.ofChange Rows.fnExactCanIssueSpec) :=
  OpenClaim.holds_of_wide 9 Try.f9 rfl rfl rfl rfl rfl rfl rfl ⟨rfl, rfl, rfl, rfl, rfl⟩ rfl rfl rfl rfl rfl (by kernel_rfl) Try.func9 (by kernel_rfl)
    (of_decide_eq_true (by kernel_rfl)) (by unfold Func.isWrapper; first | (rw [if_pos (by decide +kernel)]; kernel_rfl) | (rw [if_neg (by decide +kernel)]; exact ⟨rfl, rfl⟩))
    (fun os started H enc _ => lifted os started H enc)

theorem proved : Rows.FnExactCanIssueSaid := over


end fnExactCanIssue
end Go.Proofs.Ytgagjibjnaappaa
