/- Proved: for every system and every list of lists, laws.FnExactSystemStock returns true and changes nothing that was there; no condition. -/
import Derived.Test.YtgagjibjnaappaaRows
import Derived.Deep.RegionHeld3
import Derived.Test.YtgagjibjnaappaaUPkL
import Derived.Test.YtgagjibjnaappaaUSysStock
namespace Go.Proofs.Ytgagjibjnaappaa
open Go.ChangeShapes Go.WideShapes Go.ChangeAt Go.RowKit
set_option linter.unusedVariables false
namespace fnExactSystemStock

theorem stock_size (mk : MK) (t cuts : List (List Int)) : ((systemStock mk t cuts).1.1.length : Int) ≤ 1048576 ∧ ((systemStock mk t cuts).1.2.1.length : Int) ≤ 1048576 ∧ ((systemStock mk t cuts).1.2.2.length : Int) ≤ 1048576 := by
  unfold systemStock
  split
  · have h0 : (([] : List Int).length : Int) ≤ 1048576 := by decide
    exact ⟨h0, h0, h0⟩
  · next h =>
    have ok := designCode_zero (by omega : designCode mk t cuts = 0)
    have hd := ok.mk2
    have h3 := (Len3.zero mk.d.toNat).locks (E := mk.d) (locks mk t cuts) (locks mk t cuts).length
    have e0 := h3.l0; have e1 := h3.l1; have e2 := h3.l2
    exact ⟨by show ((stockL _ _).1.length : Int) ≤ _; unfold stockL; omega, by show ((stockL _ _).2.1.length : Int) ≤ _; unfold stockL; omega, by show ((stockL _ _).2.2.length : Int) ≤ _; unfold stockL; omega⟩
set_option maxRecDepth 20000 in
set_option maxHeartbeats 2000000 in
theorem walk (w : World) (MX : MK) (vX : Value) (X : List (List Int)) (hX : RowsR (.old w) w vX X) (vcuts : Value) (cuts : List (List Int)) (hcuts : RowsR (.old w) w vcuts cuts) :
    Calls Try.prog 10 #[.agg #[.int .i64 MX.c, .int .i64 MX.d, .int .i64 MX.s, .int .i64 MX.m, .int .i64 MX.l, vX], vcuts] w (Ret w fun r _ => r = .bool true) := by
  obtain ⟨aX, nX, cX, rfl, shX, -⟩ := SliceR.shape hX
  clear shX
  obtain ⟨acuts, ncuts, ccuts, rfl, shcuts, -⟩ := SliceR.shape hcuts
  clear shcuts
  have cS : ∀ (wq : World) (yX : Value) (zX : Zone) (ycuts : Value) (zcuts : Zone) (gX : RowsR zX wq yX X) (gcuts : RowsR zcuts wq ycuts cuts), Calls Try.prog 41 #[.agg #[.int .i64 MX.c, .int .i64 MX.d, .int .i64 MX.s, .int .i64 MX.m, .int .i64 MX.l, yX], ycuts] wq (Ret wq fun r w' => ∃ u0 u1 u2 l0 h0 l1 h1 l2 h2, r = .tuple #[u0, u1, u2, .int .i64 (systemStock MX X cuts).2] ∧ (wq.heap.size ≤ l0 ∧ h0 ≤ w'.heap.size ∧ wq.heap.size ≤ l1 ∧ h1 ≤ w'.heap.size ∧ wq.heap.size ≤ l2 ∧ h2 ≤ w'.heap.size ∧ (h0 ≤ l1 ∨ h1 ≤ l0) ∧ (h0 ≤ l2 ∨ h2 ≤ l0) ∧ (h1 ≤ l2 ∨ h2 ≤ l1)) ∧ IntsR ⟨l0, h0, true⟩ w' u0 (systemStock MX X cuts).1.1 ∧ IntsR ⟨l1, h1, true⟩ w' u1 (systemStock MX X cuts).1.2.1 ∧ IntsR ⟨l2, h2, true⟩ w' u2 (systemStock MX X cuts).1.2.2) := fun wq yX zX ycuts zcuts gX gcuts => (fun w M v z x h u y cuts h2 => SystemStockSpec_c w M v z x h u y cuts h2) wq MX yX zX X gX ycuts zcuts cuts gcuts
  have cI : ∀ (wq : World) (yX : Value) (zX : Zone) (ycuts : Value) (zcuts : Zone) (gX : RowsR zX wq yX X) (gcuts : RowsR zcuts wq ycuts cuts), Calls Try.prog 42 #[.agg #[.int .i64 MX.c, .int .i64 MX.d, .int .i64 MX.s, .int .i64 MX.m, .int .i64 MX.l, yX], ycuts] wq (Ret wq fun r w' => ∃ u0 u1 u2 l0 h0 l1 h1 l2 h2, r = .tuple #[u0, u1, u2, .int .i64 (systemStock MX X cuts).2] ∧ (wq.heap.size ≤ l0 ∧ h0 ≤ w'.heap.size ∧ wq.heap.size ≤ l1 ∧ h1 ≤ w'.heap.size ∧ wq.heap.size ≤ l2 ∧ h2 ≤ w'.heap.size ∧ (h0 ≤ l1 ∨ h1 ≤ l0) ∧ (h0 ≤ l2 ∨ h2 ≤ l0) ∧ (h1 ≤ l2 ∨ h2 ≤ l1)) ∧ IntsR ⟨l0, h0, true⟩ w' u0 (systemStock MX X cuts).1.1 ∧ IntsR ⟨l1, h1, true⟩ w' u1 (systemStock MX X cuts).1.2.1 ∧ IntsR ⟨l2, h2, true⟩ w' u2 (systemStock MX X cuts).1.2.2) := fun wq yX zX ycuts zcuts gX gcuts => (fun w M v z x h u y cuts h2 => SystemStock_c w M v z x h u y cuts h2) wq MX yX zX X gX ycuts zcuts cuts gcuts
  have LR0 : (((systemStock MX X cuts).1.1).length : Int) ≤ 1048576 := (stock_size _ _ _).1
  have LR1 : (((systemStock MX X cuts).1.2.1).length : Int) ≤ 1048576 := (stock_size _ _ _).2.1
  have LR2 : (((systemStock MX X cuts).1.2.2).length : Int) ≤ 1048576 := (stock_size _ _ _).2.2
  generalize (systemStock MX X cuts).1.1 = res0 at cS cI LR0 LR1 LR2
  generalize (systemStock MX X cuts).1.2.1 = res1 at cS cI LR0 LR1 LR2
  generalize (systemStock MX X cuts).1.2.2 = res2 at cS cI LR0 LR1 LR2
  generalize (systemStock MX X cuts).2 = res3 at cS cI LR0 LR1 LR2
  have CS := Lib.hid cS; have CI := Lib.hid cI; clear cS cI
  go_enter Try.func10, Try.ntmps10
  go_wp2_with fail
  generalize hwb1 : World.alloc _ _ = w1
  have b1 : Below w.heap.size w w1 := by rw [← hwb1]; exact (Below.refl _ _).alloc (Nat.le_refl _) _
  have s1 : w.heap.size < w1.heap.size := by rw [← hwb1]; simp
  have q0X : w1.cell? ⟨w.heap.size, 0, none⟩ = some (.int .i64 MX.c) := by rw [← hwb1]; clear hwb1; go_simp
  have q1X : w1.cell? ⟨w.heap.size, 1, none⟩ = some (.int .i64 MX.d) := by rw [← hwb1]; clear hwb1; go_simp
  have q2X : w1.cell? ⟨w.heap.size, 2, none⟩ = some (.int .i64 MX.s) := by rw [← hwb1]; clear hwb1; go_simp
  have q3X : w1.cell? ⟨w.heap.size, 3, none⟩ = some (.int .i64 MX.m) := by rw [← hwb1]; clear hwb1; go_simp
  have q4X : w1.cell? ⟨w.heap.size, 4, none⟩ = some (.int .i64 MX.l) := by rw [← hwb1]; clear hwb1; go_simp
  have q5X : w1.cell? ⟨w.heap.size, 5, none⟩ = some (.slice aX nX cX) := by rw [← hwb1]; clear hwb1; go_simp
  clear hwb1
  have B1 : Below w.heap.size w w1 := b1
  have szX := szSystemA_c w1 MX _ _ X 1048576 (stable_rows.below hX B1) (by omega) (by omega)
  rcases Nat.lt_or_ge (1048576 : Int).toNat (bulk X) with hbX | hbX
  · rw [szLeft_neg (by omega)] at szX
    refine Calls.mono szX ?_
    rintro e wx ⟨r, rfl, rfl, bx⟩
    go_wp2_with fail
    go_ret
    exact ⟨_, rfl, rfl, B1.trans (bx.mono B1.size)⟩
  rw [szLeft_pos (by omega)] at szX
  have lbX : bulk X ≤ 1048576 := by omega
  have lgX : (0 : Int) ≤ 1048576 - (bulk X : Int) := by omega
  have lhX : 1048576 - (bulk X : Int) ≤ 1048576 := by omega
  generalize (1048576 : Int) - (bulk X : Int) = lX at *
  refine Calls.mono szX ?_
  rintro e w2 ⟨r, rfl, rfl, hd2⟩
  clear szX
  have b2 : Below w1.heap.size w1 w2 := hd2
  have B2 : Below w.heap.size w w2 := B1.trans (b2.mono B1.size)
  have s2 : w1.heap.size ≤ w2.heap.size := b2.size
  replace q0X := (b2.cell (p := ⟨w.heap.size, 0, none⟩) (by show w.heap.size < w1.heap.size; omega)).trans q0X
  replace q1X := (b2.cell (p := ⟨w.heap.size, 1, none⟩) (by show w.heap.size < w1.heap.size; omega)).trans q1X
  replace q2X := (b2.cell (p := ⟨w.heap.size, 2, none⟩) (by show w.heap.size < w1.heap.size; omega)).trans q2X
  replace q3X := (b2.cell (p := ⟨w.heap.size, 3, none⟩) (by show w.heap.size < w1.heap.size; omega)).trans q3X
  replace q4X := (b2.cell (p := ⟨w.heap.size, 4, none⟩) (by show w.heap.size < w1.heap.size; omega)).trans q4X
  replace q5X := (b2.cell (p := ⟨w.heap.size, 5, none⟩) (by show w.heap.size < w1.heap.size; omega)).trans q5X
  have szcuts := szInt64SS_c w2 _ _ cuts lX (stable_rows.below hcuts B2) (by omega) (by omega)
  go_wp2_with fail
  rcases Nat.lt_or_ge (lX : Int).toNat (bulk cuts) with hbcuts | hbcuts
  · rw [szLeft_neg (by omega)] at szcuts
    refine Calls.mono szcuts ?_
    rintro e wx ⟨rfl, hdx⟩
    go_wp2_with fail
    go_ret
    exact ⟨_, rfl, rfl, B2.trans (hdx.below _)⟩
  rw [szLeft_pos (by omega)] at szcuts
  have lbcuts : bulk cuts ≤ 1048576 := by omega
  have lgcuts : (0 : Int) ≤ lX - (bulk cuts : Int) := by omega
  have lhcuts : lX - (bulk cuts : Int) ≤ 1048576 := by omega
  generalize (lX : Int) - (bulk cuts : Int) = lcuts at *
  refine Calls.mono szcuts ?_
  rintro e w3 ⟨rfl, hd3⟩
  clear szcuts
  have b3 : Below w2.heap.size w2 w3 := hd3.below _
  have B3 : Below w.heap.size w w3 := B2.trans (b3.mono B2.size)
  have s3 : w2.heap.size ≤ w3.heap.size := b3.size
  replace q0X := (b3.cell (p := ⟨w.heap.size, 0, none⟩) (by show w.heap.size < w2.heap.size; omega)).trans q0X
  replace q1X := (b3.cell (p := ⟨w.heap.size, 1, none⟩) (by show w.heap.size < w2.heap.size; omega)).trans q1X
  replace q2X := (b3.cell (p := ⟨w.heap.size, 2, none⟩) (by show w.heap.size < w2.heap.size; omega)).trans q2X
  replace q3X := (b3.cell (p := ⟨w.heap.size, 3, none⟩) (by show w.heap.size < w2.heap.size; omega)).trans q3X
  replace q4X := (b3.cell (p := ⟨w.heap.size, 4, none⟩) (by show w.heap.size < w2.heap.size; omega)).trans q4X
  replace q5X := (b3.cell (p := ⟨w.heap.size, 5, none⟩) (by show w.heap.size < w2.heap.size; omega)).trans q5X
  go_wp2_with fail
  refine Calls.mono (toSystemA_c w3 MX _ _ X (stable_rows.below hX B3) lbX) ?_
  rintro e w4 ⟨rvsX, rfl, ⟨usX, rfl, rsX⟩, bb4⟩
  have b4 : Below w3.heap.size w3 w4 := bb4
  have B4 : Below w.heap.size w w4 := B3.trans (b4.mono B3.size)
  have s4 : w3.heap.size ≤ w4.heap.size := b4.size
  replace q0X := (b4.cell (p := ⟨w.heap.size, 0, none⟩) (by show w.heap.size < w3.heap.size; omega)).trans q0X
  replace q1X := (b4.cell (p := ⟨w.heap.size, 1, none⟩) (by show w.heap.size < w3.heap.size; omega)).trans q1X
  replace q2X := (b4.cell (p := ⟨w.heap.size, 2, none⟩) (by show w.heap.size < w3.heap.size; omega)).trans q2X
  replace q3X := (b4.cell (p := ⟨w.heap.size, 3, none⟩) (by show w.heap.size < w3.heap.size; omega)).trans q3X
  replace q4X := (b4.cell (p := ⟨w.heap.size, 4, none⟩) (by show w.heap.size < w3.heap.size; omega)).trans q4X
  replace q5X := (b4.cell (p := ⟨w.heap.size, 5, none⟩) (by show w.heap.size < w3.heap.size; omega)).trans q5X
  obtain ⟨asX, nsX, ksX, rfl, -⟩ := SliceR.shape rsX
  go_wp2_with fail
  refine Calls.mono (toInt64SS_c w4 _ _ cuts (stable_rows.below hcuts B4) lbcuts) ?_
  rintro e w5 ⟨uscuts, rfl, rscuts, bb5⟩
  have b5 : Below w4.heap.size w4 w5 := bb5
  have B5 : Below w.heap.size w w5 := B4.trans (b5.mono B4.size)
  have s5 : w4.heap.size ≤ w5.heap.size := b5.size
  replace rsX := stable_rows.below rsX b5
  replace q0X := (b5.cell (p := ⟨w.heap.size, 0, none⟩) (by show w.heap.size < w4.heap.size; omega)).trans q0X
  replace q1X := (b5.cell (p := ⟨w.heap.size, 1, none⟩) (by show w.heap.size < w4.heap.size; omega)).trans q1X
  replace q2X := (b5.cell (p := ⟨w.heap.size, 2, none⟩) (by show w.heap.size < w4.heap.size; omega)).trans q2X
  replace q3X := (b5.cell (p := ⟨w.heap.size, 3, none⟩) (by show w.heap.size < w4.heap.size; omega)).trans q3X
  replace q4X := (b5.cell (p := ⟨w.heap.size, 4, none⟩) (by show w.heap.size < w4.heap.size; omega)).trans q4X
  replace q5X := (b5.cell (p := ⟨w.heap.size, 5, none⟩) (by show w.heap.size < w4.heap.size; omega)).trans q5X
  go_wp2_with fail
  refine Calls.mono (CS.out w5 _ _ _ _ rsX rscuts) ?_
  rintro e w6 ⟨rr6, rfl, ⟨S0, S1, S2, zlS0, zhS0, zlS1, zhS1, zlS2, zhS2, rfl, ⟨mlS0, mlS1, mlS2, mlS3, mlS4, mlS5, mlS6, mlS7, mlS8⟩, rS0, rS1, rS2⟩, bb6⟩
  have b6 : Below w5.heap.size w5 w6 := bb6
  have B6 : Below w.heap.size w w6 := B5.trans (b6.mono B5.size)
  have s6 : w5.heap.size ≤ w6.heap.size := b6.size
  replace rsX := stable_rows.below rsX b6
  replace rscuts := stable_rows.below rscuts b6
  replace q0X := (b6.cell (p := ⟨w.heap.size, 0, none⟩) (by show w.heap.size < w5.heap.size; omega)).trans q0X
  replace q1X := (b6.cell (p := ⟨w.heap.size, 1, none⟩) (by show w.heap.size < w5.heap.size; omega)).trans q1X
  replace q2X := (b6.cell (p := ⟨w.heap.size, 2, none⟩) (by show w.heap.size < w5.heap.size; omega)).trans q2X
  replace q3X := (b6.cell (p := ⟨w.heap.size, 3, none⟩) (by show w.heap.size < w5.heap.size; omega)).trans q3X
  replace q4X := (b6.cell (p := ⟨w.heap.size, 4, none⟩) (by show w.heap.size < w5.heap.size; omega)).trans q4X
  replace q5X := (b6.cell (p := ⟨w.heap.size, 5, none⟩) (by show w.heap.size < w5.heap.size; omega)).trans q5X
  clear rsX
  clear rscuts
  go_wp2_with fail
  refine Calls.mono (toSystemA_c w6 MX _ _ X (stable_rows.below hX B6) lbX) ?_
  rintro e w7 ⟨rvxX, rfl, ⟨uxX, rfl, rxX⟩, bb7⟩
  have b7 : Below w6.heap.size w6 w7 := bb7
  have B7 : Below w.heap.size w w7 := B6.trans (b7.mono B6.size)
  have s7 : w6.heap.size ≤ w7.heap.size := b7.size
  replace rS0 := stable_ints.below rS0 b7
  replace rS1 := stable_ints.below rS1 b7
  replace rS2 := stable_ints.below rS2 b7
  replace q0X := (b7.cell (p := ⟨w.heap.size, 0, none⟩) (by show w.heap.size < w6.heap.size; omega)).trans q0X
  replace q1X := (b7.cell (p := ⟨w.heap.size, 1, none⟩) (by show w.heap.size < w6.heap.size; omega)).trans q1X
  replace q2X := (b7.cell (p := ⟨w.heap.size, 2, none⟩) (by show w.heap.size < w6.heap.size; omega)).trans q2X
  replace q3X := (b7.cell (p := ⟨w.heap.size, 3, none⟩) (by show w.heap.size < w6.heap.size; omega)).trans q3X
  replace q4X := (b7.cell (p := ⟨w.heap.size, 4, none⟩) (by show w.heap.size < w6.heap.size; omega)).trans q4X
  replace q5X := (b7.cell (p := ⟨w.heap.size, 5, none⟩) (by show w.heap.size < w6.heap.size; omega)).trans q5X
  obtain ⟨axX, nxX, kxX, rfl, -⟩ := SliceR.shape rxX
  go_wp2_with fail
  generalize hwb8 : World.alloc _ _ = w8
  have b8 : Below w7.heap.size w7 w8 := by rw [← hwb8]; exact (Below.refl _ _).alloc (Nat.le_refl _) _
  have s8 : w7.heap.size < w8.heap.size := by rw [← hwb8]; simp
  have p0X : w8.cell? ⟨w7.heap.size, 0, none⟩ = some (.int .i64 MX.c) := by rw [← hwb8]; clear hwb8; go_simp
  have p1X : w8.cell? ⟨w7.heap.size, 1, none⟩ = some (.int .i64 MX.d) := by rw [← hwb8]; clear hwb8; go_simp
  have p2X : w8.cell? ⟨w7.heap.size, 2, none⟩ = some (.int .i64 MX.s) := by rw [← hwb8]; clear hwb8; go_simp
  have p3X : w8.cell? ⟨w7.heap.size, 3, none⟩ = some (.int .i64 MX.m) := by rw [← hwb8]; clear hwb8; go_simp
  have p4X : w8.cell? ⟨w7.heap.size, 4, none⟩ = some (.int .i64 MX.l) := by rw [← hwb8]; clear hwb8; go_simp
  have p5X : w8.cell? ⟨w7.heap.size, 5, none⟩ = some (.slice axX nxX kxX) := by rw [← hwb8]; clear hwb8; go_simp
  clear hwb8
  have B8 : Below w.heap.size w w8 := B7.trans (b8.mono B7.size)
  replace rS0 := stable_ints.below rS0 b8
  replace rS1 := stable_ints.below rS1 b8
  replace rS2 := stable_ints.below rS2 b8
  replace rxX := stable_rows.below rxX b8
  replace q0X := (b8.cell (p := ⟨w.heap.size, 0, none⟩) (by show w.heap.size < w7.heap.size; omega)).trans q0X
  replace q1X := (b8.cell (p := ⟨w.heap.size, 1, none⟩) (by show w.heap.size < w7.heap.size; omega)).trans q1X
  replace q2X := (b8.cell (p := ⟨w.heap.size, 2, none⟩) (by show w.heap.size < w7.heap.size; omega)).trans q2X
  replace q3X := (b8.cell (p := ⟨w.heap.size, 3, none⟩) (by show w.heap.size < w7.heap.size; omega)).trans q3X
  replace q4X := (b8.cell (p := ⟨w.heap.size, 4, none⟩) (by show w.heap.size < w7.heap.size; omega)).trans q4X
  replace q5X := (b8.cell (p := ⟨w.heap.size, 5, none⟩) (by show w.heap.size < w7.heap.size; omega)).trans q5X
  refine Calls.mono (toInt64SS_c w8 _ _ cuts (stable_rows.below hcuts B8) lbcuts) ?_
  rintro e w9 ⟨uxcuts, rfl, rxcuts, bb9⟩
  have b9 : Below w8.heap.size w8 w9 := bb9
  have B9 : Below w.heap.size w w9 := B8.trans (b9.mono B8.size)
  have s9 : w8.heap.size ≤ w9.heap.size := b9.size
  replace rS0 := stable_ints.below rS0 b9
  replace rS1 := stable_ints.below rS1 b9
  replace rS2 := stable_ints.below rS2 b9
  replace rxX := stable_rows.below rxX b9
  replace q0X := (b9.cell (p := ⟨w.heap.size, 0, none⟩) (by show w.heap.size < w8.heap.size; omega)).trans q0X
  replace q1X := (b9.cell (p := ⟨w.heap.size, 1, none⟩) (by show w.heap.size < w8.heap.size; omega)).trans q1X
  replace q2X := (b9.cell (p := ⟨w.heap.size, 2, none⟩) (by show w.heap.size < w8.heap.size; omega)).trans q2X
  replace q3X := (b9.cell (p := ⟨w.heap.size, 3, none⟩) (by show w.heap.size < w8.heap.size; omega)).trans q3X
  replace q4X := (b9.cell (p := ⟨w.heap.size, 4, none⟩) (by show w.heap.size < w8.heap.size; omega)).trans q4X
  replace q5X := (b9.cell (p := ⟨w.heap.size, 5, none⟩) (by show w.heap.size < w8.heap.size; omega)).trans q5X
  replace p0X := (b9.cell (p := ⟨w7.heap.size, 0, none⟩) (by show w7.heap.size < w8.heap.size; omega)).trans p0X
  replace p1X := (b9.cell (p := ⟨w7.heap.size, 1, none⟩) (by show w7.heap.size < w8.heap.size; omega)).trans p1X
  replace p2X := (b9.cell (p := ⟨w7.heap.size, 2, none⟩) (by show w7.heap.size < w8.heap.size; omega)).trans p2X
  replace p3X := (b9.cell (p := ⟨w7.heap.size, 3, none⟩) (by show w7.heap.size < w8.heap.size; omega)).trans p3X
  replace p4X := (b9.cell (p := ⟨w7.heap.size, 4, none⟩) (by show w7.heap.size < w8.heap.size; omega)).trans p4X
  replace p5X := (b9.cell (p := ⟨w7.heap.size, 5, none⟩) (by show w7.heap.size < w8.heap.size; omega)).trans p5X
  go_wp2_with fail
  refine Calls.mono (CI.out w9 _ _ _ _ rxX rxcuts) ?_
  rintro e w10 ⟨rr10, rfl, ⟨G0, G1, G2, zlG0, zhG0, zlG1, zhG1, zlG2, zhG2, rfl, ⟨mlG0, mlG1, mlG2, mlG3, mlG4, mlG5, mlG6, mlG7, mlG8⟩, rG0, rG1, rG2⟩, bb10⟩
  have b10 : Below w9.heap.size w9 w10 := bb10
  have B10 : Below w.heap.size w w10 := B9.trans (b10.mono B9.size)
  have s10 : w9.heap.size ≤ w10.heap.size := b10.size
  replace rS0 := stable_ints.below rS0 b10
  replace rS1 := stable_ints.below rS1 b10
  replace rS2 := stable_ints.below rS2 b10
  replace rxX := stable_rows.below rxX b10
  replace rxcuts := stable_rows.below rxcuts b10
  replace q0X := (b10.cell (p := ⟨w.heap.size, 0, none⟩) (by show w.heap.size < w9.heap.size; omega)).trans q0X
  replace q1X := (b10.cell (p := ⟨w.heap.size, 1, none⟩) (by show w.heap.size < w9.heap.size; omega)).trans q1X
  replace q2X := (b10.cell (p := ⟨w.heap.size, 2, none⟩) (by show w.heap.size < w9.heap.size; omega)).trans q2X
  replace q3X := (b10.cell (p := ⟨w.heap.size, 3, none⟩) (by show w.heap.size < w9.heap.size; omega)).trans q3X
  replace q4X := (b10.cell (p := ⟨w.heap.size, 4, none⟩) (by show w.heap.size < w9.heap.size; omega)).trans q4X
  replace q5X := (b10.cell (p := ⟨w.heap.size, 5, none⟩) (by show w.heap.size < w9.heap.size; omega)).trans q5X
  replace p0X := (b10.cell (p := ⟨w7.heap.size, 0, none⟩) (by show w7.heap.size < w9.heap.size; omega)).trans p0X
  replace p1X := (b10.cell (p := ⟨w7.heap.size, 1, none⟩) (by show w7.heap.size < w9.heap.size; omega)).trans p1X
  replace p2X := (b10.cell (p := ⟨w7.heap.size, 2, none⟩) (by show w7.heap.size < w9.heap.size; omega)).trans p2X
  replace p3X := (b10.cell (p := ⟨w7.heap.size, 3, none⟩) (by show w7.heap.size < w9.heap.size; omega)).trans p3X
  replace p4X := (b10.cell (p := ⟨w7.heap.size, 4, none⟩) (by show w7.heap.size < w9.heap.size; omega)).trans p4X
  replace p5X := (b10.cell (p := ⟨w7.heap.size, 5, none⟩) (by show w7.heap.size < w9.heap.size; omega)).trans p5X
  go_wp2_with fail
  refine Calls.mono (Calls.vq (eqInt64S_c w10 _ _ _ _ res0 res0 rG0 rS0) (congrArg Value.bool (decide_eq_true rfl))) ?_
  rintro e w11 ⟨rfl, hd11⟩
  have b11 : Below w10.heap.size w10 w11 := hd11.below _
  have B11 : Below w.heap.size w w11 := B10.trans (b11.mono B10.size)
  have s11 : w10.heap.size ≤ w11.heap.size := b11.size
  replace rS0 := stable_ints.below rS0 b11
  replace rS1 := stable_ints.below rS1 b11
  replace rS2 := stable_ints.below rS2 b11
  replace rxX := stable_rows.below rxX b11
  replace rxcuts := stable_rows.below rxcuts b11
  replace rG0 := stable_ints.below rG0 b11
  replace rG1 := stable_ints.below rG1 b11
  replace rG2 := stable_ints.below rG2 b11
  replace q0X := (b11.cell (p := ⟨w.heap.size, 0, none⟩) (by show w.heap.size < w10.heap.size; omega)).trans q0X
  replace q1X := (b11.cell (p := ⟨w.heap.size, 1, none⟩) (by show w.heap.size < w10.heap.size; omega)).trans q1X
  replace q2X := (b11.cell (p := ⟨w.heap.size, 2, none⟩) (by show w.heap.size < w10.heap.size; omega)).trans q2X
  replace q3X := (b11.cell (p := ⟨w.heap.size, 3, none⟩) (by show w.heap.size < w10.heap.size; omega)).trans q3X
  replace q4X := (b11.cell (p := ⟨w.heap.size, 4, none⟩) (by show w.heap.size < w10.heap.size; omega)).trans q4X
  replace q5X := (b11.cell (p := ⟨w.heap.size, 5, none⟩) (by show w.heap.size < w10.heap.size; omega)).trans q5X
  replace p0X := (b11.cell (p := ⟨w7.heap.size, 0, none⟩) (by show w7.heap.size < w10.heap.size; omega)).trans p0X
  replace p1X := (b11.cell (p := ⟨w7.heap.size, 1, none⟩) (by show w7.heap.size < w10.heap.size; omega)).trans p1X
  replace p2X := (b11.cell (p := ⟨w7.heap.size, 2, none⟩) (by show w7.heap.size < w10.heap.size; omega)).trans p2X
  replace p3X := (b11.cell (p := ⟨w7.heap.size, 3, none⟩) (by show w7.heap.size < w10.heap.size; omega)).trans p3X
  replace p4X := (b11.cell (p := ⟨w7.heap.size, 4, none⟩) (by show w7.heap.size < w10.heap.size; omega)).trans p4X
  replace p5X := (b11.cell (p := ⟨w7.heap.size, 5, none⟩) (by show w7.heap.size < w10.heap.size; omega)).trans p5X
  go_wp2_with fail
  refine Calls.mono (Calls.vq (eqInt64S_c w11 _ _ _ _ res1 res1 rG1 rS1) (congrArg Value.bool (decide_eq_true rfl))) ?_
  rintro e w12 ⟨rfl, hd12⟩
  have b12 : Below w11.heap.size w11 w12 := hd12.below _
  have B12 : Below w.heap.size w w12 := B11.trans (b12.mono B11.size)
  have s12 : w11.heap.size ≤ w12.heap.size := b12.size
  replace rS0 := stable_ints.below rS0 b12
  replace rS1 := stable_ints.below rS1 b12
  replace rS2 := stable_ints.below rS2 b12
  replace rxX := stable_rows.below rxX b12
  replace rxcuts := stable_rows.below rxcuts b12
  replace rG0 := stable_ints.below rG0 b12
  replace rG1 := stable_ints.below rG1 b12
  replace rG2 := stable_ints.below rG2 b12
  replace q0X := (b12.cell (p := ⟨w.heap.size, 0, none⟩) (by show w.heap.size < w11.heap.size; omega)).trans q0X
  replace q1X := (b12.cell (p := ⟨w.heap.size, 1, none⟩) (by show w.heap.size < w11.heap.size; omega)).trans q1X
  replace q2X := (b12.cell (p := ⟨w.heap.size, 2, none⟩) (by show w.heap.size < w11.heap.size; omega)).trans q2X
  replace q3X := (b12.cell (p := ⟨w.heap.size, 3, none⟩) (by show w.heap.size < w11.heap.size; omega)).trans q3X
  replace q4X := (b12.cell (p := ⟨w.heap.size, 4, none⟩) (by show w.heap.size < w11.heap.size; omega)).trans q4X
  replace q5X := (b12.cell (p := ⟨w.heap.size, 5, none⟩) (by show w.heap.size < w11.heap.size; omega)).trans q5X
  replace p0X := (b12.cell (p := ⟨w7.heap.size, 0, none⟩) (by show w7.heap.size < w11.heap.size; omega)).trans p0X
  replace p1X := (b12.cell (p := ⟨w7.heap.size, 1, none⟩) (by show w7.heap.size < w11.heap.size; omega)).trans p1X
  replace p2X := (b12.cell (p := ⟨w7.heap.size, 2, none⟩) (by show w7.heap.size < w11.heap.size; omega)).trans p2X
  replace p3X := (b12.cell (p := ⟨w7.heap.size, 3, none⟩) (by show w7.heap.size < w11.heap.size; omega)).trans p3X
  replace p4X := (b12.cell (p := ⟨w7.heap.size, 4, none⟩) (by show w7.heap.size < w11.heap.size; omega)).trans p4X
  replace p5X := (b12.cell (p := ⟨w7.heap.size, 5, none⟩) (by show w7.heap.size < w11.heap.size; omega)).trans p5X
  go_wp2_with fail
  refine Calls.mono (Calls.vq (eqInt64S_c w12 _ _ _ _ res2 res2 rG2 rS2) (congrArg Value.bool (decide_eq_true rfl))) ?_
  rintro e w13 ⟨rfl, hd13⟩
  have b13 : Below w12.heap.size w12 w13 := hd13.below _
  have B13 : Below w.heap.size w w13 := B12.trans (b13.mono B12.size)
  have s13 : w12.heap.size ≤ w13.heap.size := b13.size
  replace rS0 := stable_ints.below rS0 b13
  replace rS1 := stable_ints.below rS1 b13
  replace rS2 := stable_ints.below rS2 b13
  replace rxX := stable_rows.below rxX b13
  replace rxcuts := stable_rows.below rxcuts b13
  replace rG0 := stable_ints.below rG0 b13
  replace rG1 := stable_ints.below rG1 b13
  replace rG2 := stable_ints.below rG2 b13
  replace q0X := (b13.cell (p := ⟨w.heap.size, 0, none⟩) (by show w.heap.size < w12.heap.size; omega)).trans q0X
  replace q1X := (b13.cell (p := ⟨w.heap.size, 1, none⟩) (by show w.heap.size < w12.heap.size; omega)).trans q1X
  replace q2X := (b13.cell (p := ⟨w.heap.size, 2, none⟩) (by show w.heap.size < w12.heap.size; omega)).trans q2X
  replace q3X := (b13.cell (p := ⟨w.heap.size, 3, none⟩) (by show w.heap.size < w12.heap.size; omega)).trans q3X
  replace q4X := (b13.cell (p := ⟨w.heap.size, 4, none⟩) (by show w.heap.size < w12.heap.size; omega)).trans q4X
  replace q5X := (b13.cell (p := ⟨w.heap.size, 5, none⟩) (by show w.heap.size < w12.heap.size; omega)).trans q5X
  replace p0X := (b13.cell (p := ⟨w7.heap.size, 0, none⟩) (by show w7.heap.size < w12.heap.size; omega)).trans p0X
  replace p1X := (b13.cell (p := ⟨w7.heap.size, 1, none⟩) (by show w7.heap.size < w12.heap.size; omega)).trans p1X
  replace p2X := (b13.cell (p := ⟨w7.heap.size, 2, none⟩) (by show w7.heap.size < w12.heap.size; omega)).trans p2X
  replace p3X := (b13.cell (p := ⟨w7.heap.size, 3, none⟩) (by show w7.heap.size < w12.heap.size; omega)).trans p3X
  replace p4X := (b13.cell (p := ⟨w7.heap.size, 4, none⟩) (by show w7.heap.size < w12.heap.size; omega)).trans p4X
  replace p5X := (b13.cell (p := ⟨w7.heap.size, 5, none⟩) (by show w7.heap.size < w12.heap.size; omega)).trans p5X
  have HK15 : Hid (∀ w', Below w13.heap.size w13 w' → w'.cell? ⟨w.heap.size, 0, none⟩ = some (.int .i64 MX.c) ∧ w'.cell? ⟨w.heap.size, 1, none⟩ = some (.int .i64 MX.d) ∧ w'.cell? ⟨w.heap.size, 2, none⟩ = some (.int .i64 MX.s) ∧ w'.cell? ⟨w.heap.size, 3, none⟩ = some (.int .i64 MX.m) ∧ w'.cell? ⟨w.heap.size, 4, none⟩ = some (.int .i64 MX.l) ∧ w'.cell? ⟨w.heap.size, 5, none⟩ = some (.slice aX nX cX) ∧ w'.cell? ⟨w7.heap.size, 0, none⟩ = some (.int .i64 MX.c) ∧ w'.cell? ⟨w7.heap.size, 1, none⟩ = some (.int .i64 MX.d) ∧ w'.cell? ⟨w7.heap.size, 2, none⟩ = some (.int .i64 MX.s) ∧ w'.cell? ⟨w7.heap.size, 3, none⟩ = some (.int .i64 MX.m) ∧ w'.cell? ⟨w7.heap.size, 4, none⟩ = some (.int .i64 MX.l) ∧ w'.cell? ⟨w7.heap.size, 5, none⟩ = some (.slice axX nxX kxX)) := fun w' hb => ⟨(hb.cell (by show w.heap.size < w13.heap.size; omega)).trans q0X, (hb.cell (by show w.heap.size < w13.heap.size; omega)).trans q1X, (hb.cell (by show w.heap.size < w13.heap.size; omega)).trans q2X, (hb.cell (by show w.heap.size < w13.heap.size; omega)).trans q3X, (hb.cell (by show w.heap.size < w13.heap.size; omega)).trans q4X, (hb.cell (by show w.heap.size < w13.heap.size; omega)).trans q5X, (hb.cell (by show w7.heap.size < w13.heap.size; omega)).trans p0X, (hb.cell (by show w7.heap.size < w13.heap.size; omega)).trans p1X, (hb.cell (by show w7.heap.size < w13.heap.size; omega)).trans p2X, (hb.cell (by show w7.heap.size < w13.heap.size; omega)).trans p3X, (hb.cell (by show w7.heap.size < w13.heap.size; omega)).trans p4X, (hb.cell (by show w7.heap.size < w13.heap.size; omega)).trans p5X⟩
  have HF15 := Lib.hid (stable_rows.below hX B13)
  have HX15 := Lib.hid rxX
  go_wp2_with fail
  go_region_held3 (fun w' => w'.cell? ⟨w.heap.size, 0, none⟩ = some (.int .i64 MX.c) ∧ w'.cell? ⟨w.heap.size, 1, none⟩ = some (.int .i64 MX.d) ∧ w'.cell? ⟨w.heap.size, 2, none⟩ = some (.int .i64 MX.s) ∧ w'.cell? ⟨w.heap.size, 3, none⟩ = some (.int .i64 MX.m) ∧ w'.cell? ⟨w.heap.size, 4, none⟩ = some (.int .i64 MX.l) ∧ w'.cell? ⟨w.heap.size, 5, none⟩ = some (.slice aX nX cX) ∧ w'.cell? ⟨w7.heap.size, 0, none⟩ = some (.int .i64 MX.c) ∧ w'.cell? ⟨w7.heap.size, 1, none⟩ = some (.int .i64 MX.d) ∧ w'.cell? ⟨w7.heap.size, 2, none⟩ = some (.int .i64 MX.s) ∧ w'.cell? ⟨w7.heap.size, 3, none⟩ = some (.int .i64 MX.m) ∧ w'.cell? ⟨w7.heap.size, 4, none⟩ = some (.int .i64 MX.l) ∧ w'.cell? ⟨w7.heap.size, 5, none⟩ = some (.slice axX nxX kxX)) (first | exact HK15.out _ (Below.refl _ _).drew | exact HK15.out _ ((Below.refl _ _).drew.trans bA15) | exact HK15.out _ (((Below.refl _ _).drew.trans bA15).trans (bB15.mono bA15.size)))
    (first | (go_at_call 16; refine (toSystemA_c _ _ _ _ X (stable_rows.below HF15.out (Below.refl _ _).drew) lbX).mono ?_; rintro e wA15 ⟨rv, rfl, ⟨uA15, rfl, rA15⟩, bA15⟩) | (go_at_call 20; refine (eqSystemA_c _ _ _ _ _ _ X (stable_rows.below HX15.out ((Below.refl _ _).drew.trans bA15)) rA15).mono ?_; rintro e w15 ⟨rv, rfl, rfl, bB15⟩))
  clear HK15 HF15 HX15
  have b15 : Below w13.heap.size w13 w15 := (((Below.refl _ _).drew.trans bA15).trans (bB15.mono bA15.size))
  have B15 : Below w.heap.size w w15 := B13.trans (b15.mono B13.size)
  have s15 : w13.heap.size ≤ w15.heap.size := b15.size
  replace rS0 := stable_ints.below rS0 b15
  replace rS1 := stable_ints.below rS1 b15
  replace rS2 := stable_ints.below rS2 b15
  replace rxX := stable_rows.below rxX b15
  replace rxcuts := stable_rows.below rxcuts b15
  replace rG0 := stable_ints.below rG0 b15
  replace rG1 := stable_ints.below rG1 b15
  replace rG2 := stable_ints.below rG2 b15
  replace q0X := (b15.cell (p := ⟨w.heap.size, 0, none⟩) (by show w.heap.size < w13.heap.size; omega)).trans q0X
  replace q1X := (b15.cell (p := ⟨w.heap.size, 1, none⟩) (by show w.heap.size < w13.heap.size; omega)).trans q1X
  replace q2X := (b15.cell (p := ⟨w.heap.size, 2, none⟩) (by show w.heap.size < w13.heap.size; omega)).trans q2X
  replace q3X := (b15.cell (p := ⟨w.heap.size, 3, none⟩) (by show w.heap.size < w13.heap.size; omega)).trans q3X
  replace q4X := (b15.cell (p := ⟨w.heap.size, 4, none⟩) (by show w.heap.size < w13.heap.size; omega)).trans q4X
  replace q5X := (b15.cell (p := ⟨w.heap.size, 5, none⟩) (by show w.heap.size < w13.heap.size; omega)).trans q5X
  replace p0X := (b15.cell (p := ⟨w7.heap.size, 0, none⟩) (by show w7.heap.size < w13.heap.size; omega)).trans p0X
  replace p1X := (b15.cell (p := ⟨w7.heap.size, 1, none⟩) (by show w7.heap.size < w13.heap.size; omega)).trans p1X
  replace p2X := (b15.cell (p := ⟨w7.heap.size, 2, none⟩) (by show w7.heap.size < w13.heap.size; omega)).trans p2X
  replace p3X := (b15.cell (p := ⟨w7.heap.size, 3, none⟩) (by show w7.heap.size < w13.heap.size; omega)).trans p3X
  replace p4X := (b15.cell (p := ⟨w7.heap.size, 4, none⟩) (by show w7.heap.size < w13.heap.size; omega)).trans p4X
  replace p5X := (b15.cell (p := ⟨w7.heap.size, 5, none⟩) (by show w7.heap.size < w13.heap.size; omega)).trans p5X
  go_wp2_with fail
  refine Calls.mono (toInt64SS_c w15 _ _ cuts (stable_rows.below hcuts B15) lbcuts) ?_
  rintro e w16 ⟨uccuts, rfl, rccuts, bb16⟩
  have b16 : Below w15.heap.size w15 w16 := bb16
  have B16 : Below w.heap.size w w16 := B15.trans (b16.mono B15.size)
  have s16 : w15.heap.size ≤ w16.heap.size := b16.size
  replace rS0 := stable_ints.below rS0 b16
  replace rS1 := stable_ints.below rS1 b16
  replace rS2 := stable_ints.below rS2 b16
  replace rxX := stable_rows.below rxX b16
  replace rxcuts := stable_rows.below rxcuts b16
  replace rG0 := stable_ints.below rG0 b16
  replace rG1 := stable_ints.below rG1 b16
  replace rG2 := stable_ints.below rG2 b16
  replace q0X := (b16.cell (p := ⟨w.heap.size, 0, none⟩) (by show w.heap.size < w15.heap.size; omega)).trans q0X
  replace q1X := (b16.cell (p := ⟨w.heap.size, 1, none⟩) (by show w.heap.size < w15.heap.size; omega)).trans q1X
  replace q2X := (b16.cell (p := ⟨w.heap.size, 2, none⟩) (by show w.heap.size < w15.heap.size; omega)).trans q2X
  replace q3X := (b16.cell (p := ⟨w.heap.size, 3, none⟩) (by show w.heap.size < w15.heap.size; omega)).trans q3X
  replace q4X := (b16.cell (p := ⟨w.heap.size, 4, none⟩) (by show w.heap.size < w15.heap.size; omega)).trans q4X
  replace q5X := (b16.cell (p := ⟨w.heap.size, 5, none⟩) (by show w.heap.size < w15.heap.size; omega)).trans q5X
  replace p0X := (b16.cell (p := ⟨w7.heap.size, 0, none⟩) (by show w7.heap.size < w15.heap.size; omega)).trans p0X
  replace p1X := (b16.cell (p := ⟨w7.heap.size, 1, none⟩) (by show w7.heap.size < w15.heap.size; omega)).trans p1X
  replace p2X := (b16.cell (p := ⟨w7.heap.size, 2, none⟩) (by show w7.heap.size < w15.heap.size; omega)).trans p2X
  replace p3X := (b16.cell (p := ⟨w7.heap.size, 3, none⟩) (by show w7.heap.size < w15.heap.size; omega)).trans p3X
  replace p4X := (b16.cell (p := ⟨w7.heap.size, 4, none⟩) (by show w7.heap.size < w15.heap.size; omega)).trans p4X
  replace p5X := (b16.cell (p := ⟨w7.heap.size, 5, none⟩) (by show w7.heap.size < w15.heap.size; omega)).trans p5X
  go_wp2_with fail
  refine Calls.mono (Calls.vq (eqInt64SS_c w16 _ _ _ _ cuts cuts rxcuts rccuts) (congrArg Value.bool (decide_eq_true rfl))) ?_
  rintro e w17 ⟨rfl, hd17⟩
  have b17 : Below w16.heap.size w16 w17 := hd17.below _
  have B17 : Below w.heap.size w w17 := B16.trans (b17.mono B16.size)
  have s17 : w16.heap.size ≤ w17.heap.size := b17.size
  replace rS0 := stable_ints.below rS0 b17
  replace rS1 := stable_ints.below rS1 b17
  replace rS2 := stable_ints.below rS2 b17
  replace rxX := stable_rows.below rxX b17
  replace rxcuts := stable_rows.below rxcuts b17
  replace rG0 := stable_ints.below rG0 b17
  replace rG1 := stable_ints.below rG1 b17
  replace rG2 := stable_ints.below rG2 b17
  replace rccuts := stable_rows.below rccuts b17
  replace q0X := (b17.cell (p := ⟨w.heap.size, 0, none⟩) (by show w.heap.size < w16.heap.size; omega)).trans q0X
  replace q1X := (b17.cell (p := ⟨w.heap.size, 1, none⟩) (by show w.heap.size < w16.heap.size; omega)).trans q1X
  replace q2X := (b17.cell (p := ⟨w.heap.size, 2, none⟩) (by show w.heap.size < w16.heap.size; omega)).trans q2X
  replace q3X := (b17.cell (p := ⟨w.heap.size, 3, none⟩) (by show w.heap.size < w16.heap.size; omega)).trans q3X
  replace q4X := (b17.cell (p := ⟨w.heap.size, 4, none⟩) (by show w.heap.size < w16.heap.size; omega)).trans q4X
  replace q5X := (b17.cell (p := ⟨w.heap.size, 5, none⟩) (by show w.heap.size < w16.heap.size; omega)).trans q5X
  replace p0X := (b17.cell (p := ⟨w7.heap.size, 0, none⟩) (by show w7.heap.size < w16.heap.size; omega)).trans p0X
  replace p1X := (b17.cell (p := ⟨w7.heap.size, 1, none⟩) (by show w7.heap.size < w16.heap.size; omega)).trans p1X
  replace p2X := (b17.cell (p := ⟨w7.heap.size, 2, none⟩) (by show w7.heap.size < w16.heap.size; omega)).trans p2X
  replace p3X := (b17.cell (p := ⟨w7.heap.size, 3, none⟩) (by show w7.heap.size < w16.heap.size; omega)).trans p3X
  replace p4X := (b17.cell (p := ⟨w7.heap.size, 4, none⟩) (by show w7.heap.size < w16.heap.size; omega)).trans p4X
  replace p5X := (b17.cell (p := ⟨w7.heap.size, 5, none⟩) (by show w7.heap.size < w16.heap.size; omega)).trans p5X
  clear rccuts
  have ofX : offs X X.length ≤ 1048576 := by have := offs_all X; omega
  have ofcuts : offs cuts cuts.length ≤ 1048576 := by have := offs_all cuts; omega
  go_wp2_with fail
  refine Calls.mono (markSystemA_c w17 _ _ _ X _ rxX rfl (by omega) (by omega)) ?_
  rintro e w18 ⟨rfl, rmxX, wm18, hb18, hw18⟩
  have hz18 : w18.heap.size = wm18.heap.size := hw18.size
  have hy18 : w17.heap.size ≤ wm18.heap.size := hb18.size
  have B18 : Below w.heap.size w w18 := (B17.trans (hb18.mono B17.size)).trans (hw18.below (by simp only [Zone.new]; omega))
  clear rxX
  replace rS0 := stable_ints.within (stable_ints.below rS0 hb18) hw18 (fun k h1 h2 => by have q1 := h1.1; have q2 := h1.2; have q3 := h2.1; have q4 := h2.2; simp only [Zone.new] at q1 q2 q3 q4; omega)
  replace rS1 := stable_ints.within (stable_ints.below rS1 hb18) hw18 (fun k h1 h2 => by have q1 := h1.1; have q2 := h1.2; have q3 := h2.1; have q4 := h2.2; simp only [Zone.new] at q1 q2 q3 q4; omega)
  replace rS2 := stable_ints.within (stable_ints.below rS2 hb18) hw18 (fun k h1 h2 => by have q1 := h1.1; have q2 := h1.2; have q3 := h2.1; have q4 := h2.2; simp only [Zone.new] at q1 q2 q3 q4; omega)
  replace rxcuts := stable_rows.within (stable_rows.below rxcuts hb18) hw18 (fun k h1 h2 => by have q1 := h1.1; have q2 := h1.2; have q3 := h2.1; have q4 := h2.2; simp only [Zone.new] at q1 q2 q3 q4; omega)
  replace rG0 := stable_ints.within (stable_ints.below rG0 hb18) hw18 (fun k h1 h2 => by have q1 := h1.1; have q2 := h1.2; have q3 := h2.1; have q4 := h2.2; simp only [Zone.new] at q1 q2 q3 q4; omega)
  replace rG1 := stable_ints.within (stable_ints.below rG1 hb18) hw18 (fun k h1 h2 => by have q1 := h1.1; have q2 := h1.2; have q3 := h2.1; have q4 := h2.2; simp only [Zone.new] at q1 q2 q3 q4; omega)
  replace rG2 := stable_ints.within (stable_ints.below rG2 hb18) hw18 (fun k h1 h2 => by have q1 := h1.1; have q2 := h1.2; have q3 := h2.1; have q4 := h2.2; simp only [Zone.new] at q1 q2 q3 q4; omega)
  clear p0X
  clear p1X
  clear p2X
  clear p3X
  clear p4X
  clear p5X
  replace q0X := (hw18.cell (p := ⟨w.heap.size, 0, none⟩) (fun h => by have q1 := h.1; have q2 := h.2; simp only [Zone.new] at q1 q2; omega)).trans ((hb18.cell (p := ⟨w.heap.size, 0, none⟩) (by show w.heap.size < w17.heap.size; omega)).trans q0X)
  replace q1X := (hw18.cell (p := ⟨w.heap.size, 1, none⟩) (fun h => by have q1 := h.1; have q2 := h.2; simp only [Zone.new] at q1 q2; omega)).trans ((hb18.cell (p := ⟨w.heap.size, 1, none⟩) (by show w.heap.size < w17.heap.size; omega)).trans q1X)
  replace q2X := (hw18.cell (p := ⟨w.heap.size, 2, none⟩) (fun h => by have q1 := h.1; have q2 := h.2; simp only [Zone.new] at q1 q2; omega)).trans ((hb18.cell (p := ⟨w.heap.size, 2, none⟩) (by show w.heap.size < w17.heap.size; omega)).trans q2X)
  replace q3X := (hw18.cell (p := ⟨w.heap.size, 3, none⟩) (fun h => by have q1 := h.1; have q2 := h.2; simp only [Zone.new] at q1 q2; omega)).trans ((hb18.cell (p := ⟨w.heap.size, 3, none⟩) (by show w.heap.size < w17.heap.size; omega)).trans q3X)
  replace q4X := (hw18.cell (p := ⟨w.heap.size, 4, none⟩) (fun h => by have q1 := h.1; have q2 := h.2; simp only [Zone.new] at q1 q2; omega)).trans ((hb18.cell (p := ⟨w.heap.size, 4, none⟩) (by show w.heap.size < w17.heap.size; omega)).trans q4X)
  replace q5X := (hw18.cell (p := ⟨w.heap.size, 5, none⟩) (fun h => by have q1 := h.1; have q2 := h.2; simp only [Zone.new] at q1 q2; omega)).trans ((hb18.cell (p := ⟨w.heap.size, 5, none⟩) (by show w.heap.size < w17.heap.size; omega)).trans q5X)
  have s18 : w17.heap.size ≤ w18.heap.size := by omega
  clear hw18 hb18
  clear rmxX
  have ck1 : (0 : Int) ≤ 1 + (offs X X.length : Int) ∧ 1 + (offs X X.length : Int) ≤ 1048577 := by omega
  obtain ⟨ck1a, ck1b⟩ := ck1
  generalize (1 : Int) + (offs X X.length : Int) = k1 at *
  go_wp2_with fail
  refine Calls.mono (markInt64SS_c w18 _ _ cuts _ rxcuts rfl (by omega) (by omega)) ?_
  rintro e w19 ⟨rfl, rmxcuts, hw19⟩
  have hz19 : w19.heap.size = w18.heap.size := hw19.size
  have B19 : Below w.heap.size w w19 := B18.trans (hw19.below (by simp only [Zone.new]; omega))
  clear rxcuts
  replace rS0 := stable_ints.within rS0 hw19 (fun k h1 h2 => by have q1 := h1.1; have q2 := h1.2; have q3 := h2.1; have q4 := h2.2; simp only [Zone.new] at q1 q2 q3 q4; omega)
  replace rS1 := stable_ints.within rS1 hw19 (fun k h1 h2 => by have q1 := h1.1; have q2 := h1.2; have q3 := h2.1; have q4 := h2.2; simp only [Zone.new] at q1 q2 q3 q4; omega)
  replace rS2 := stable_ints.within rS2 hw19 (fun k h1 h2 => by have q1 := h1.1; have q2 := h1.2; have q3 := h2.1; have q4 := h2.2; simp only [Zone.new] at q1 q2 q3 q4; omega)
  replace rG0 := stable_ints.within rG0 hw19 (fun k h1 h2 => by have q1 := h1.1; have q2 := h1.2; have q3 := h2.1; have q4 := h2.2; simp only [Zone.new] at q1 q2 q3 q4; omega)
  replace rG1 := stable_ints.within rG1 hw19 (fun k h1 h2 => by have q1 := h1.1; have q2 := h1.2; have q3 := h2.1; have q4 := h2.2; simp only [Zone.new] at q1 q2 q3 q4; omega)
  replace rG2 := stable_ints.within rG2 hw19 (fun k h1 h2 => by have q1 := h1.1; have q2 := h1.2; have q3 := h2.1; have q4 := h2.2; simp only [Zone.new] at q1 q2 q3 q4; omega)
  replace q0X := (hw19.cell (p := ⟨w.heap.size, 0, none⟩) (fun h => by have q1 := h.1; have q2 := h.2; simp only [Zone.new] at q1 q2; omega)).trans q0X
  replace q1X := (hw19.cell (p := ⟨w.heap.size, 1, none⟩) (fun h => by have q1 := h.1; have q2 := h.2; simp only [Zone.new] at q1 q2; omega)).trans q1X
  replace q2X := (hw19.cell (p := ⟨w.heap.size, 2, none⟩) (fun h => by have q1 := h.1; have q2 := h.2; simp only [Zone.new] at q1 q2; omega)).trans q2X
  replace q3X := (hw19.cell (p := ⟨w.heap.size, 3, none⟩) (fun h => by have q1 := h.1; have q2 := h.2; simp only [Zone.new] at q1 q2; omega)).trans q3X
  replace q4X := (hw19.cell (p := ⟨w.heap.size, 4, none⟩) (fun h => by have q1 := h.1; have q2 := h.2; simp only [Zone.new] at q1 q2; omega)).trans q4X
  replace q5X := (hw19.cell (p := ⟨w.heap.size, 5, none⟩) (fun h => by have q1 := h.1; have q2 := h.2; simp only [Zone.new] at q1 q2; omega)).trans q5X
  have s19 : w18.heap.size ≤ w19.heap.size := by omega
  clear hw19
  clear rmxcuts
  have ck2 : (0 : Int) ≤ k1 + (offs cuts cuts.length : Int) ∧ k1 + (offs cuts cuts.length : Int) ≤ 2097153 := by omega
  obtain ⟨ck2a, ck2b⟩ := ck2
  generalize (k1 : Int) + (offs cuts cuts.length : Int) = k2 at *
  go_wp2_with fail
  refine Calls.mono (Calls.vq (eqInt64S_c w19 _ _ _ _ res0 res0 rG0 rS0) (congrArg Value.bool (decide_eq_true rfl))) ?_
  rintro e w20 ⟨rfl, hd20⟩
  have b20 : Below w19.heap.size w19 w20 := hd20.below _
  have B20 : Below w.heap.size w w20 := B19.trans (b20.mono B19.size)
  have s20 : w19.heap.size ≤ w20.heap.size := b20.size
  replace rS0 := stable_ints.below rS0 b20
  replace rS1 := stable_ints.below rS1 b20
  replace rS2 := stable_ints.below rS2 b20
  replace rG0 := stable_ints.below rG0 b20
  replace rG1 := stable_ints.below rG1 b20
  replace rG2 := stable_ints.below rG2 b20
  replace q0X := (b20.cell (p := ⟨w.heap.size, 0, none⟩) (by show w.heap.size < w19.heap.size; omega)).trans q0X
  replace q1X := (b20.cell (p := ⟨w.heap.size, 1, none⟩) (by show w.heap.size < w19.heap.size; omega)).trans q1X
  replace q2X := (b20.cell (p := ⟨w.heap.size, 2, none⟩) (by show w.heap.size < w19.heap.size; omega)).trans q2X
  replace q3X := (b20.cell (p := ⟨w.heap.size, 3, none⟩) (by show w.heap.size < w19.heap.size; omega)).trans q3X
  replace q4X := (b20.cell (p := ⟨w.heap.size, 4, none⟩) (by show w.heap.size < w19.heap.size; omega)).trans q4X
  replace q5X := (b20.cell (p := ⟨w.heap.size, 5, none⟩) (by show w.heap.size < w19.heap.size; omega)).trans q5X
  go_wp2_with fail
  refine Calls.mono (Calls.vq (eqInt64S_c w20 _ _ _ _ res1 res1 rG1 rS1) (congrArg Value.bool (decide_eq_true rfl))) ?_
  rintro e w21 ⟨rfl, hd21⟩
  have b21 : Below w20.heap.size w20 w21 := hd21.below _
  have B21 : Below w.heap.size w w21 := B20.trans (b21.mono B20.size)
  have s21 : w20.heap.size ≤ w21.heap.size := b21.size
  replace rS0 := stable_ints.below rS0 b21
  replace rS1 := stable_ints.below rS1 b21
  replace rS2 := stable_ints.below rS2 b21
  replace rG0 := stable_ints.below rG0 b21
  replace rG1 := stable_ints.below rG1 b21
  replace rG2 := stable_ints.below rG2 b21
  replace q0X := (b21.cell (p := ⟨w.heap.size, 0, none⟩) (by show w.heap.size < w20.heap.size; omega)).trans q0X
  replace q1X := (b21.cell (p := ⟨w.heap.size, 1, none⟩) (by show w.heap.size < w20.heap.size; omega)).trans q1X
  replace q2X := (b21.cell (p := ⟨w.heap.size, 2, none⟩) (by show w.heap.size < w20.heap.size; omega)).trans q2X
  replace q3X := (b21.cell (p := ⟨w.heap.size, 3, none⟩) (by show w.heap.size < w20.heap.size; omega)).trans q3X
  replace q4X := (b21.cell (p := ⟨w.heap.size, 4, none⟩) (by show w.heap.size < w20.heap.size; omega)).trans q4X
  replace q5X := (b21.cell (p := ⟨w.heap.size, 5, none⟩) (by show w.heap.size < w20.heap.size; omega)).trans q5X
  go_wp2_with fail
  refine Calls.mono (Calls.vq (eqInt64S_c w21 _ _ _ _ res2 res2 rG2 rS2) (congrArg Value.bool (decide_eq_true rfl))) ?_
  rintro e w22 ⟨rfl, hd22⟩
  have b22 : Below w21.heap.size w21 w22 := hd22.below _
  have B22 : Below w.heap.size w w22 := B21.trans (b22.mono B21.size)
  have s22 : w21.heap.size ≤ w22.heap.size := b22.size
  replace rS0 := stable_ints.below rS0 b22
  replace rS1 := stable_ints.below rS1 b22
  replace rS2 := stable_ints.below rS2 b22
  replace rG0 := stable_ints.below rG0 b22
  replace rG1 := stable_ints.below rG1 b22
  replace rG2 := stable_ints.below rG2 b22
  replace q0X := (b22.cell (p := ⟨w.heap.size, 0, none⟩) (by show w.heap.size < w21.heap.size; omega)).trans q0X
  replace q1X := (b22.cell (p := ⟨w.heap.size, 1, none⟩) (by show w.heap.size < w21.heap.size; omega)).trans q1X
  replace q2X := (b22.cell (p := ⟨w.heap.size, 2, none⟩) (by show w.heap.size < w21.heap.size; omega)).trans q2X
  replace q3X := (b22.cell (p := ⟨w.heap.size, 3, none⟩) (by show w.heap.size < w21.heap.size; omega)).trans q3X
  replace q4X := (b22.cell (p := ⟨w.heap.size, 4, none⟩) (by show w.heap.size < w21.heap.size; omega)).trans q4X
  replace q5X := (b22.cell (p := ⟨w.heap.size, 5, none⟩) (by show w.heap.size < w21.heap.size; omega)).trans q5X
  go_wp2_with fail
  refine Calls.mono (markInt64S_c w22 _ _ res0 _ rG0 rfl (by omega) (by omega)) ?_
  rintro e w23 ⟨rfl, rmG0, hw23⟩
  have hz23 : w23.heap.size = w22.heap.size := hw23.size
  have B23 : Below w.heap.size w w23 := B22.trans (hw23.below (by simp only; omega))
  clear rG0
  replace rS0 := stable_ints.within rS0 hw23 (fun k h1 h2 => by have q1 := h1.1; have q2 := h1.2; have q3 := h2.1; have q4 := h2.2; simp only at q1 q2 q3 q4; omega)
  replace rS1 := stable_ints.within rS1 hw23 (fun k h1 h2 => by have q1 := h1.1; have q2 := h1.2; have q3 := h2.1; have q4 := h2.2; simp only at q1 q2 q3 q4; omega)
  replace rS2 := stable_ints.within rS2 hw23 (fun k h1 h2 => by have q1 := h1.1; have q2 := h1.2; have q3 := h2.1; have q4 := h2.2; simp only at q1 q2 q3 q4; omega)
  replace rG1 := stable_ints.within rG1 hw23 (fun k h1 h2 => by have q1 := h1.1; have q2 := h1.2; have q3 := h2.1; have q4 := h2.2; simp only at q1 q2 q3 q4; omega)
  replace rG2 := stable_ints.within rG2 hw23 (fun k h1 h2 => by have q1 := h1.1; have q2 := h1.2; have q3 := h2.1; have q4 := h2.2; simp only at q1 q2 q3 q4; omega)
  replace q0X := (hw23.cell (p := ⟨w.heap.size, 0, none⟩) (fun h => by have q1 := h.1; have q2 := h.2; simp only at q1 q2; omega)).trans q0X
  replace q1X := (hw23.cell (p := ⟨w.heap.size, 1, none⟩) (fun h => by have q1 := h.1; have q2 := h.2; simp only at q1 q2; omega)).trans q1X
  replace q2X := (hw23.cell (p := ⟨w.heap.size, 2, none⟩) (fun h => by have q1 := h.1; have q2 := h.2; simp only at q1 q2; omega)).trans q2X
  replace q3X := (hw23.cell (p := ⟨w.heap.size, 3, none⟩) (fun h => by have q1 := h.1; have q2 := h.2; simp only at q1 q2; omega)).trans q3X
  replace q4X := (hw23.cell (p := ⟨w.heap.size, 4, none⟩) (fun h => by have q1 := h.1; have q2 := h.2; simp only at q1 q2; omega)).trans q4X
  replace q5X := (hw23.cell (p := ⟨w.heap.size, 5, none⟩) (fun h => by have q1 := h.1; have q2 := h.2; simp only at q1 q2; omega)).trans q5X
  have s23 : w22.heap.size ≤ w23.heap.size := by omega
  clear hw23
  obtain ⟨m1, em1⟩ : ∃ t : Int, t = 1 + (res0.length : Int) := ⟨_, rfl⟩
  rw [← em1]
  have gm1a : 0 ≤ m1 ∧ m1 ≤ 1048577 := by omega
  have Em1 := Lib.hid em1; clear em1; obtain ⟨gm1a, gm1b⟩ := gm1a
  go_wp2_with fail
  refine Calls.mono (markInt64S_c w23 _ _ res1 _ rG1 rfl (by omega) (by omega)) ?_
  rintro e w24 ⟨rfl, rmG1, hw24⟩
  have hz24 : w24.heap.size = w23.heap.size := hw24.size
  have B24 : Below w.heap.size w w24 := B23.trans (hw24.below (by simp only; omega))
  clear rG1
  replace rS0 := stable_ints.within rS0 hw24 (fun k h1 h2 => by have q1 := h1.1; have q2 := h1.2; have q3 := h2.1; have q4 := h2.2; simp only at q1 q2 q3 q4; omega)
  replace rS1 := stable_ints.within rS1 hw24 (fun k h1 h2 => by have q1 := h1.1; have q2 := h1.2; have q3 := h2.1; have q4 := h2.2; simp only at q1 q2 q3 q4; omega)
  replace rS2 := stable_ints.within rS2 hw24 (fun k h1 h2 => by have q1 := h1.1; have q2 := h1.2; have q3 := h2.1; have q4 := h2.2; simp only at q1 q2 q3 q4; omega)
  replace rG2 := stable_ints.within rG2 hw24 (fun k h1 h2 => by have q1 := h1.1; have q2 := h1.2; have q3 := h2.1; have q4 := h2.2; simp only at q1 q2 q3 q4; omega)
  replace rmG0 := stable_ints.within rmG0 hw24 (fun k h1 h2 => by have q1 := h1.1; have q2 := h1.2; have q3 := h2.1; have q4 := h2.2; simp only at q1 q2 q3 q4; omega)
  replace q0X := (hw24.cell (p := ⟨w.heap.size, 0, none⟩) (fun h => by have q1 := h.1; have q2 := h.2; simp only at q1 q2; omega)).trans q0X
  replace q1X := (hw24.cell (p := ⟨w.heap.size, 1, none⟩) (fun h => by have q1 := h.1; have q2 := h.2; simp only at q1 q2; omega)).trans q1X
  replace q2X := (hw24.cell (p := ⟨w.heap.size, 2, none⟩) (fun h => by have q1 := h.1; have q2 := h.2; simp only at q1 q2; omega)).trans q2X
  replace q3X := (hw24.cell (p := ⟨w.heap.size, 3, none⟩) (fun h => by have q1 := h.1; have q2 := h.2; simp only at q1 q2; omega)).trans q3X
  replace q4X := (hw24.cell (p := ⟨w.heap.size, 4, none⟩) (fun h => by have q1 := h.1; have q2 := h.2; simp only at q1 q2; omega)).trans q4X
  replace q5X := (hw24.cell (p := ⟨w.heap.size, 5, none⟩) (fun h => by have q1 := h.1; have q2 := h.2; simp only at q1 q2; omega)).trans q5X
  have s24 : w23.heap.size ≤ w24.heap.size := by omega
  clear hw24
  obtain ⟨m2, em2⟩ : ∃ t : Int, t = m1 + (res1.length : Int) := ⟨_, rfl⟩
  rw [← em2]
  have gm2a : 0 ≤ m2 ∧ m2 ≤ 2097153 := by omega
  have Em2 := Lib.hid em2; clear em2; obtain ⟨gm2a, gm2b⟩ := gm2a
  go_wp2_with fail
  refine Calls.mono (markInt64S_c w24 _ _ res2 _ rG2 rfl (by omega) (by omega)) ?_
  rintro e w25 ⟨rfl, rmG2, hw25⟩
  have hz25 : w25.heap.size = w24.heap.size := hw25.size
  have B25 : Below w.heap.size w w25 := B24.trans (hw25.below (by simp only; omega))
  clear rG2
  replace rS0 := stable_ints.within rS0 hw25 (fun k h1 h2 => by have q1 := h1.1; have q2 := h1.2; have q3 := h2.1; have q4 := h2.2; simp only at q1 q2 q3 q4; omega)
  replace rS1 := stable_ints.within rS1 hw25 (fun k h1 h2 => by have q1 := h1.1; have q2 := h1.2; have q3 := h2.1; have q4 := h2.2; simp only at q1 q2 q3 q4; omega)
  replace rS2 := stable_ints.within rS2 hw25 (fun k h1 h2 => by have q1 := h1.1; have q2 := h1.2; have q3 := h2.1; have q4 := h2.2; simp only at q1 q2 q3 q4; omega)
  replace rmG0 := stable_ints.within rmG0 hw25 (fun k h1 h2 => by have q1 := h1.1; have q2 := h1.2; have q3 := h2.1; have q4 := h2.2; simp only at q1 q2 q3 q4; omega)
  replace rmG1 := stable_ints.within rmG1 hw25 (fun k h1 h2 => by have q1 := h1.1; have q2 := h1.2; have q3 := h2.1; have q4 := h2.2; simp only at q1 q2 q3 q4; omega)
  replace q0X := (hw25.cell (p := ⟨w.heap.size, 0, none⟩) (fun h => by have q1 := h.1; have q2 := h.2; simp only at q1 q2; omega)).trans q0X
  replace q1X := (hw25.cell (p := ⟨w.heap.size, 1, none⟩) (fun h => by have q1 := h.1; have q2 := h.2; simp only at q1 q2; omega)).trans q1X
  replace q2X := (hw25.cell (p := ⟨w.heap.size, 2, none⟩) (fun h => by have q1 := h.1; have q2 := h.2; simp only at q1 q2; omega)).trans q2X
  replace q3X := (hw25.cell (p := ⟨w.heap.size, 3, none⟩) (fun h => by have q1 := h.1; have q2 := h.2; simp only at q1 q2; omega)).trans q3X
  replace q4X := (hw25.cell (p := ⟨w.heap.size, 4, none⟩) (fun h => by have q1 := h.1; have q2 := h.2; simp only at q1 q2; omega)).trans q4X
  replace q5X := (hw25.cell (p := ⟨w.heap.size, 5, none⟩) (fun h => by have q1 := h.1; have q2 := h.2; simp only at q1 q2; omega)).trans q5X
  have s25 : w24.heap.size ≤ w25.heap.size := by omega
  clear hw25
  obtain ⟨m3, em3⟩ : ∃ t : Int, t = m2 + (res2.length : Int) := ⟨_, rfl⟩
  rw [← em3]
  have gm3a : 0 ≤ m3 ∧ m3 ≤ 3145729 := by omega
  have Em3 := Lib.hid em3; clear em3; obtain ⟨gm3a, gm3b⟩ := gm3a
  go_wp2_with fail
  refine Calls.mono (Calls.vq (heldInt64S_c w25 _ _ res0.length _ rmG0 (by omega) (by have := Em1.out; omega)) (congrArg (Value.int .i64) Em1.out.symm)) ?_
  rintro e w26 ⟨rfl, hd26⟩
  have b26 : Below w25.heap.size w25 w26 := hd26.below _
  have B26 : Below w.heap.size w w26 := B25.trans (b26.mono B25.size)
  have s26 : w25.heap.size ≤ w26.heap.size := b26.size
  replace rS0 := stable_ints.below rS0 b26
  replace rS1 := stable_ints.below rS1 b26
  replace rS2 := stable_ints.below rS2 b26
  replace rmG0 := stable_ints.below rmG0 b26
  replace rmG1 := stable_ints.below rmG1 b26
  replace rmG2 := stable_ints.below rmG2 b26
  replace q0X := (b26.cell (p := ⟨w.heap.size, 0, none⟩) (by show w.heap.size < w25.heap.size; omega)).trans q0X
  replace q1X := (b26.cell (p := ⟨w.heap.size, 1, none⟩) (by show w.heap.size < w25.heap.size; omega)).trans q1X
  replace q2X := (b26.cell (p := ⟨w.heap.size, 2, none⟩) (by show w.heap.size < w25.heap.size; omega)).trans q2X
  replace q3X := (b26.cell (p := ⟨w.heap.size, 3, none⟩) (by show w.heap.size < w25.heap.size; omega)).trans q3X
  replace q4X := (b26.cell (p := ⟨w.heap.size, 4, none⟩) (by show w.heap.size < w25.heap.size; omega)).trans q4X
  replace q5X := (b26.cell (p := ⟨w.heap.size, 5, none⟩) (by show w.heap.size < w25.heap.size; omega)).trans q5X
  go_wp2_with fail
  refine Calls.mono (Calls.vq (heldInt64S_c w26 _ _ res1.length _ rmG1 (by omega) (by have := Em2.out; omega)) (congrArg (Value.int .i64) Em2.out.symm)) ?_
  rintro e w27 ⟨rfl, hd27⟩
  have b27 : Below w26.heap.size w26 w27 := hd27.below _
  have B27 : Below w.heap.size w w27 := B26.trans (b27.mono B26.size)
  have s27 : w26.heap.size ≤ w27.heap.size := b27.size
  replace rS0 := stable_ints.below rS0 b27
  replace rS1 := stable_ints.below rS1 b27
  replace rS2 := stable_ints.below rS2 b27
  replace rmG0 := stable_ints.below rmG0 b27
  replace rmG1 := stable_ints.below rmG1 b27
  replace rmG2 := stable_ints.below rmG2 b27
  replace q0X := (b27.cell (p := ⟨w.heap.size, 0, none⟩) (by show w.heap.size < w26.heap.size; omega)).trans q0X
  replace q1X := (b27.cell (p := ⟨w.heap.size, 1, none⟩) (by show w.heap.size < w26.heap.size; omega)).trans q1X
  replace q2X := (b27.cell (p := ⟨w.heap.size, 2, none⟩) (by show w.heap.size < w26.heap.size; omega)).trans q2X
  replace q3X := (b27.cell (p := ⟨w.heap.size, 3, none⟩) (by show w.heap.size < w26.heap.size; omega)).trans q3X
  replace q4X := (b27.cell (p := ⟨w.heap.size, 4, none⟩) (by show w.heap.size < w26.heap.size; omega)).trans q4X
  replace q5X := (b27.cell (p := ⟨w.heap.size, 5, none⟩) (by show w.heap.size < w26.heap.size; omega)).trans q5X
  go_wp2_with fail
  refine Calls.mono (Calls.vq (heldInt64S_c w27 _ _ res2.length _ rmG2 (by omega) (by have := Em3.out; omega)) (congrArg (Value.int .i64) Em3.out.symm)) ?_
  rintro e w28 ⟨rfl, hd28⟩
  have b28 : Below w27.heap.size w27 w28 := hd28.below _
  have B28 : Below w.heap.size w w28 := B27.trans (b28.mono B27.size)
  have s28 : w27.heap.size ≤ w28.heap.size := b28.size
  replace rS0 := stable_ints.below rS0 b28
  replace rS1 := stable_ints.below rS1 b28
  replace rS2 := stable_ints.below rS2 b28
  replace rmG0 := stable_ints.below rmG0 b28
  replace rmG1 := stable_ints.below rmG1 b28
  replace rmG2 := stable_ints.below rmG2 b28
  replace q0X := (b28.cell (p := ⟨w.heap.size, 0, none⟩) (by show w.heap.size < w27.heap.size; omega)).trans q0X
  replace q1X := (b28.cell (p := ⟨w.heap.size, 1, none⟩) (by show w.heap.size < w27.heap.size; omega)).trans q1X
  replace q2X := (b28.cell (p := ⟨w.heap.size, 2, none⟩) (by show w.heap.size < w27.heap.size; omega)).trans q2X
  replace q3X := (b28.cell (p := ⟨w.heap.size, 3, none⟩) (by show w.heap.size < w27.heap.size; omega)).trans q3X
  replace q4X := (b28.cell (p := ⟨w.heap.size, 4, none⟩) (by show w.heap.size < w27.heap.size; omega)).trans q4X
  replace q5X := (b28.cell (p := ⟨w.heap.size, 5, none⟩) (by show w.heap.size < w27.heap.size; omega)).trans q5X
  go_wp2_with fail
  refine Calls.mono (toSystemA_c w28 MX _ _ X (stable_rows.below hX B28) lbX) ?_
  rintro e w29 ⟨rvyX, rfl, ⟨uyX, rfl, ryX⟩, bb29⟩
  have b29 : Below w28.heap.size w28 w29 := bb29
  have B29 : Below w.heap.size w w29 := B28.trans (b29.mono B28.size)
  have s29 : w28.heap.size ≤ w29.heap.size := b29.size
  replace rS0 := stable_ints.below rS0 b29
  replace rS1 := stable_ints.below rS1 b29
  replace rS2 := stable_ints.below rS2 b29
  replace rmG0 := stable_ints.below rmG0 b29
  replace rmG1 := stable_ints.below rmG1 b29
  replace rmG2 := stable_ints.below rmG2 b29
  replace q0X := (b29.cell (p := ⟨w.heap.size, 0, none⟩) (by show w.heap.size < w28.heap.size; omega)).trans q0X
  replace q1X := (b29.cell (p := ⟨w.heap.size, 1, none⟩) (by show w.heap.size < w28.heap.size; omega)).trans q1X
  replace q2X := (b29.cell (p := ⟨w.heap.size, 2, none⟩) (by show w.heap.size < w28.heap.size; omega)).trans q2X
  replace q3X := (b29.cell (p := ⟨w.heap.size, 3, none⟩) (by show w.heap.size < w28.heap.size; omega)).trans q3X
  replace q4X := (b29.cell (p := ⟨w.heap.size, 4, none⟩) (by show w.heap.size < w28.heap.size; omega)).trans q4X
  replace q5X := (b29.cell (p := ⟨w.heap.size, 5, none⟩) (by show w.heap.size < w28.heap.size; omega)).trans q5X
  obtain ⟨ayX, nyX, kyX, rfl, -⟩ := SliceR.shape ryX
  go_wp2_with fail
  refine Calls.mono (toInt64SS_c w29 _ _ cuts (stable_rows.below hcuts B29) lbcuts) ?_
  rintro e w30 ⟨uycuts, rfl, rycuts, bb30⟩
  have b30 : Below w29.heap.size w29 w30 := bb30
  have B30 : Below w.heap.size w w30 := B29.trans (b30.mono B29.size)
  have s30 : w29.heap.size ≤ w30.heap.size := b30.size
  replace rS0 := stable_ints.below rS0 b30
  replace rS1 := stable_ints.below rS1 b30
  replace rS2 := stable_ints.below rS2 b30
  replace rmG0 := stable_ints.below rmG0 b30
  replace rmG1 := stable_ints.below rmG1 b30
  replace rmG2 := stable_ints.below rmG2 b30
  replace ryX := stable_rows.below ryX b30
  replace q0X := (b30.cell (p := ⟨w.heap.size, 0, none⟩) (by show w.heap.size < w29.heap.size; omega)).trans q0X
  replace q1X := (b30.cell (p := ⟨w.heap.size, 1, none⟩) (by show w.heap.size < w29.heap.size; omega)).trans q1X
  replace q2X := (b30.cell (p := ⟨w.heap.size, 2, none⟩) (by show w.heap.size < w29.heap.size; omega)).trans q2X
  replace q3X := (b30.cell (p := ⟨w.heap.size, 3, none⟩) (by show w.heap.size < w29.heap.size; omega)).trans q3X
  replace q4X := (b30.cell (p := ⟨w.heap.size, 4, none⟩) (by show w.heap.size < w29.heap.size; omega)).trans q4X
  replace q5X := (b30.cell (p := ⟨w.heap.size, 5, none⟩) (by show w.heap.size < w29.heap.size; omega)).trans q5X
  go_wp2_with fail
  refine Calls.mono (CI.out w30 _ _ _ _ ryX rycuts) ?_
  rintro e w31 ⟨rr31, rfl, ⟨H0, H1, H2, zlH0, zhH0, zlH1, zhH1, zlH2, zhH2, rfl, ⟨mlH0, mlH1, mlH2, mlH3, mlH4, mlH5, mlH6, mlH7, mlH8⟩, rH0, rH1, rH2⟩, bb31⟩
  have b31 : Below w30.heap.size w30 w31 := bb31
  have B31 : Below w.heap.size w w31 := B30.trans (b31.mono B30.size)
  have s31 : w30.heap.size ≤ w31.heap.size := b31.size
  replace rS0 := stable_ints.below rS0 b31
  replace rS1 := stable_ints.below rS1 b31
  replace rS2 := stable_ints.below rS2 b31
  replace rmG0 := stable_ints.below rmG0 b31
  replace rmG1 := stable_ints.below rmG1 b31
  replace rmG2 := stable_ints.below rmG2 b31
  replace ryX := stable_rows.below ryX b31
  replace rycuts := stable_rows.below rycuts b31
  replace q0X := (b31.cell (p := ⟨w.heap.size, 0, none⟩) (by show w.heap.size < w30.heap.size; omega)).trans q0X
  replace q1X := (b31.cell (p := ⟨w.heap.size, 1, none⟩) (by show w.heap.size < w30.heap.size; omega)).trans q1X
  replace q2X := (b31.cell (p := ⟨w.heap.size, 2, none⟩) (by show w.heap.size < w30.heap.size; omega)).trans q2X
  replace q3X := (b31.cell (p := ⟨w.heap.size, 3, none⟩) (by show w.heap.size < w30.heap.size; omega)).trans q3X
  replace q4X := (b31.cell (p := ⟨w.heap.size, 4, none⟩) (by show w.heap.size < w30.heap.size; omega)).trans q4X
  replace q5X := (b31.cell (p := ⟨w.heap.size, 5, none⟩) (by show w.heap.size < w30.heap.size; omega)).trans q5X
  clear ryX
  clear rycuts
  go_wp2_with fail
  refine Calls.mono (Calls.vq (eqInt64S_c w31 _ _ _ _ res0 res0 rH0 rS0) (congrArg Value.bool (decide_eq_true rfl))) ?_
  rintro e w32 ⟨rfl, hd32⟩
  have b32 : Below w31.heap.size w31 w32 := hd32.below _
  have B32 : Below w.heap.size w w32 := B31.trans (b32.mono B31.size)
  have s32 : w31.heap.size ≤ w32.heap.size := b32.size
  replace rS0 := stable_ints.below rS0 b32
  replace rS1 := stable_ints.below rS1 b32
  replace rS2 := stable_ints.below rS2 b32
  replace rmG0 := stable_ints.below rmG0 b32
  replace rmG1 := stable_ints.below rmG1 b32
  replace rmG2 := stable_ints.below rmG2 b32
  replace rH0 := stable_ints.below rH0 b32
  replace rH1 := stable_ints.below rH1 b32
  replace rH2 := stable_ints.below rH2 b32
  replace q0X := (b32.cell (p := ⟨w.heap.size, 0, none⟩) (by show w.heap.size < w31.heap.size; omega)).trans q0X
  replace q1X := (b32.cell (p := ⟨w.heap.size, 1, none⟩) (by show w.heap.size < w31.heap.size; omega)).trans q1X
  replace q2X := (b32.cell (p := ⟨w.heap.size, 2, none⟩) (by show w.heap.size < w31.heap.size; omega)).trans q2X
  replace q3X := (b32.cell (p := ⟨w.heap.size, 3, none⟩) (by show w.heap.size < w31.heap.size; omega)).trans q3X
  replace q4X := (b32.cell (p := ⟨w.heap.size, 4, none⟩) (by show w.heap.size < w31.heap.size; omega)).trans q4X
  replace q5X := (b32.cell (p := ⟨w.heap.size, 5, none⟩) (by show w.heap.size < w31.heap.size; omega)).trans q5X
  go_wp2_with fail
  refine Calls.mono (Calls.vq (eqInt64S_c w32 _ _ _ _ res1 res1 rH1 rS1) (congrArg Value.bool (decide_eq_true rfl))) ?_
  rintro e w33 ⟨rfl, hd33⟩
  have b33 : Below w32.heap.size w32 w33 := hd33.below _
  have B33 : Below w.heap.size w w33 := B32.trans (b33.mono B32.size)
  have s33 : w32.heap.size ≤ w33.heap.size := b33.size
  replace rS0 := stable_ints.below rS0 b33
  replace rS1 := stable_ints.below rS1 b33
  replace rS2 := stable_ints.below rS2 b33
  replace rmG0 := stable_ints.below rmG0 b33
  replace rmG1 := stable_ints.below rmG1 b33
  replace rmG2 := stable_ints.below rmG2 b33
  replace rH0 := stable_ints.below rH0 b33
  replace rH1 := stable_ints.below rH1 b33
  replace rH2 := stable_ints.below rH2 b33
  replace q0X := (b33.cell (p := ⟨w.heap.size, 0, none⟩) (by show w.heap.size < w32.heap.size; omega)).trans q0X
  replace q1X := (b33.cell (p := ⟨w.heap.size, 1, none⟩) (by show w.heap.size < w32.heap.size; omega)).trans q1X
  replace q2X := (b33.cell (p := ⟨w.heap.size, 2, none⟩) (by show w.heap.size < w32.heap.size; omega)).trans q2X
  replace q3X := (b33.cell (p := ⟨w.heap.size, 3, none⟩) (by show w.heap.size < w32.heap.size; omega)).trans q3X
  replace q4X := (b33.cell (p := ⟨w.heap.size, 4, none⟩) (by show w.heap.size < w32.heap.size; omega)).trans q4X
  replace q5X := (b33.cell (p := ⟨w.heap.size, 5, none⟩) (by show w.heap.size < w32.heap.size; omega)).trans q5X
  go_wp2_with fail
  refine Calls.mono (Calls.vq (eqInt64S_c w33 _ _ _ _ res2 res2 rH2 rS2) (congrArg Value.bool (decide_eq_true rfl))) ?_
  rintro e w34 ⟨rfl, hd34⟩
  have b34 : Below w33.heap.size w33 w34 := hd34.below _
  have B34 : Below w.heap.size w w34 := B33.trans (b34.mono B33.size)
  have s34 : w33.heap.size ≤ w34.heap.size := b34.size
  replace rS0 := stable_ints.below rS0 b34
  replace rS1 := stable_ints.below rS1 b34
  replace rS2 := stable_ints.below rS2 b34
  replace rmG0 := stable_ints.below rmG0 b34
  replace rmG1 := stable_ints.below rmG1 b34
  replace rmG2 := stable_ints.below rmG2 b34
  replace rH0 := stable_ints.below rH0 b34
  replace rH1 := stable_ints.below rH1 b34
  replace rH2 := stable_ints.below rH2 b34
  replace q0X := (b34.cell (p := ⟨w.heap.size, 0, none⟩) (by show w.heap.size < w33.heap.size; omega)).trans q0X
  replace q1X := (b34.cell (p := ⟨w.heap.size, 1, none⟩) (by show w.heap.size < w33.heap.size; omega)).trans q1X
  replace q2X := (b34.cell (p := ⟨w.heap.size, 2, none⟩) (by show w.heap.size < w33.heap.size; omega)).trans q2X
  replace q3X := (b34.cell (p := ⟨w.heap.size, 3, none⟩) (by show w.heap.size < w33.heap.size; omega)).trans q3X
  replace q4X := (b34.cell (p := ⟨w.heap.size, 4, none⟩) (by show w.heap.size < w33.heap.size; omega)).trans q4X
  replace q5X := (b34.cell (p := ⟨w.heap.size, 5, none⟩) (by show w.heap.size < w33.heap.size; omega)).trans q5X
  go_wp2_with fail
  refine Calls.mono (Calls.vq (heldInt64S_c w34 _ _ res0.length _ rmG0 (by omega) (by have := Em1.out; omega)) (congrArg (Value.int .i64) Em1.out.symm)) ?_
  rintro e w35 ⟨rfl, hd35⟩
  have b35 : Below w34.heap.size w34 w35 := hd35.below _
  have B35 : Below w.heap.size w w35 := B34.trans (b35.mono B34.size)
  have s35 : w34.heap.size ≤ w35.heap.size := b35.size
  replace rS0 := stable_ints.below rS0 b35
  replace rS1 := stable_ints.below rS1 b35
  replace rS2 := stable_ints.below rS2 b35
  replace rmG0 := stable_ints.below rmG0 b35
  replace rmG1 := stable_ints.below rmG1 b35
  replace rmG2 := stable_ints.below rmG2 b35
  replace rH0 := stable_ints.below rH0 b35
  replace rH1 := stable_ints.below rH1 b35
  replace rH2 := stable_ints.below rH2 b35
  replace q0X := (b35.cell (p := ⟨w.heap.size, 0, none⟩) (by show w.heap.size < w34.heap.size; omega)).trans q0X
  replace q1X := (b35.cell (p := ⟨w.heap.size, 1, none⟩) (by show w.heap.size < w34.heap.size; omega)).trans q1X
  replace q2X := (b35.cell (p := ⟨w.heap.size, 2, none⟩) (by show w.heap.size < w34.heap.size; omega)).trans q2X
  replace q3X := (b35.cell (p := ⟨w.heap.size, 3, none⟩) (by show w.heap.size < w34.heap.size; omega)).trans q3X
  replace q4X := (b35.cell (p := ⟨w.heap.size, 4, none⟩) (by show w.heap.size < w34.heap.size; omega)).trans q4X
  replace q5X := (b35.cell (p := ⟨w.heap.size, 5, none⟩) (by show w.heap.size < w34.heap.size; omega)).trans q5X
  go_wp2_with fail
  refine Calls.mono (Calls.vq (heldInt64S_c w35 _ _ res1.length _ rmG1 (by omega) (by have := Em2.out; omega)) (congrArg (Value.int .i64) Em2.out.symm)) ?_
  rintro e w36 ⟨rfl, hd36⟩
  have b36 : Below w35.heap.size w35 w36 := hd36.below _
  have B36 : Below w.heap.size w w36 := B35.trans (b36.mono B35.size)
  have s36 : w35.heap.size ≤ w36.heap.size := b36.size
  replace rS0 := stable_ints.below rS0 b36
  replace rS1 := stable_ints.below rS1 b36
  replace rS2 := stable_ints.below rS2 b36
  replace rmG0 := stable_ints.below rmG0 b36
  replace rmG1 := stable_ints.below rmG1 b36
  replace rmG2 := stable_ints.below rmG2 b36
  replace rH0 := stable_ints.below rH0 b36
  replace rH1 := stable_ints.below rH1 b36
  replace rH2 := stable_ints.below rH2 b36
  replace q0X := (b36.cell (p := ⟨w.heap.size, 0, none⟩) (by show w.heap.size < w35.heap.size; omega)).trans q0X
  replace q1X := (b36.cell (p := ⟨w.heap.size, 1, none⟩) (by show w.heap.size < w35.heap.size; omega)).trans q1X
  replace q2X := (b36.cell (p := ⟨w.heap.size, 2, none⟩) (by show w.heap.size < w35.heap.size; omega)).trans q2X
  replace q3X := (b36.cell (p := ⟨w.heap.size, 3, none⟩) (by show w.heap.size < w35.heap.size; omega)).trans q3X
  replace q4X := (b36.cell (p := ⟨w.heap.size, 4, none⟩) (by show w.heap.size < w35.heap.size; omega)).trans q4X
  replace q5X := (b36.cell (p := ⟨w.heap.size, 5, none⟩) (by show w.heap.size < w35.heap.size; omega)).trans q5X
  go_wp2_with fail
  refine Calls.mono (Calls.vq (heldInt64S_c w36 _ _ res2.length _ rmG2 (by omega) (by have := Em3.out; omega)) (congrArg (Value.int .i64) Em3.out.symm)) ?_
  rintro e w37 ⟨rfl, hd37⟩
  have b37 : Below w36.heap.size w36 w37 := hd37.below _
  have B37 : Below w.heap.size w w37 := B36.trans (b37.mono B36.size)
  have s37 : w36.heap.size ≤ w37.heap.size := b37.size
  replace rS0 := stable_ints.below rS0 b37
  replace rS1 := stable_ints.below rS1 b37
  replace rS2 := stable_ints.below rS2 b37
  replace rmG0 := stable_ints.below rmG0 b37
  replace rmG1 := stable_ints.below rmG1 b37
  replace rmG2 := stable_ints.below rmG2 b37
  replace rH0 := stable_ints.below rH0 b37
  replace rH1 := stable_ints.below rH1 b37
  replace rH2 := stable_ints.below rH2 b37
  replace q0X := (b37.cell (p := ⟨w.heap.size, 0, none⟩) (by show w.heap.size < w36.heap.size; omega)).trans q0X
  replace q1X := (b37.cell (p := ⟨w.heap.size, 1, none⟩) (by show w.heap.size < w36.heap.size; omega)).trans q1X
  replace q2X := (b37.cell (p := ⟨w.heap.size, 2, none⟩) (by show w.heap.size < w36.heap.size; omega)).trans q2X
  replace q3X := (b37.cell (p := ⟨w.heap.size, 3, none⟩) (by show w.heap.size < w36.heap.size; omega)).trans q3X
  replace q4X := (b37.cell (p := ⟨w.heap.size, 4, none⟩) (by show w.heap.size < w36.heap.size; omega)).trans q4X
  replace q5X := (b37.cell (p := ⟨w.heap.size, 5, none⟩) (by show w.heap.size < w36.heap.size; omega)).trans q5X
  go_wp2_with fail
  go_ret
  exact ⟨_, rfl, rfl, B37⟩


/-! ### the row -/
theorem own : ownKnob Try.prog.godebug = none := by kernel_rfl
theorem laidOut : laidOutB Try.prog = true := by kernel_rfl
set_option maxRecDepth 100000 in
theorem lifted (os : Os) (started : os.Started) (H : Type) (enc : TypeId × Value → H) :
    ReturnsInHanded {} Try.checked os 10 .any (Rows.fnExactSystemStockSpec.pre6 enc Try.prog Try.f10 Rows.fnExactSystemStockRow.domain false) (Rows.fnExactSystemStockSpec.post enc Try.prog Try.f10 false true false false) := by
  refine returnsInHanded_of_change (C := Try.checked) own started (by kernel_rfl) Try.func10
    (ChangeSpec.witness6 (enc := enc) (C := Try.checked) false ⟨#[], #[.agg #[.int .i64 0, .int .i64 0, .int .i64 0, .int .i64 0, .int .i64 0, .slice none 0 0], .slice none 0 0], []⟩ 8 (by kernel_rfl) (by kernel_rfl) (by kernel_rfl) (by kernel_rfl)) ?_
  intro W base args ds gs before hval0 hW hcnd _
  have hval : ∀ (j : Nat) t v, Try.f10.params[j]? = some t → args[j]? = some v → Value.okWide Try.prog W .any base t v := hval0
  have hW' := hW
  obtain ⟨p, q, hA0, hV, rfl, hfz, hnd⟩ := hW
  have hA : DataW.TrodAll enc Try.prog W 0 (fun _ => true) true Try.f10.params.toList args.toList ds p := hA0
  rw [Try.params10] at hA hval
  obtain ⟨v0, vs0, d0, ds0, p0, q0, hargs, rfl, rfl, h0, r0⟩ := trodAll_cons hA
  obtain ⟨v1, vs1, d1, ds1, p1, q1, rfl, rfl, rfl, h1, r1⟩ := trodAll_cons r0
  obtain ⟨rfl, rfl, rfl⟩ := trodAll_nil r1
  obtain rfl : args = #[v0, v1] := by cases args; simp_all
  obtain ⟨rfl, rfl⟩ := trodVars_none hV
  have k0 := h0
  have lt0 : ∀ x ∈ p0, x.block < W.heap.size := by obtain ⟨m, hm⟩ := k0; exact DataW.trod_lt m _ _ _ hm
  obtain ⟨M0, u0, y0, m0, rfl, hw0, hu0⟩ := open_sys Try.underlying26 Try.underlying23 (by kernel_rfl) (by kernel_rfl) (by kernel_rfl) rfl rfl ⟨rfl, by kernel_rfl, Try.underlying2⟩ ⟨rfl, by kernel_rfl, Try.underlying2⟩ ⟨rfl, by kernel_rfl, Try.underlying2⟩ ⟨rfl, by kernel_rfl, Try.underlying2⟩ ⟨rfl, by kernel_rfl, Try.underlying2⟩ (hval 0 26 v0 rfl rfl) h0
  obtain ⟨x0, b0⟩ := open_RowsR Try.underlying24 Try.underlying27 Try.underlying2 (by kernel_rfl) (by kernel_rfl) hu0
  have k1 := h1
  have lt1 : ∀ x ∈ p1, x.block < W.heap.size := by obtain ⟨m, hm⟩ := k1; exact DataW.trod_lt m _ _ _ hm
  obtain ⟨a1, len1, cap1, rfl⟩ := okWide_slice Try.underlying24 (hval 1 24 v1 rfl rfl)
  obtain ⟨x1, w1⟩ : ∃ xs, RowsR (.old W) W (.slice a1 len1 cap1) xs := by obtain ⟨fuel, hf⟩ := h1; exact open_RowsR Try.underlying24 Try.underlying27 Try.underlying2 (by kernel_rfl) (by kernel_rfl) hf
  clear hA0 hval0
  refine (walk W M0 _ x0 b0 _ x1 w1).mono fun e W' hret => ?_
  obtain ⟨r, rfl, rfl, bel⟩ := hret
  exact ⟨_, rfl, _, _, _, [], _, [], hW', trodAll_mk1 (shut_bool Try.underlying4 _), (trodAll_cons_mk (Below.trod laidOut (by kernel_rfl) (of_decide_eq_true (by kernel_rfl)) k0 bel lt0) (trodAll_cons_mk (Below.trod laidOut (by kernel_rfl) (of_decide_eq_true (by kernel_rfl)) k1 bel lt1) trodAll_mk0)), rfl, bel.frame _, fun h => by cases h⟩

theorem over : Rows.fnExactSystemStockRow.holds Try.pinned (OpenSpec.ofChange Rows.fnExactSystemStockSpec) :=
  OpenClaim.holds_of_wide 10 Try.f10 rfl rfl rfl rfl rfl rfl rfl ⟨rfl, rfl, rfl, rfl, rfl⟩ rfl rfl rfl rfl rfl (by kernel_rfl) Try.func10 (by kernel_rfl)
    (of_decide_eq_true (by kernel_rfl)) (by unfold Func.isWrapper; first | (rw [if_pos (by decide +kernel)]; kernel_rfl) | (rw [if_neg (by decide +kernel)]; exact ⟨rfl, rfl⟩))
    (fun os started H enc _ => lifted os started H enc)

theorem proved : Rows.FnExactSystemStockSaid := over


end fnExactSystemStock
end Go.Proofs.Ytgagjibjnaappaa
