/- Proved: for every system and every number, laws.FnExactBestDesign returns true and changes nothing that was there; no condition. -/
import Derived.Test.YtegmognpofcfiaaGreatRows
import Derived.Deep.RegionHeld3
import Derived.Test.YtegmognpofcfiaaGreatUPkL
import Derived.Test.YtegmognpofcfiaaGreatUBestSpec
import Derived.Test.YtegmognpofcfiaaGreatUBestImpl
namespace Go.Proofs.YtegmognpofcfiaaGreat
open Go.ChangeShapes Go.WideShapes Go.ChangeAt Go.RowKit
set_option linter.unusedVariables false
namespace fnExactBestDesign

theorem best_size (mk : MK) (t : List (List Int)) (limit : Int) : (offs (bestD mk t limit).1 (bestD mk t limit).1.length : Int) ≤ 1048576 := by
  by_cases h : searchC mk t limit = 0
  · obtain ⟨hs, h0, -⟩ := searchC_zero h
    cases ho : (allS mk t limit).over with
    | true => rw [bestD_over h ho]; exact offs_nil
    | false =>
      cases hb : bestL (sysWafers mk t) (allS mk t limit).found with
      | none => rw [bestD_none h ho hb]; exact offs_nil
      | some b =>
        rw [bestD_some h ho hb]
        have hg := (searchS_ok (most := 1000000) hs h0).cuts b (bestL_mem hb)
        have hl := (sysOk hs).len
        have hc := (sysOk hs).mk1
        have hbl := hg.len
        exact offs_small 6 (fun r hr => by have := (hg.key r hr).len; omega) (by show b.length ≤ 1000; omega) (by omega)
  · rw [bestD_bad h]; exact offs_nil
set_option maxRecDepth 20000 in
set_option maxHeartbeats 2000000 in
theorem walk (w : World) (MX : MK) (vX : Value) (X : List (List Int)) (hX : RowsR (.old w) w vX X) (limit : Int) (hlimit : I64 limit) :
    Calls Tryz.prog 11 #[.agg #[.int .i64 MX.c, .int .i64 MX.d, .int .i64 MX.s, .int .i64 MX.m, .int .i64 MX.l, vX], .int .i64 limit] w (Ret w fun r _ => r = .bool true) := by
  obtain ⟨aX, nX, cX, rfl, shX, -⟩ := SliceR.shape hX
  clear shX
  have cS : ∀ (wq : World) (yX : Value) (zX : Zone) (gX : RowsR zX wq yX X), Calls Tryz.prog 62 #[.agg #[.int .i64 MX.c, .int .i64 MX.d, .int .i64 MX.s, .int .i64 MX.m, .int .i64 MX.l, yX], .int .i64 limit] wq (Ret wq fun r w' => ∃ u0, r = .tuple #[u0, .int .i64 (bestD MX X limit).2] ∧ RowsR (.new wq w') w' u0 (bestD MX X limit).1) := fun wq yX zX gX => (fun w M v z x h limit hl => BestDesignSpec_c w M v z x h limit hl) wq MX yX zX X gX limit hlimit
  have cI : ∀ (wq : World) (yX : Value) (zX : Zone) (gX : RowsR zX wq yX X), Calls Tryz.prog 61 #[.agg #[.int .i64 MX.c, .int .i64 MX.d, .int .i64 MX.s, .int .i64 MX.m, .int .i64 MX.l, yX], .int .i64 limit] wq (Ret wq fun r w' => ∃ u0, r = .tuple #[u0, .int .i64 (bestD MX X limit).2] ∧ RowsR (.new wq w') w' u0 (bestD MX X limit).1) := fun wq yX zX gX => (fun w M v z x h limit hl => BestDesign_c w M v z x h limit hl) wq MX yX zX X gX limit hlimit
  have LR0 : (offs ((bestD MX X limit).1) ((bestD MX X limit).1).length : Int) ≤ 1048576 := best_size _ _ _
  generalize (bestD MX X limit).1 = res0 at cS cI LR0
  generalize (bestD MX X limit).2 = res1 at cS cI LR0
  have CS := Lib.hid cS; have CI := Lib.hid cI; clear cS cI
  go_enter Tryz.func11, Tryz.ntmps11
  go_wp2_with fail
  generalize hwb1 : World.alloc _ _ = w1
  have b1 : Below w.heap.size w w1 := by rw [← hwb1]; exact (Below.refl _ _).alloc (Nat.le_refl _) _
  have s1 : w.heap.size < w1.heap.size := by rw [← hwb1]; simp
  have q0X : w1.cell? ⟨w.heap.size, 0, none⟩ = some (.int .i64 MX.c) := by rw [← hwb1]; clear hwb1; go_simp
  have q1X : w1.cell? ⟨w.heap.size, 1, none⟩ = some (.int .i64 MX.d) := by rw [← hwb1]; clear hwb1; go_simp
  have q2X : w1.cell? ⟨w.heap.size, 2, none⟩ = some (.int .i64 MX.s) := by rw [← hwb1]; clear hwb1; go_simp
  have q3X : w1.cell? ⟨w.heap.size, 3, none⟩ = some (.int .i64 MX.m) := by rw [← hwb1]; clear hwb1; go_simp
  have q4X : w1.cell? ⟨w.heap.size, 4, none⟩ = some (.int .i64 MX.l) := by rw [← hwb1]; clear hwb1; go_simp
  have q5X : w1.cell? ⟨w.heap.size, 5, none⟩ = some (.slice aX nX cX) := by rw [← hwb1]; clear hwb1; go_simp
  clear hwb1
  have B1 : Below w.heap.size w w1 := b1
  have szX := szSystemA_c w1 MX _ _ X 1048576 (stable_rows.below hX B1) (by omega) (by omega)
  rcases Nat.lt_or_ge (1048576 : Int).toNat (bulk X) with hbX | hbX
  · rw [szLeft_neg (by omega)] at szX
    refine Calls.mono szX ?_
    rintro e wx ⟨r, rfl, rfl, bx⟩
    go_wp2_with fail
    go_ret
    exact ⟨_, rfl, rfl, B1.trans (bx.mono B1.size)⟩
  rw [szLeft_pos (by omega)] at szX
  have lbX : bulk X ≤ 1048576 := by omega
  have lgX : (0 : Int) ≤ 1048576 - (bulk X : Int) := by omega
  have lhX : 1048576 - (bulk X : Int) ≤ 1048576 := by omega
  generalize (1048576 : Int) - (bulk X : Int) = lX at *
  refine Calls.mono szX ?_
  rintro e w2 ⟨r, rfl, rfl, hd2⟩
  clear szX
  have b2 : Below w1.heap.size w1 w2 := hd2
  have B2 : Below w.heap.size w w2 := B1.trans (b2.mono B1.size)
  have s2 : w1.heap.size ≤ w2.heap.size := b2.size
  replace q0X := (b2.cell (p := ⟨w.heap.size, 0, none⟩) (by show w.heap.size < w1.heap.size; omega)).trans q0X
  replace q1X := (b2.cell (p := ⟨w.heap.size, 1, none⟩) (by show w.heap.size < w1.heap.size; omega)).trans q1X
  replace q2X := (b2.cell (p := ⟨w.heap.size, 2, none⟩) (by show w.heap.size < w1.heap.size; omega)).trans q2X
  replace q3X := (b2.cell (p := ⟨w.heap.size, 3, none⟩) (by show w.heap.size < w1.heap.size; omega)).trans q3X
  replace q4X := (b2.cell (p := ⟨w.heap.size, 4, none⟩) (by show w.heap.size < w1.heap.size; omega)).trans q4X
  replace q5X := (b2.cell (p := ⟨w.heap.size, 5, none⟩) (by show w.heap.size < w1.heap.size; omega)).trans q5X
  go_wp2_with fail
  refine Calls.mono (toSystemA_c w2 MX _ _ X (stable_rows.below hX B2) lbX) ?_
  rintro e w3 ⟨rvsX, rfl, ⟨usX, rfl, rsX⟩, bb3⟩
  have b3 : Below w2.heap.size w2 w3 := bb3
  have B3 : Below w.heap.size w w3 := B2.trans (b3.mono B2.size)
  have s3 : w2.heap.size ≤ w3.heap.size := b3.size
  replace q0X := (b3.cell (p := ⟨w.heap.size, 0, none⟩) (by show w.heap.size < w2.heap.size; omega)).trans q0X
  replace q1X := (b3.cell (p := ⟨w.heap.size, 1, none⟩) (by show w.heap.size < w2.heap.size; omega)).trans q1X
  replace q2X := (b3.cell (p := ⟨w.heap.size, 2, none⟩) (by show w.heap.size < w2.heap.size; omega)).trans q2X
  replace q3X := (b3.cell (p := ⟨w.heap.size, 3, none⟩) (by show w.heap.size < w2.heap.size; omega)).trans q3X
  replace q4X := (b3.cell (p := ⟨w.heap.size, 4, none⟩) (by show w.heap.size < w2.heap.size; omega)).trans q4X
  replace q5X := (b3.cell (p := ⟨w.heap.size, 5, none⟩) (by show w.heap.size < w2.heap.size; omega)).trans q5X
  obtain ⟨asX, nsX, ksX, rfl, -⟩ := SliceR.shape rsX
  go_wp2_with fail
  refine Calls.mono (CS.out w3 _ _ rsX) ?_
  rintro e w4 ⟨rr4, rfl, ⟨S0, rfl, rS0⟩, bb4⟩
  have b4 : Below w3.heap.size w3 w4 := bb4
  have B4 : Below w.heap.size w w4 := B3.trans (b4.mono B3.size)
  have s4 : w3.heap.size ≤ w4.heap.size := b4.size
  replace rsX := stable_rows.below rsX b4
  replace q0X := (b4.cell (p := ⟨w.heap.size, 0, none⟩) (by show w.heap.size < w3.heap.size; omega)).trans q0X
  replace q1X := (b4.cell (p := ⟨w.heap.size, 1, none⟩) (by show w.heap.size < w3.heap.size; omega)).trans q1X
  replace q2X := (b4.cell (p := ⟨w.heap.size, 2, none⟩) (by show w.heap.size < w3.heap.size; omega)).trans q2X
  replace q3X := (b4.cell (p := ⟨w.heap.size, 3, none⟩) (by show w.heap.size < w3.heap.size; omega)).trans q3X
  replace q4X := (b4.cell (p := ⟨w.heap.size, 4, none⟩) (by show w.heap.size < w3.heap.size; omega)).trans q4X
  replace q5X := (b4.cell (p := ⟨w.heap.size, 5, none⟩) (by show w.heap.size < w3.heap.size; omega)).trans q5X
  clear rsX
  go_wp2_with fail
  refine Calls.mono (toSystemA_c w4 MX _ _ X (stable_rows.below hX B4) lbX) ?_
  rintro e w5 ⟨rvxX, rfl, ⟨uxX, rfl, rxX⟩, bb5⟩
  have b5 : Below w4.heap.size w4 w5 := bb5
  have B5 : Below w.heap.size w w5 := B4.trans (b5.mono B4.size)
  have s5 : w4.heap.size ≤ w5.heap.size := b5.size
  replace rS0 := stable_rows.below rS0 b5
  replace q0X := (b5.cell (p := ⟨w.heap.size, 0, none⟩) (by show w.heap.size < w4.heap.size; omega)).trans q0X
  replace q1X := (b5.cell (p := ⟨w.heap.size, 1, none⟩) (by show w.heap.size < w4.heap.size; omega)).trans q1X
  replace q2X := (b5.cell (p := ⟨w.heap.size, 2, none⟩) (by show w.heap.size < w4.heap.size; omega)).trans q2X
  replace q3X := (b5.cell (p := ⟨w.heap.size, 3, none⟩) (by show w.heap.size < w4.heap.size; omega)).trans q3X
  replace q4X := (b5.cell (p := ⟨w.heap.size, 4, none⟩) (by show w.heap.size < w4.heap.size; omega)).trans q4X
  replace q5X := (b5.cell (p := ⟨w.heap.size, 5, none⟩) (by show w.heap.size < w4.heap.size; omega)).trans q5X
  obtain ⟨axX, nxX, kxX, rfl, -⟩ := SliceR.shape rxX
  go_wp2_with fail
  generalize hwb6 : World.alloc _ _ = w6
  have b6 : Below w5.heap.size w5 w6 := by rw [← hwb6]; exact (Below.refl _ _).alloc (Nat.le_refl _) _
  have s6 : w5.heap.size < w6.heap.size := by rw [← hwb6]; simp
  have p0X : w6.cell? ⟨w5.heap.size, 0, none⟩ = some (.int .i64 MX.c) := by rw [← hwb6]; clear hwb6; go_simp
  have p1X : w6.cell? ⟨w5.heap.size, 1, none⟩ = some (.int .i64 MX.d) := by rw [← hwb6]; clear hwb6; go_simp
  have p2X : w6.cell? ⟨w5.heap.size, 2, none⟩ = some (.int .i64 MX.s) := by rw [← hwb6]; clear hwb6; go_simp
  have p3X : w6.cell? ⟨w5.heap.size, 3, none⟩ = some (.int .i64 MX.m) := by rw [← hwb6]; clear hwb6; go_simp
  have p4X : w6.cell? ⟨w5.heap.size, 4, none⟩ = some (.int .i64 MX.l) := by rw [← hwb6]; clear hwb6; go_simp
  have p5X : w6.cell? ⟨w5.heap.size, 5, none⟩ = some (.slice axX nxX kxX) := by rw [← hwb6]; clear hwb6; go_simp
  clear hwb6
  have B6 : Below w.heap.size w w6 := B5.trans (b6.mono B5.size)
  replace rS0 := stable_rows.below rS0 b6
  replace rxX := stable_rows.below rxX b6
  replace q0X := (b6.cell (p := ⟨w.heap.size, 0, none⟩) (by show w.heap.size < w5.heap.size; omega)).trans q0X
  replace q1X := (b6.cell (p := ⟨w.heap.size, 1, none⟩) (by show w.heap.size < w5.heap.size; omega)).trans q1X
  replace q2X := (b6.cell (p := ⟨w.heap.size, 2, none⟩) (by show w.heap.size < w5.heap.size; omega)).trans q2X
  replace q3X := (b6.cell (p := ⟨w.heap.size, 3, none⟩) (by show w.heap.size < w5.heap.size; omega)).trans q3X
  replace q4X := (b6.cell (p := ⟨w.heap.size, 4, none⟩) (by show w.heap.size < w5.heap.size; omega)).trans q4X
  replace q5X := (b6.cell (p := ⟨w.heap.size, 5, none⟩) (by show w.heap.size < w5.heap.size; omega)).trans q5X
  refine Calls.mono (CI.out w6 _ _ rxX) ?_
  rintro e w7 ⟨rr7, rfl, ⟨G0, rfl, rG0⟩, bb7⟩
  have b7 : Below w6.heap.size w6 w7 := bb7
  have B7 : Below w.heap.size w w7 := B6.trans (b7.mono B6.size)
  have s7 : w6.heap.size ≤ w7.heap.size := b7.size
  replace rS0 := stable_rows.below rS0 b7
  replace rxX := stable_rows.below rxX b7
  replace q0X := (b7.cell (p := ⟨w.heap.size, 0, none⟩) (by show w.heap.size < w6.heap.size; omega)).trans q0X
  replace q1X := (b7.cell (p := ⟨w.heap.size, 1, none⟩) (by show w.heap.size < w6.heap.size; omega)).trans q1X
  replace q2X := (b7.cell (p := ⟨w.heap.size, 2, none⟩) (by show w.heap.size < w6.heap.size; omega)).trans q2X
  replace q3X := (b7.cell (p := ⟨w.heap.size, 3, none⟩) (by show w.heap.size < w6.heap.size; omega)).trans q3X
  replace q4X := (b7.cell (p := ⟨w.heap.size, 4, none⟩) (by show w.heap.size < w6.heap.size; omega)).trans q4X
  replace q5X := (b7.cell (p := ⟨w.heap.size, 5, none⟩) (by show w.heap.size < w6.heap.size; omega)).trans q5X
  replace p0X := (b7.cell (p := ⟨w5.heap.size, 0, none⟩) (by show w5.heap.size < w6.heap.size; omega)).trans p0X
  replace p1X := (b7.cell (p := ⟨w5.heap.size, 1, none⟩) (by show w5.heap.size < w6.heap.size; omega)).trans p1X
  replace p2X := (b7.cell (p := ⟨w5.heap.size, 2, none⟩) (by show w5.heap.size < w6.heap.size; omega)).trans p2X
  replace p3X := (b7.cell (p := ⟨w5.heap.size, 3, none⟩) (by show w5.heap.size < w6.heap.size; omega)).trans p3X
  replace p4X := (b7.cell (p := ⟨w5.heap.size, 4, none⟩) (by show w5.heap.size < w6.heap.size; omega)).trans p4X
  replace p5X := (b7.cell (p := ⟨w5.heap.size, 5, none⟩) (by show w5.heap.size < w6.heap.size; omega)).trans p5X
  go_wp2_with fail
  refine Calls.mono (Calls.vq (eqInt64SS_c w7 _ _ _ _ res0 res0 rG0 rS0) (congrArg Value.bool (decide_eq_true rfl))) ?_
  rintro e w8 ⟨rfl, hd8⟩
  have b8 : Below w7.heap.size w7 w8 := hd8.below _
  have B8 : Below w.heap.size w w8 := B7.trans (b8.mono B7.size)
  have s8 : w7.heap.size ≤ w8.heap.size := b8.size
  replace rS0 := stable_rows.below rS0 b8
  replace rxX := stable_rows.below rxX b8
  replace rG0 := stable_rows.below rG0 b8
  replace q0X := (b8.cell (p := ⟨w.heap.size, 0, none⟩) (by show w.heap.size < w7.heap.size; omega)).trans q0X
  replace q1X := (b8.cell (p := ⟨w.heap.size, 1, none⟩) (by show w.heap.size < w7.heap.size; omega)).trans q1X
  replace q2X := (b8.cell (p := ⟨w.heap.size, 2, none⟩) (by show w.heap.size < w7.heap.size; omega)).trans q2X
  replace q3X := (b8.cell (p := ⟨w.heap.size, 3, none⟩) (by show w.heap.size < w7.heap.size; omega)).trans q3X
  replace q4X := (b8.cell (p := ⟨w.heap.size, 4, none⟩) (by show w.heap.size < w7.heap.size; omega)).trans q4X
  replace q5X := (b8.cell (p := ⟨w.heap.size, 5, none⟩) (by show w.heap.size < w7.heap.size; omega)).trans q5X
  replace p0X := (b8.cell (p := ⟨w5.heap.size, 0, none⟩) (by show w5.heap.size < w7.heap.size; omega)).trans p0X
  replace p1X := (b8.cell (p := ⟨w5.heap.size, 1, none⟩) (by show w5.heap.size < w7.heap.size; omega)).trans p1X
  replace p2X := (b8.cell (p := ⟨w5.heap.size, 2, none⟩) (by show w5.heap.size < w7.heap.size; omega)).trans p2X
  replace p3X := (b8.cell (p := ⟨w5.heap.size, 3, none⟩) (by show w5.heap.size < w7.heap.size; omega)).trans p3X
  replace p4X := (b8.cell (p := ⟨w5.heap.size, 4, none⟩) (by show w5.heap.size < w7.heap.size; omega)).trans p4X
  replace p5X := (b8.cell (p := ⟨w5.heap.size, 5, none⟩) (by show w5.heap.size < w7.heap.size; omega)).trans p5X
  have HK10 : Hid (∀ w', Below w8.heap.size w8 w' → w'.cell? ⟨w.heap.size, 0, none⟩ = some (.int .i64 MX.c) ∧ w'.cell? ⟨w.heap.size, 1, none⟩ = some (.int .i64 MX.d) ∧ w'.cell? ⟨w.heap.size, 2, none⟩ = some (.int .i64 MX.s) ∧ w'.cell? ⟨w.heap.size, 3, none⟩ = some (.int .i64 MX.m) ∧ w'.cell? ⟨w.heap.size, 4, none⟩ = some (.int .i64 MX.l) ∧ w'.cell? ⟨w.heap.size, 5, none⟩ = some (.slice aX nX cX) ∧ w'.cell? ⟨w5.heap.size, 0, none⟩ = some (.int .i64 MX.c) ∧ w'.cell? ⟨w5.heap.size, 1, none⟩ = some (.int .i64 MX.d) ∧ w'.cell? ⟨w5.heap.size, 2, none⟩ = some (.int .i64 MX.s) ∧ w'.cell? ⟨w5.heap.size, 3, none⟩ = some (.int .i64 MX.m) ∧ w'.cell? ⟨w5.heap.size, 4, none⟩ = some (.int .i64 MX.l) ∧ w'.cell? ⟨w5.heap.size, 5, none⟩ = some (.slice axX nxX kxX)) := fun w' hb => ⟨(hb.cell (by show w.heap.size < w8.heap.size; omega)).trans q0X, (hb.cell (by show w.heap.size < w8.heap.size; omega)).trans q1X, (hb.cell (by show w.heap.size < w8.heap.size; omega)).trans q2X, (hb.cell (by show w.heap.size < w8.heap.size; omega)).trans q3X, (hb.cell (by show w.heap.size < w8.heap.size; omega)).trans q4X, (hb.cell (by show w.heap.size < w8.heap.size; omega)).trans q5X, (hb.cell (by show w5.heap.size < w8.heap.size; omega)).trans p0X, (hb.cell (by show w5.heap.size < w8.heap.size; omega)).trans p1X, (hb.cell (by show w5.heap.size < w8.heap.size; omega)).trans p2X, (hb.cell (by show w5.heap.size < w8.heap.size; omega)).trans p3X, (hb.cell (by show w5.heap.size < w8.heap.size; omega)).trans p4X, (hb.cell (by show w5.heap.size < w8.heap.size; omega)).trans p5X⟩
  have HF10 := Lib.hid (stable_rows.below hX B8)
  have HX10 := Lib.hid rxX
  go_wp2_with fail
  go_region_held3 (fun w' => w'.cell? ⟨w.heap.size, 0, none⟩ = some (.int .i64 MX.c) ∧ w'.cell? ⟨w.heap.size, 1, none⟩ = some (.int .i64 MX.d) ∧ w'.cell? ⟨w.heap.size, 2, none⟩ = some (.int .i64 MX.s) ∧ w'.cell? ⟨w.heap.size, 3, none⟩ = some (.int .i64 MX.m) ∧ w'.cell? ⟨w.heap.size, 4, none⟩ = some (.int .i64 MX.l) ∧ w'.cell? ⟨w.heap.size, 5, none⟩ = some (.slice aX nX cX) ∧ w'.cell? ⟨w5.heap.size, 0, none⟩ = some (.int .i64 MX.c) ∧ w'.cell? ⟨w5.heap.size, 1, none⟩ = some (.int .i64 MX.d) ∧ w'.cell? ⟨w5.heap.size, 2, none⟩ = some (.int .i64 MX.s) ∧ w'.cell? ⟨w5.heap.size, 3, none⟩ = some (.int .i64 MX.m) ∧ w'.cell? ⟨w5.heap.size, 4, none⟩ = some (.int .i64 MX.l) ∧ w'.cell? ⟨w5.heap.size, 5, none⟩ = some (.slice axX nxX kxX)) (first | exact HK10.out _ (Below.refl _ _).drew | exact HK10.out _ ((Below.refl _ _).drew.trans bA10) | exact HK10.out _ (((Below.refl _ _).drew.trans bA10).trans (bB10.mono bA10.size)))
    (first | (go_at_call 83; refine (toSystemA_c _ _ _ _ X (stable_rows.below HF10.out (Below.refl _ _).drew) lbX).mono ?_; rintro e wA10 ⟨rv, rfl, ⟨uA10, rfl, rA10⟩, bA10⟩) | (go_at_call 85; refine (eqSystemA_c _ _ _ _ _ _ X (stable_rows.below HX10.out ((Below.refl _ _).drew.trans bA10)) rA10).mono ?_; rintro e w10 ⟨rv, rfl, rfl, bB10⟩))
  clear HK10 HF10 HX10
  have b10 : Below w8.heap.size w8 w10 := (((Below.refl _ _).drew.trans bA10).trans (bB10.mono bA10.size))
  have B10 : Below w.heap.size w w10 := B8.trans (b10.mono B8.size)
  have s10 : w8.heap.size ≤ w10.heap.size := b10.size
  replace rS0 := stable_rows.below rS0 b10
  replace rxX := stable_rows.below rxX b10
  replace rG0 := stable_rows.below rG0 b10
  replace q0X := (b10.cell (p := ⟨w.heap.size, 0, none⟩) (by show w.heap.size < w8.heap.size; omega)).trans q0X
  replace q1X := (b10.cell (p := ⟨w.heap.size, 1, none⟩) (by show w.heap.size < w8.heap.size; omega)).trans q1X
  replace q2X := (b10.cell (p := ⟨w.heap.size, 2, none⟩) (by show w.heap.size < w8.heap.size; omega)).trans q2X
  replace q3X := (b10.cell (p := ⟨w.heap.size, 3, none⟩) (by show w.heap.size < w8.heap.size; omega)).trans q3X
  replace q4X := (b10.cell (p := ⟨w.heap.size, 4, none⟩) (by show w.heap.size < w8.heap.size; omega)).trans q4X
  replace q5X := (b10.cell (p := ⟨w.heap.size, 5, none⟩) (by show w.heap.size < w8.heap.size; omega)).trans q5X
  replace p0X := (b10.cell (p := ⟨w5.heap.size, 0, none⟩) (by show w5.heap.size < w8.heap.size; omega)).trans p0X
  replace p1X := (b10.cell (p := ⟨w5.heap.size, 1, none⟩) (by show w5.heap.size < w8.heap.size; omega)).trans p1X
  replace p2X := (b10.cell (p := ⟨w5.heap.size, 2, none⟩) (by show w5.heap.size < w8.heap.size; omega)).trans p2X
  replace p3X := (b10.cell (p := ⟨w5.heap.size, 3, none⟩) (by show w5.heap.size < w8.heap.size; omega)).trans p3X
  replace p4X := (b10.cell (p := ⟨w5.heap.size, 4, none⟩) (by show w5.heap.size < w8.heap.size; omega)).trans p4X
  replace p5X := (b10.cell (p := ⟨w5.heap.size, 5, none⟩) (by show w5.heap.size < w8.heap.size; omega)).trans p5X
  have ofX : offs X X.length ≤ 1048576 := by have := offs_all X; omega
  go_wp2_with fail
  refine Calls.mono (markSystemA_c w10 _ _ _ X _ rxX rfl (by omega) (by omega)) ?_
  rintro e w11 ⟨rfl, rmxX, wm11, hb11, hw11⟩
  have hz11 : w11.heap.size = wm11.heap.size := hw11.size
  have hy11 : w10.heap.size ≤ wm11.heap.size := hb11.size
  have B11 : Below w.heap.size w w11 := (B10.trans (hb11.mono B10.size)).trans (hw11.below (by simp only [Zone.new]; omega))
  clear rxX
  replace rS0 := stable_rows.within (stable_rows.below rS0 hb11) hw11 (fun k h1 h2 => by have q1 := h1.1; have q2 := h1.2; have q3 := h2.1; have q4 := h2.2; simp only [Zone.new] at q1 q2 q3 q4; omega)
  replace rG0 := stable_rows.within (stable_rows.below rG0 hb11) hw11 (fun k h1 h2 => by have q1 := h1.1; have q2 := h1.2; have q3 := h2.1; have q4 := h2.2; simp only [Zone.new] at q1 q2 q3 q4; omega)
  clear p0X
  clear p1X
  clear p2X
  clear p3X
  clear p4X
  clear p5X
  replace q0X := (hw11.cell (p := ⟨w.heap.size, 0, none⟩) (fun h => by have q1 := h.1; have q2 := h.2; simp only [Zone.new] at q1 q2; omega)).trans ((hb11.cell (p := ⟨w.heap.size, 0, none⟩) (by show w.heap.size < w10.heap.size; omega)).trans q0X)
  replace q1X := (hw11.cell (p := ⟨w.heap.size, 1, none⟩) (fun h => by have q1 := h.1; have q2 := h.2; simp only [Zone.new] at q1 q2; omega)).trans ((hb11.cell (p := ⟨w.heap.size, 1, none⟩) (by show w.heap.size < w10.heap.size; omega)).trans q1X)
  replace q2X := (hw11.cell (p := ⟨w.heap.size, 2, none⟩) (fun h => by have q1 := h.1; have q2 := h.2; simp only [Zone.new] at q1 q2; omega)).trans ((hb11.cell (p := ⟨w.heap.size, 2, none⟩) (by show w.heap.size < w10.heap.size; omega)).trans q2X)
  replace q3X := (hw11.cell (p := ⟨w.heap.size, 3, none⟩) (fun h => by have q1 := h.1; have q2 := h.2; simp only [Zone.new] at q1 q2; omega)).trans ((hb11.cell (p := ⟨w.heap.size, 3, none⟩) (by show w.heap.size < w10.heap.size; omega)).trans q3X)
  replace q4X := (hw11.cell (p := ⟨w.heap.size, 4, none⟩) (fun h => by have q1 := h.1; have q2 := h.2; simp only [Zone.new] at q1 q2; omega)).trans ((hb11.cell (p := ⟨w.heap.size, 4, none⟩) (by show w.heap.size < w10.heap.size; omega)).trans q4X)
  replace q5X := (hw11.cell (p := ⟨w.heap.size, 5, none⟩) (fun h => by have q1 := h.1; have q2 := h.2; simp only [Zone.new] at q1 q2; omega)).trans ((hb11.cell (p := ⟨w.heap.size, 5, none⟩) (by show w.heap.size < w10.heap.size; omega)).trans q5X)
  have s11 : w10.heap.size ≤ w11.heap.size := by omega
  clear hw11 hb11
  clear rmxX
  have ck1 : (0 : Int) ≤ 1 + (offs X X.length : Int) ∧ 1 + (offs X X.length : Int) ≤ 1048577 := by omega
  obtain ⟨ck1a, ck1b⟩ := ck1
  generalize (1 : Int) + (offs X X.length : Int) = k1 at *
  go_wp2_with fail
  refine Calls.mono (Calls.vq (eqInt64SS_c w11 _ _ _ _ res0 res0 rG0 rS0) (congrArg Value.bool (decide_eq_true rfl))) ?_
  rintro e w12 ⟨rfl, hd12⟩
  have b12 : Below w11.heap.size w11 w12 := hd12.below _
  have B12 : Below w.heap.size w w12 := B11.trans (b12.mono B11.size)
  have s12 : w11.heap.size ≤ w12.heap.size := b12.size
  replace rS0 := stable_rows.below rS0 b12
  replace rG0 := stable_rows.below rG0 b12
  replace q0X := (b12.cell (p := ⟨w.heap.size, 0, none⟩) (by show w.heap.size < w11.heap.size; omega)).trans q0X
  replace q1X := (b12.cell (p := ⟨w.heap.size, 1, none⟩) (by show w.heap.size < w11.heap.size; omega)).trans q1X
  replace q2X := (b12.cell (p := ⟨w.heap.size, 2, none⟩) (by show w.heap.size < w11.heap.size; omega)).trans q2X
  replace q3X := (b12.cell (p := ⟨w.heap.size, 3, none⟩) (by show w.heap.size < w11.heap.size; omega)).trans q3X
  replace q4X := (b12.cell (p := ⟨w.heap.size, 4, none⟩) (by show w.heap.size < w11.heap.size; omega)).trans q4X
  replace q5X := (b12.cell (p := ⟨w.heap.size, 5, none⟩) (by show w.heap.size < w11.heap.size; omega)).trans q5X
  go_wp2_with fail
  refine Calls.mono (markInt64SS_c w12 _ _ res0 _ rG0 rfl (by omega) (by omega)) ?_
  rintro e w13 ⟨rfl, rmG0, hw13⟩
  have hz13 : w13.heap.size = w12.heap.size := hw13.size
  have B13 : Below w.heap.size w w13 := B12.trans (hw13.below (by simp only [Zone.new]; omega))
  clear rG0
  replace rS0 := stable_rows.within rS0 hw13 (fun k h1 h2 => by have q1 := h1.1; have q2 := h1.2; have q3 := h2.1; have q4 := h2.2; simp only [Zone.new] at q1 q2 q3 q4; omega)
  replace q0X := (hw13.cell (p := ⟨w.heap.size, 0, none⟩) (fun h => by have q1 := h.1; have q2 := h.2; simp only [Zone.new] at q1 q2; omega)).trans q0X
  replace q1X := (hw13.cell (p := ⟨w.heap.size, 1, none⟩) (fun h => by have q1 := h.1; have q2 := h.2; simp only [Zone.new] at q1 q2; omega)).trans q1X
  replace q2X := (hw13.cell (p := ⟨w.heap.size, 2, none⟩) (fun h => by have q1 := h.1; have q2 := h.2; simp only [Zone.new] at q1 q2; omega)).trans q2X
  replace q3X := (hw13.cell (p := ⟨w.heap.size, 3, none⟩) (fun h => by have q1 := h.1; have q2 := h.2; simp only [Zone.new] at q1 q2; omega)).trans q3X
  replace q4X := (hw13.cell (p := ⟨w.heap.size, 4, none⟩) (fun h => by have q1 := h.1; have q2 := h.2; simp only [Zone.new] at q1 q2; omega)).trans q4X
  replace q5X := (hw13.cell (p := ⟨w.heap.size, 5, none⟩) (fun h => by have q1 := h.1; have q2 := h.2; simp only [Zone.new] at q1 q2; omega)).trans q5X
  have s13 : w12.heap.size ≤ w13.heap.size := by omega
  clear hw13
  obtain ⟨m1, em1⟩ : ∃ t : Int, t = 1 + (offs res0 res0.length : Int) := ⟨_, rfl⟩
  rw [← em1]
  have gm1a : 0 ≤ m1 ∧ m1 ≤ 1048577 := by omega
  have Em1 := Lib.hid em1; clear em1; obtain ⟨gm1a, gm1b⟩ := gm1a
  go_wp2_with fail
  refine Calls.mono (Calls.vq (heldInt64SS_c w13 _ _ res0 _ rmG0 (by omega) (by have := Em1.out; omega)) (congrArg (Value.int .i64) Em1.out.symm)) ?_
  rintro e w14 ⟨rfl, hd14⟩
  have b14 : Below w13.heap.size w13 w14 := hd14.below _
  have B14 : Below w.heap.size w w14 := B13.trans (b14.mono B13.size)
  have s14 : w13.heap.size ≤ w14.heap.size := b14.size
  replace rS0 := stable_rows.below rS0 b14
  replace rmG0 := stable_rows.below rmG0 b14
  replace q0X := (b14.cell (p := ⟨w.heap.size, 0, none⟩) (by show w.heap.size < w13.heap.size; omega)).trans q0X
  replace q1X := (b14.cell (p := ⟨w.heap.size, 1, none⟩) (by show w.heap.size < w13.heap.size; omega)).trans q1X
  replace q2X := (b14.cell (p := ⟨w.heap.size, 2, none⟩) (by show w.heap.size < w13.heap.size; omega)).trans q2X
  replace q3X := (b14.cell (p := ⟨w.heap.size, 3, none⟩) (by show w.heap.size < w13.heap.size; omega)).trans q3X
  replace q4X := (b14.cell (p := ⟨w.heap.size, 4, none⟩) (by show w.heap.size < w13.heap.size; omega)).trans q4X
  replace q5X := (b14.cell (p := ⟨w.heap.size, 5, none⟩) (by show w.heap.size < w13.heap.size; omega)).trans q5X
  go_wp2_with fail
  refine Calls.mono (toSystemA_c w14 MX _ _ X (stable_rows.below hX B14) lbX) ?_
  rintro e w15 ⟨rvyX, rfl, ⟨uyX, rfl, ryX⟩, bb15⟩
  have b15 : Below w14.heap.size w14 w15 := bb15
  have B15 : Below w.heap.size w w15 := B14.trans (b15.mono B14.size)
  have s15 : w14.heap.size ≤ w15.heap.size := b15.size
  replace rS0 := stable_rows.below rS0 b15
  replace rmG0 := stable_rows.below rmG0 b15
  replace q0X := (b15.cell (p := ⟨w.heap.size, 0, none⟩) (by show w.heap.size < w14.heap.size; omega)).trans q0X
  replace q1X := (b15.cell (p := ⟨w.heap.size, 1, none⟩) (by show w.heap.size < w14.heap.size; omega)).trans q1X
  replace q2X := (b15.cell (p := ⟨w.heap.size, 2, none⟩) (by show w.heap.size < w14.heap.size; omega)).trans q2X
  replace q3X := (b15.cell (p := ⟨w.heap.size, 3, none⟩) (by show w.heap.size < w14.heap.size; omega)).trans q3X
  replace q4X := (b15.cell (p := ⟨w.heap.size, 4, none⟩) (by show w.heap.size < w14.heap.size; omega)).trans q4X
  replace q5X := (b15.cell (p := ⟨w.heap.size, 5, none⟩) (by show w.heap.size < w14.heap.size; omega)).trans q5X
  obtain ⟨ayX, nyX, kyX, rfl, -⟩ := SliceR.shape ryX
  go_wp2_with fail
  refine Calls.mono (CI.out w15 _ _ ryX) ?_
  rintro e w16 ⟨rr16, rfl, ⟨H0, rfl, rH0⟩, bb16⟩
  have b16 : Below w15.heap.size w15 w16 := bb16
  have B16 : Below w.heap.size w w16 := B15.trans (b16.mono B15.size)
  have s16 : w15.heap.size ≤ w16.heap.size := b16.size
  replace rS0 := stable_rows.below rS0 b16
  replace rmG0 := stable_rows.below rmG0 b16
  replace ryX := stable_rows.below ryX b16
  replace q0X := (b16.cell (p := ⟨w.heap.size, 0, none⟩) (by show w.heap.size < w15.heap.size; omega)).trans q0X
  replace q1X := (b16.cell (p := ⟨w.heap.size, 1, none⟩) (by show w.heap.size < w15.heap.size; omega)).trans q1X
  replace q2X := (b16.cell (p := ⟨w.heap.size, 2, none⟩) (by show w.heap.size < w15.heap.size; omega)).trans q2X
  replace q3X := (b16.cell (p := ⟨w.heap.size, 3, none⟩) (by show w.heap.size < w15.heap.size; omega)).trans q3X
  replace q4X := (b16.cell (p := ⟨w.heap.size, 4, none⟩) (by show w.heap.size < w15.heap.size; omega)).trans q4X
  replace q5X := (b16.cell (p := ⟨w.heap.size, 5, none⟩) (by show w.heap.size < w15.heap.size; omega)).trans q5X
  clear ryX
  go_wp2_with fail
  refine Calls.mono (Calls.vq (eqInt64SS_c w16 _ _ _ _ res0 res0 rH0 rS0) (congrArg Value.bool (decide_eq_true rfl))) ?_
  rintro e w17 ⟨rfl, hd17⟩
  have b17 : Below w16.heap.size w16 w17 := hd17.below _
  have B17 : Below w.heap.size w w17 := B16.trans (b17.mono B16.size)
  have s17 : w16.heap.size ≤ w17.heap.size := b17.size
  replace rS0 := stable_rows.below rS0 b17
  replace rmG0 := stable_rows.below rmG0 b17
  replace rH0 := stable_rows.below rH0 b17
  replace q0X := (b17.cell (p := ⟨w.heap.size, 0, none⟩) (by show w.heap.size < w16.heap.size; omega)).trans q0X
  replace q1X := (b17.cell (p := ⟨w.heap.size, 1, none⟩) (by show w.heap.size < w16.heap.size; omega)).trans q1X
  replace q2X := (b17.cell (p := ⟨w.heap.size, 2, none⟩) (by show w.heap.size < w16.heap.size; omega)).trans q2X
  replace q3X := (b17.cell (p := ⟨w.heap.size, 3, none⟩) (by show w.heap.size < w16.heap.size; omega)).trans q3X
  replace q4X := (b17.cell (p := ⟨w.heap.size, 4, none⟩) (by show w.heap.size < w16.heap.size; omega)).trans q4X
  replace q5X := (b17.cell (p := ⟨w.heap.size, 5, none⟩) (by show w.heap.size < w16.heap.size; omega)).trans q5X
  go_wp2_with fail
  refine Calls.mono (Calls.vq (heldInt64SS_c w17 _ _ res0 _ rmG0 (by omega) (by have := Em1.out; omega)) (congrArg (Value.int .i64) Em1.out.symm)) ?_
  rintro e w18 ⟨rfl, hd18⟩
  have b18 : Below w17.heap.size w17 w18 := hd18.below _
  have B18 : Below w.heap.size w w18 := B17.trans (b18.mono B17.size)
  have s18 : w17.heap.size ≤ w18.heap.size := b18.size
  replace rS0 := stable_rows.below rS0 b18
  replace rmG0 := stable_rows.below rmG0 b18
  replace rH0 := stable_rows.below rH0 b18
  replace q0X := (b18.cell (p := ⟨w.heap.size, 0, none⟩) (by show w.heap.size < w17.heap.size; omega)).trans q0X
  replace q1X := (b18.cell (p := ⟨w.heap.size, 1, none⟩) (by show w.heap.size < w17.heap.size; omega)).trans q1X
  replace q2X := (b18.cell (p := ⟨w.heap.size, 2, none⟩) (by show w.heap.size < w17.heap.size; omega)).trans q2X
  replace q3X := (b18.cell (p := ⟨w.heap.size, 3, none⟩) (by show w.heap.size < w17.heap.size; omega)).trans q3X
  replace q4X := (b18.cell (p := ⟨w.heap.size, 4, none⟩) (by show w.heap.size < w17.heap.size; omega)).trans q4X
  replace q5X := (b18.cell (p := ⟨w.heap.size, 5, none⟩) (by show w.heap.size < w17.heap.size; omega)).trans q5X
  go_wp2_with fail
  go_ret
  exact ⟨_, rfl, rfl, B18⟩


/-! ### the row -/
theorem own : ownKnob Tryz.prog.godebug = none := by kernel_rfl
theorem laidOut : laidOutB Tryz.prog = true := by kernel_rfl
set_option maxRecDepth 100000 in
theorem lifted (os : Os) (started : os.Started) (H : Type) (enc : TypeId × Value → H) :
    ReturnsInHanded {} Tryz.checked os 11 .any (Rows.fnExactBestDesignSpec.pre6 enc Tryz.prog Tryz.f11 Rows.fnExactBestDesignRow.domain false) (Rows.fnExactBestDesignSpec.post enc Tryz.prog Tryz.f11 false true false false) := by
  refine returnsInHanded_of_change (C := Tryz.checked) own started (by kernel_rfl) Tryz.func11
    (ChangeSpec.witness6 (enc := enc) (C := Tryz.checked) false ⟨#[], #[.agg #[.int .i64 0, .int .i64 0, .int .i64 0, .int .i64 0, .int .i64 0, .slice none 0 0], .int .i64 0], []⟩ 8 (by kernel_rfl) (by kernel_rfl) (by kernel_rfl) (by kernel_rfl)) ?_
  intro W base args ds gs before hval0 hW hcnd _
  have hval : ∀ (j : Nat) t v, Tryz.f11.params[j]? = some t → args[j]? = some v → Value.okWide Tryz.prog W .any base t v := hval0
  have hW' := hW
  obtain ⟨p, q, hA0, hV, rfl, hfz, hnd⟩ := hW
  have hA : DataW.TrodAll enc Tryz.prog W 0 (fun _ => true) true Tryz.f11.params.toList args.toList ds p := hA0
  rw [Tryz.params11] at hA hval
  obtain ⟨v0, vs0, d0, ds0, p0, q0, hargs, rfl, rfl, h0, r0⟩ := trodAll_cons hA
  obtain ⟨v1, vs1, d1, ds1, p1, q1, rfl, rfl, rfl, h1, r1⟩ := trodAll_cons r0
  obtain ⟨rfl, rfl, rfl⟩ := trodAll_nil r1
  obtain rfl : args = #[v0, v1] := by cases args; simp_all
  obtain ⟨rfl, rfl⟩ := trodVars_none hV
  have k0 := h0
  have lt0 : ∀ x ∈ p0, x.block < W.heap.size := by obtain ⟨m, hm⟩ := k0; exact DataW.trod_lt m _ _ _ hm
  obtain ⟨M0, u0, y0, m0, rfl, hw0, hu0⟩ := open_sys Tryz.underlying89 Tryz.underlying87 (by kernel_rfl) (by kernel_rfl) (by kernel_rfl) rfl rfl ⟨rfl, by kernel_rfl, Tryz.underlying2⟩ ⟨rfl, by kernel_rfl, Tryz.underlying2⟩ ⟨rfl, by kernel_rfl, Tryz.underlying2⟩ ⟨rfl, by kernel_rfl, Tryz.underlying2⟩ ⟨rfl, by kernel_rfl, Tryz.underlying2⟩ (hval 0 89 v0 rfl rfl) h0
  obtain ⟨x0, b0⟩ := open_RowsR Tryz.underlying26 Tryz.underlying29 Tryz.underlying2 (by kernel_rfl) (by kernel_rfl) hu0
  have k1 := h1
  have lt1 : ∀ x ∈ p1, x.block < W.heap.size := by obtain ⟨m, hm⟩ := k1; exact DataW.trod_lt m _ _ _ hm
  obtain ⟨a1, rfl, -, -, g1⟩ := open_int Tryz.underlying2 (hval 1 2 v1 rfl rfl) h1
  have w1 := wf_i64 g1
  clear hA0 hval0
  refine (walk W M0 _ x0 b0 a1 w1).mono fun e W' hret => ?_
  obtain ⟨r, rfl, rfl, bel⟩ := hret
  exact ⟨_, rfl, _, _, _, [], _, [], hW', trodAll_mk1 (shut_bool Tryz.underlying4 _), (trodAll_cons_mk (Below.trod laidOut (by kernel_rfl) (of_decide_eq_true (by kernel_rfl)) k0 bel lt0) (trodAll_cons_mk (Below.trod laidOut (by kernel_rfl) (of_decide_eq_true (by kernel_rfl)) k1 bel lt1) trodAll_mk0)), rfl, bel.frame _, fun h => by cases h⟩

theorem over : Rows.fnExactBestDesignRow.holds Tryz.pinned (OpenSpec.ofChange Rows.fnExactBestDesignSpec) :=
  OpenClaim.holds_of_wide 11 Tryz.f11 rfl rfl rfl rfl rfl rfl rfl ⟨rfl, rfl, rfl, rfl, rfl⟩ rfl rfl rfl rfl rfl (by kernel_rfl) Tryz.func11 (by kernel_rfl)
    (of_decide_eq_true (by kernel_rfl)) (by unfold Func.isWrapper; first | (rw [if_pos (by decide +kernel)]; kernel_rfl) | (rw [if_neg (by decide +kernel)]; exact ⟨rfl, rfl⟩))
    (fun os started H enc _ => lifted os started H enc)

theorem proved : Rows.FnExactBestDesignSaid := over


end fnExactBestDesign
end Go.Proofs.YtegmognpofcfiaaGreat
