/- Proved: for every system, every list of lists, every row and every key, laws.FnExactExtendSystem returns true and changes nothing that was there; no condition. -/
import Derived.Test.YtgagjibjnaappaaGreatRows
import Derived.Deep.RegionHeld3
import Derived.Test.YtgagjibjnaappaaGreatUPkL
import Derived.Test.YtgagjibjnaappaaGreatUExtSpec
import Derived.Test.YtgagjibjnaappaaGreatUExtImpl
namespace Go.Proofs.YtgagjibjnaappaaGreat
open Go.ChangeShapes Go.WideShapes Go.ChangeAt Go.RowKit
set_option linter.unusedVariables false
namespace fnExactExtendSystem

theorem app_small {l : List (List Int)} {r : List Int} (hl : l.length ≤ 900) (hr : ∀ j, j < l.length → (l.getD j []).length ≤ 12) (h : r.length ≤ 12) : (offs (l ++ [r]) (l ++ [r]).length : Int) ≤ 1048576 := by
  refine offs_small 12 (fun x hx => ?_) (by simp; omega) (by omega)
  rcases List.mem_append.1 hx with hx | hx
  · obtain ⟨j, hj, rfl⟩ := List.getElem_of_mem hx
    have := hr j hj
    rw [List.getD_eq_getElem?_getD, List.getElem?_eq_getElem hj] at this
    exact this
  · rw [List.mem_singleton.1 hx]; exact h
theorem extend_size (mk : MK) (t cuts : List (List Int)) (row key : List Int) : (offs (extendSys mk t cuts row key).1.2 (extendSys mk t cuts row key).1.2.length : Int) ≤ 1048576 ∧ (offs (extendSys mk t cuts row key).2.1 (extendSys mk t cuts row key).2.1.length : Int) ≤ 1048576 := by
  unfold extendSys
  split
  · exact ⟨offs_nil, offs_nil⟩
  · split
    · exact ⟨offs_nil, offs_nil⟩
    · next h1 h2 =>
      have ok := rowCode_zero (by omega : rowCode mk t cuts row [key] = 0)
      have hl := ok.len
      have hq := ok.eq
      have hd := ok.doors
      exact ⟨app_small (by omega) (fun j hj => by have := ok.row j hj; omega) (by rw [ok.row_len]; omega), app_small (by omega) (fun j hj => by have := ok.toDesignOk.rowLen hj; omega) (by have := ok.keyLen; omega)⟩
set_option maxRecDepth 20000 in
set_option maxHeartbeats 2000000 in
theorem walk (w : World) (MX : MK) (vX : Value) (X : List (List Int)) (hX : RowsR (.old w) w vX X) (vcuts : Value) (cuts : List (List Int)) (hcuts : RowsR (.old w) w vcuts cuts) (vrow : Value) (row : List Int) (hrow : IntsR (.old w) w vrow row) (vkey : Value) (key : List Int) (hkey : IntsR (.old w) w vkey key) :
    Calls Tryz.prog 3 #[.agg #[.int .i64 MX.c, .int .i64 MX.d, .int .i64 MX.s, .int .i64 MX.m, .int .i64 MX.l, vX], vcuts, vrow, vkey] w (Ret w fun r _ => r = .bool true) := by
  obtain ⟨aX, nX, cX, rfl, shX, -⟩ := SliceR.shape hX
  clear shX
  obtain ⟨acuts, ncuts, ccuts, rfl, shcuts, -⟩ := SliceR.shape hcuts
  clear shcuts
  obtain ⟨arow, nrow, crow, rfl, shrow, -⟩ := SliceR.shape hrow
  have Hnrow := Lib.hid shrow; clear shrow
  obtain ⟨akey, nkey, ckey, rfl, shkey, -⟩ := SliceR.shape hkey
  have Hnkey := Lib.hid shkey; clear shkey
  rcases Nat.lt_or_ge 1048576 nrow with hlrow | hlrow
  · go_enter Tryz.func3, Tryz.ntmps3
    go_wp2_with fail
    go_ret
    exact ⟨_, rfl, rfl, (Below.refl _ _).alloc (Nat.le_refl _) _⟩
  have hlrow : row.length ≤ 1048576 := by rw [← Hnrow.out]; exact hlrow
  rcases Nat.lt_or_ge 1048576 nkey with hlkey | hlkey
  · go_enter Tryz.func3, Tryz.ntmps3
    go_wp2_with fail
    go_ret
    exact ⟨_, rfl, rfl, (Below.refl _ _).alloc (Nat.le_refl _) _⟩
  have hlkey : key.length ≤ 1048576 := by rw [← Hnkey.out]; exact hlkey
  have cS : ∀ (wq : World) (yX : Value) (zX : Zone) (ycuts : Value) (zcuts : Zone) (yrow : Value) (zrow : Zone) (ykey : Value) (zkey : Zone) (gX : RowsR zX wq yX X) (gcuts : RowsR zcuts wq ycuts cuts) (grow : IntsR zrow wq yrow row) (gkey : IntsR zkey wq ykey key), Calls Tryz.prog 7 #[.agg #[.int .i64 MX.c, .int .i64 MX.d, .int .i64 MX.s, .int .i64 MX.m, .int .i64 MX.l, yX], ycuts, yrow, ykey] wq (Ret wq fun r w' => ∃ u0 u1 m0, r = .tuple #[.agg #[.int .i64 ((extendSys MX X cuts row key).1).1.c, .int .i64 ((extendSys MX X cuts row key).1).1.d, .int .i64 ((extendSys MX X cuts row key).1).1.s, .int .i64 ((extendSys MX X cuts row key).1).1.m, .int .i64 ((extendSys MX X cuts row key).1).1.l, u0], u1, .int .i64 (extendSys MX X cuts row key).2.2] ∧ (wq.heap.size ≤ m0 ∧ m0 ≤ w'.heap.size) ∧ RowsR ⟨wq.heap.size, m0, true⟩ w' u0 ((extendSys MX X cuts row key).1).2 ∧ RowsR ⟨m0, w'.heap.size, true⟩ w' u1 (extendSys MX X cuts row key).2.1) := fun wq yX zX ycuts zcuts yrow zrow ykey zkey gX gcuts grow gkey => (fun w M v z x h u y cuts h2 v3 z3 row h3 v4 z4 key h4 => ExtendSystemSpec_c w M v z x h u y cuts h2 v3 z3 row h3 v4 z4 key h4) wq MX yX zX X gX ycuts zcuts cuts gcuts yrow zrow row grow ykey zkey key gkey
  have cI : ∀ (wq : World) (yX : Value) (zX : Zone) (ycuts : Value) (zcuts : Zone) (yrow : Value) (zrow : Zone) (ykey : Value) (zkey : Zone) (gX : RowsR zX wq yX X) (gcuts : RowsR zcuts wq ycuts cuts) (grow : IntsR zrow wq yrow row) (gkey : IntsR zkey wq ykey key), Calls Tryz.prog 11 #[.agg #[.int .i64 MX.c, .int .i64 MX.d, .int .i64 MX.s, .int .i64 MX.m, .int .i64 MX.l, yX], ycuts, yrow, ykey] wq (Ret wq fun r w' => ∃ u0 u1 m0, r = .tuple #[.agg #[.int .i64 ((extendSys MX X cuts row key).1).1.c, .int .i64 ((extendSys MX X cuts row key).1).1.d, .int .i64 ((extendSys MX X cuts row key).1).1.s, .int .i64 ((extendSys MX X cuts row key).1).1.m, .int .i64 ((extendSys MX X cuts row key).1).1.l, u0], u1, .int .i64 (extendSys MX X cuts row key).2.2] ∧ (wq.heap.size ≤ m0 ∧ m0 ≤ w'.heap.size) ∧ RowsR ⟨wq.heap.size, m0, true⟩ w' u0 ((extendSys MX X cuts row key).1).2 ∧ RowsR ⟨m0, w'.heap.size, true⟩ w' u1 (extendSys MX X cuts row key).2.1) := fun wq yX zX ycuts zcuts yrow zrow ykey zkey gX gcuts grow gkey => (fun w M v z x h u y cuts h2 v3 z3 row h3 v4 z4 key h4 => ExtendSystem_c w M v z x h u y cuts h2 v3 z3 row h3 v4 z4 key h4) wq MX yX zX X gX ycuts zcuts cuts gcuts yrow zrow row grow ykey zkey key gkey
  have LR0 : (offs (((extendSys MX X cuts row key).1).2) (((extendSys MX X cuts row key).1).2).length : Int) ≤ 1048576 := (extend_size _ _ _ _ _).1
  have LR1 : (offs ((extendSys MX X cuts row key).2.1) ((extendSys MX X cuts row key).2.1).length : Int) ≤ 1048576 := (extend_size _ _ _ _ _).2
  generalize ((extendSys MX X cuts row key).1).1 = MR0 at cS cI LR0 LR1
  generalize ((extendSys MX X cuts row key).1).2 = res0 at cS cI LR0 LR1
  generalize (extendSys MX X cuts row key).2.1 = res1 at cS cI LR0 LR1
  generalize (extendSys MX X cuts row key).2.2 = res2 at cS cI LR0 LR1
  have CS := Lib.hid cS; have CI := Lib.hid cI; clear cS cI
  go_enter Tryz.func3, Tryz.ntmps3
  go_wp2_with fail
  generalize hwb1 : World.alloc _ _ = w1
  have b1 : Below w.heap.size w w1 := by rw [← hwb1]; exact (Below.refl _ _).alloc (Nat.le_refl _) _
  have s1 : w.heap.size < w1.heap.size := by rw [← hwb1]; simp
  have q0X : w1.cell? ⟨w.heap.size, 0, none⟩ = some (.int .i64 MX.c) := by rw [← hwb1]; clear hwb1; go_simp
  have q1X : w1.cell? ⟨w.heap.size, 1, none⟩ = some (.int .i64 MX.d) := by rw [← hwb1]; clear hwb1; go_simp
  have q2X : w1.cell? ⟨w.heap.size, 2, none⟩ = some (.int .i64 MX.s) := by rw [← hwb1]; clear hwb1; go_simp
  have q3X : w1.cell? ⟨w.heap.size, 3, none⟩ = some (.int .i64 MX.m) := by rw [← hwb1]; clear hwb1; go_simp
  have q4X : w1.cell? ⟨w.heap.size, 4, none⟩ = some (.int .i64 MX.l) := by rw [← hwb1]; clear hwb1; go_simp
  have q5X : w1.cell? ⟨w.heap.size, 5, none⟩ = some (.slice aX nX cX) := by rw [← hwb1]; clear hwb1; go_simp
  clear hwb1
  have B1 : Below w.heap.size w w1 := b1
  have szX := szSystemA_c w1 MX _ _ X 1048576 (stable_rows.below hX B1) (by omega) (by omega)
  rcases Nat.lt_or_ge (1048576 : Int).toNat (bulk X) with hbX | hbX
  · rw [szLeft_neg (by omega)] at szX
    refine Calls.mono szX ?_
    rintro e wx ⟨r, rfl, rfl, bx⟩
    go_wp2_with fail
    go_ret
    exact ⟨_, rfl, rfl, B1.trans (bx.mono B1.size)⟩
  rw [szLeft_pos (by omega)] at szX
  have lbX : bulk X ≤ 1048576 := by omega
  have lgX : (0 : Int) ≤ 1048576 - (bulk X : Int) := by omega
  have lhX : 1048576 - (bulk X : Int) ≤ 1048576 := by omega
  generalize (1048576 : Int) - (bulk X : Int) = lX at *
  refine Calls.mono szX ?_
  rintro e w2 ⟨r, rfl, rfl, hd2⟩
  clear szX
  have b2 : Below w1.heap.size w1 w2 := hd2
  have B2 : Below w.heap.size w w2 := B1.trans (b2.mono B1.size)
  have s2 : w1.heap.size ≤ w2.heap.size := b2.size
  replace q0X := (b2.cell (p := ⟨w.heap.size, 0, none⟩) (by show w.heap.size < w1.heap.size; omega)).trans q0X
  replace q1X := (b2.cell (p := ⟨w.heap.size, 1, none⟩) (by show w.heap.size < w1.heap.size; omega)).trans q1X
  replace q2X := (b2.cell (p := ⟨w.heap.size, 2, none⟩) (by show w.heap.size < w1.heap.size; omega)).trans q2X
  replace q3X := (b2.cell (p := ⟨w.heap.size, 3, none⟩) (by show w.heap.size < w1.heap.size; omega)).trans q3X
  replace q4X := (b2.cell (p := ⟨w.heap.size, 4, none⟩) (by show w.heap.size < w1.heap.size; omega)).trans q4X
  replace q5X := (b2.cell (p := ⟨w.heap.size, 5, none⟩) (by show w.heap.size < w1.heap.size; omega)).trans q5X
  have szcuts := szInt64SS_c w2 _ _ cuts lX (stable_rows.below hcuts B2) (by omega) (by omega)
  go_wp2_with fail
  rcases Nat.lt_or_ge (lX : Int).toNat (bulk cuts) with hbcuts | hbcuts
  · rw [szLeft_neg (by omega)] at szcuts
    refine Calls.mono szcuts ?_
    rintro e wx ⟨rfl, hdx⟩
    go_wp2_with fail
    go_ret
    exact ⟨_, rfl, rfl, B2.trans (hdx.below _)⟩
  rw [szLeft_pos (by omega)] at szcuts
  have lbcuts : bulk cuts ≤ 1048576 := by omega
  have lgcuts : (0 : Int) ≤ lX - (bulk cuts : Int) := by omega
  have lhcuts : lX - (bulk cuts : Int) ≤ 1048576 := by omega
  generalize (lX : Int) - (bulk cuts : Int) = lcuts at *
  refine Calls.mono szcuts ?_
  rintro e w3 ⟨rfl, hd3⟩
  clear szcuts
  have b3 : Below w2.heap.size w2 w3 := hd3.below _
  have B3 : Below w.heap.size w w3 := B2.trans (b3.mono B2.size)
  have s3 : w2.heap.size ≤ w3.heap.size := b3.size
  replace q0X := (b3.cell (p := ⟨w.heap.size, 0, none⟩) (by show w.heap.size < w2.heap.size; omega)).trans q0X
  replace q1X := (b3.cell (p := ⟨w.heap.size, 1, none⟩) (by show w.heap.size < w2.heap.size; omega)).trans q1X
  replace q2X := (b3.cell (p := ⟨w.heap.size, 2, none⟩) (by show w.heap.size < w2.heap.size; omega)).trans q2X
  replace q3X := (b3.cell (p := ⟨w.heap.size, 3, none⟩) (by show w.heap.size < w2.heap.size; omega)).trans q3X
  replace q4X := (b3.cell (p := ⟨w.heap.size, 4, none⟩) (by show w.heap.size < w2.heap.size; omega)).trans q4X
  replace q5X := (b3.cell (p := ⟨w.heap.size, 5, none⟩) (by show w.heap.size < w2.heap.size; omega)).trans q5X
  go_wp2_with fail
  refine Calls.mono (toSystemA_c w3 MX _ _ X (stable_rows.below hX B3) lbX) ?_
  rintro e w4 ⟨rvsX, rfl, ⟨usX, rfl, rsX⟩, bb4⟩
  have b4 : Below w3.heap.size w3 w4 := bb4
  have B4 : Below w.heap.size w w4 := B3.trans (b4.mono B3.size)
  have s4 : w3.heap.size ≤ w4.heap.size := b4.size
  replace q0X := (b4.cell (p := ⟨w.heap.size, 0, none⟩) (by show w.heap.size < w3.heap.size; omega)).trans q0X
  replace q1X := (b4.cell (p := ⟨w.heap.size, 1, none⟩) (by show w.heap.size < w3.heap.size; omega)).trans q1X
  replace q2X := (b4.cell (p := ⟨w.heap.size, 2, none⟩) (by show w.heap.size < w3.heap.size; omega)).trans q2X
  replace q3X := (b4.cell (p := ⟨w.heap.size, 3, none⟩) (by show w.heap.size < w3.heap.size; omega)).trans q3X
  replace q4X := (b4.cell (p := ⟨w.heap.size, 4, none⟩) (by show w.heap.size < w3.heap.size; omega)).trans q4X
  replace q5X := (b4.cell (p := ⟨w.heap.size, 5, none⟩) (by show w.heap.size < w3.heap.size; omega)).trans q5X
  obtain ⟨asX, nsX, ksX, rfl, -⟩ := SliceR.shape rsX
  go_wp2_with fail
  refine Calls.mono (toInt64SS_c w4 _ _ cuts (stable_rows.below hcuts B4) lbcuts) ?_
  rintro e w5 ⟨uscuts, rfl, rscuts, bb5⟩
  have b5 : Below w4.heap.size w4 w5 := bb5
  have B5 : Below w.heap.size w w5 := B4.trans (b5.mono B4.size)
  have s5 : w4.heap.size ≤ w5.heap.size := b5.size
  replace rsX := stable_rows.below rsX b5
  replace q0X := (b5.cell (p := ⟨w.heap.size, 0, none⟩) (by show w.heap.size < w4.heap.size; omega)).trans q0X
  replace q1X := (b5.cell (p := ⟨w.heap.size, 1, none⟩) (by show w.heap.size < w4.heap.size; omega)).trans q1X
  replace q2X := (b5.cell (p := ⟨w.heap.size, 2, none⟩) (by show w.heap.size < w4.heap.size; omega)).trans q2X
  replace q3X := (b5.cell (p := ⟨w.heap.size, 3, none⟩) (by show w.heap.size < w4.heap.size; omega)).trans q3X
  replace q4X := (b5.cell (p := ⟨w.heap.size, 4, none⟩) (by show w.heap.size < w4.heap.size; omega)).trans q4X
  replace q5X := (b5.cell (p := ⟨w.heap.size, 5, none⟩) (by show w.heap.size < w4.heap.size; omega)).trans q5X
  go_wp2_with fail
  refine Calls.mono (toInt64S_c w5 _ _ row (stable_ints.below hrow B5) hlrow) ?_
  rintro e w6 ⟨usrow, rfl, rsrow, bb6⟩
  have b6 : Below w5.heap.size w5 w6 := bb6
  have B6 : Below w.heap.size w w6 := B5.trans (b6.mono B5.size)
  have s6 : w5.heap.size ≤ w6.heap.size := b6.size
  replace rsX := stable_rows.below rsX b6
  replace rscuts := stable_rows.below rscuts b6
  replace q0X := (b6.cell (p := ⟨w.heap.size, 0, none⟩) (by show w.heap.size < w5.heap.size; omega)).trans q0X
  replace q1X := (b6.cell (p := ⟨w.heap.size, 1, none⟩) (by show w.heap.size < w5.heap.size; omega)).trans q1X
  replace q2X := (b6.cell (p := ⟨w.heap.size, 2, none⟩) (by show w.heap.size < w5.heap.size; omega)).trans q2X
  replace q3X := (b6.cell (p := ⟨w.heap.size, 3, none⟩) (by show w.heap.size < w5.heap.size; omega)).trans q3X
  replace q4X := (b6.cell (p := ⟨w.heap.size, 4, none⟩) (by show w.heap.size < w5.heap.size; omega)).trans q4X
  replace q5X := (b6.cell (p := ⟨w.heap.size, 5, none⟩) (by show w.heap.size < w5.heap.size; omega)).trans q5X
  go_wp2_with fail
  refine Calls.mono (toInt64S_c w6 _ _ key (stable_ints.below hkey B6) hlkey) ?_
  rintro e w7 ⟨uskey, rfl, rskey, bb7⟩
  have b7 : Below w6.heap.size w6 w7 := bb7
  have B7 : Below w.heap.size w w7 := B6.trans (b7.mono B6.size)
  have s7 : w6.heap.size ≤ w7.heap.size := b7.size
  replace rsX := stable_rows.below rsX b7
  replace rscuts := stable_rows.below rscuts b7
  replace rsrow := stable_ints.below rsrow b7
  replace q0X := (b7.cell (p := ⟨w.heap.size, 0, none⟩) (by show w.heap.size < w6.heap.size; omega)).trans q0X
  replace q1X := (b7.cell (p := ⟨w.heap.size, 1, none⟩) (by show w.heap.size < w6.heap.size; omega)).trans q1X
  replace q2X := (b7.cell (p := ⟨w.heap.size, 2, none⟩) (by show w.heap.size < w6.heap.size; omega)).trans q2X
  replace q3X := (b7.cell (p := ⟨w.heap.size, 3, none⟩) (by show w.heap.size < w6.heap.size; omega)).trans q3X
  replace q4X := (b7.cell (p := ⟨w.heap.size, 4, none⟩) (by show w.heap.size < w6.heap.size; omega)).trans q4X
  replace q5X := (b7.cell (p := ⟨w.heap.size, 5, none⟩) (by show w.heap.size < w6.heap.size; omega)).trans q5X
  go_wp2_with fail
  refine Calls.mono (CS.out w7 _ _ _ _ _ _ _ _ rsX rscuts rsrow rskey) ?_
  rintro e w8 ⟨rr8, rfl, ⟨S0, S1, mzS0, rfl, ⟨mlS0, mlS1⟩, rS0, rS1⟩, bb8⟩
  have b8 : Below w7.heap.size w7 w8 := bb8
  have B8 : Below w.heap.size w w8 := B7.trans (b8.mono B7.size)
  have s8 : w7.heap.size ≤ w8.heap.size := b8.size
  replace rsX := stable_rows.below rsX b8
  replace rscuts := stable_rows.below rscuts b8
  replace rsrow := stable_ints.below rsrow b8
  replace rskey := stable_ints.below rskey b8
  replace q0X := (b8.cell (p := ⟨w.heap.size, 0, none⟩) (by show w.heap.size < w7.heap.size; omega)).trans q0X
  replace q1X := (b8.cell (p := ⟨w.heap.size, 1, none⟩) (by show w.heap.size < w7.heap.size; omega)).trans q1X
  replace q2X := (b8.cell (p := ⟨w.heap.size, 2, none⟩) (by show w.heap.size < w7.heap.size; omega)).trans q2X
  replace q3X := (b8.cell (p := ⟨w.heap.size, 3, none⟩) (by show w.heap.size < w7.heap.size; omega)).trans q3X
  replace q4X := (b8.cell (p := ⟨w.heap.size, 4, none⟩) (by show w.heap.size < w7.heap.size; omega)).trans q4X
  replace q5X := (b8.cell (p := ⟨w.heap.size, 5, none⟩) (by show w.heap.size < w7.heap.size; omega)).trans q5X
  obtain ⟨aS0, nS0, kS0, rfl, -⟩ := SliceR.shape rS0
  have zl0 : w.heap.size < w8.heap.size := by omega
  have zm0 := Nat.ne_of_lt zl0; have zn0 := Nat.ne_of_gt zl0
  go_wp2_with fail
  clear zl0 zm0 zn0
  generalize hwb9 : World.alloc _ _ = w9
  have b9 : Below w8.heap.size w8 w9 := by rw [← hwb9]; exact (Below.refl _ _).alloc (Nat.le_refl _) _
  have s9 : w8.heap.size < w9.heap.size := by rw [← hwb9]; simp
  have S0R0 : w9.cell? ⟨w8.heap.size, 0, none⟩ = some (.int .i64 MR0.c) := by rw [← hwb9]; clear hwb9; go_simp
  have S1R0 : w9.cell? ⟨w8.heap.size, 1, none⟩ = some (.int .i64 MR0.d) := by rw [← hwb9]; clear hwb9; go_simp
  have S2R0 : w9.cell? ⟨w8.heap.size, 2, none⟩ = some (.int .i64 MR0.s) := by rw [← hwb9]; clear hwb9; go_simp
  have S3R0 : w9.cell? ⟨w8.heap.size, 3, none⟩ = some (.int .i64 MR0.m) := by rw [← hwb9]; clear hwb9; go_simp
  have S4R0 : w9.cell? ⟨w8.heap.size, 4, none⟩ = some (.int .i64 MR0.l) := by rw [← hwb9]; clear hwb9; go_simp
  have S5R0 : w9.cell? ⟨w8.heap.size, 5, none⟩ = some (.slice aS0 nS0 kS0) := by rw [← hwb9]; clear hwb9; go_simp
  clear hwb9
  have B9 : Below w.heap.size w w9 := B8.trans (b9.mono B8.size)
  replace rsX := stable_rows.below rsX b9
  replace rscuts := stable_rows.below rscuts b9
  replace rsrow := stable_ints.below rsrow b9
  replace rskey := stable_ints.below rskey b9
  replace rS0 := stable_rows.below rS0 b9
  replace rS1 := stable_rows.below rS1 b9
  replace q0X := (b9.cell (p := ⟨w.heap.size, 0, none⟩) (by show w.heap.size < w8.heap.size; omega)).trans q0X
  replace q1X := (b9.cell (p := ⟨w.heap.size, 1, none⟩) (by show w.heap.size < w8.heap.size; omega)).trans q1X
  replace q2X := (b9.cell (p := ⟨w.heap.size, 2, none⟩) (by show w.heap.size < w8.heap.size; omega)).trans q2X
  replace q3X := (b9.cell (p := ⟨w.heap.size, 3, none⟩) (by show w.heap.size < w8.heap.size; omega)).trans q3X
  replace q4X := (b9.cell (p := ⟨w.heap.size, 4, none⟩) (by show w.heap.size < w8.heap.size; omega)).trans q4X
  replace q5X := (b9.cell (p := ⟨w.heap.size, 5, none⟩) (by show w.heap.size < w8.heap.size; omega)).trans q5X
  clear rsX
  clear rscuts
  clear rsrow
  clear rskey
  refine Calls.mono (toSystemA_c w9 MX _ _ X (stable_rows.below hX B9) lbX) ?_
  rintro e w10 ⟨rvxX, rfl, ⟨uxX, rfl, rxX⟩, bb10⟩
  have b10 : Below w9.heap.size w9 w10 := bb10
  have B10 : Below w.heap.size w w10 := B9.trans (b10.mono B9.size)
  have s10 : w9.heap.size ≤ w10.heap.size := b10.size
  replace rS0 := stable_rows.below rS0 b10
  replace rS1 := stable_rows.below rS1 b10
  replace q0X := (b10.cell (p := ⟨w.heap.size, 0, none⟩) (by show w.heap.size < w9.heap.size; omega)).trans q0X
  replace q1X := (b10.cell (p := ⟨w.heap.size, 1, none⟩) (by show w.heap.size < w9.heap.size; omega)).trans q1X
  replace q2X := (b10.cell (p := ⟨w.heap.size, 2, none⟩) (by show w.heap.size < w9.heap.size; omega)).trans q2X
  replace q3X := (b10.cell (p := ⟨w.heap.size, 3, none⟩) (by show w.heap.size < w9.heap.size; omega)).trans q3X
  replace q4X := (b10.cell (p := ⟨w.heap.size, 4, none⟩) (by show w.heap.size < w9.heap.size; omega)).trans q4X
  replace q5X := (b10.cell (p := ⟨w.heap.size, 5, none⟩) (by show w.heap.size < w9.heap.size; omega)).trans q5X
  replace S0R0 := (b10.cell (p := ⟨w8.heap.size, 0, none⟩) (by show w8.heap.size < w9.heap.size; omega)).trans S0R0
  replace S1R0 := (b10.cell (p := ⟨w8.heap.size, 1, none⟩) (by show w8.heap.size < w9.heap.size; omega)).trans S1R0
  replace S2R0 := (b10.cell (p := ⟨w8.heap.size, 2, none⟩) (by show w8.heap.size < w9.heap.size; omega)).trans S2R0
  replace S3R0 := (b10.cell (p := ⟨w8.heap.size, 3, none⟩) (by show w8.heap.size < w9.heap.size; omega)).trans S3R0
  replace S4R0 := (b10.cell (p := ⟨w8.heap.size, 4, none⟩) (by show w8.heap.size < w9.heap.size; omega)).trans S4R0
  replace S5R0 := (b10.cell (p := ⟨w8.heap.size, 5, none⟩) (by show w8.heap.size < w9.heap.size; omega)).trans S5R0
  obtain ⟨axX, nxX, kxX, rfl, -⟩ := SliceR.shape rxX
  go_wp2_with fail
  generalize hwb11 : World.alloc _ _ = w11
  have b11 : Below w10.heap.size w10 w11 := by rw [← hwb11]; exact (Below.refl _ _).alloc (Nat.le_refl _) _
  have s11 : w10.heap.size < w11.heap.size := by rw [← hwb11]; simp
  have p0X : w11.cell? ⟨w10.heap.size, 0, none⟩ = some (.int .i64 MX.c) := by rw [← hwb11]; clear hwb11; go_simp
  have p1X : w11.cell? ⟨w10.heap.size, 1, none⟩ = some (.int .i64 MX.d) := by rw [← hwb11]; clear hwb11; go_simp
  have p2X : w11.cell? ⟨w10.heap.size, 2, none⟩ = some (.int .i64 MX.s) := by rw [← hwb11]; clear hwb11; go_simp
  have p3X : w11.cell? ⟨w10.heap.size, 3, none⟩ = some (.int .i64 MX.m) := by rw [← hwb11]; clear hwb11; go_simp
  have p4X : w11.cell? ⟨w10.heap.size, 4, none⟩ = some (.int .i64 MX.l) := by rw [← hwb11]; clear hwb11; go_simp
  have p5X : w11.cell? ⟨w10.heap.size, 5, none⟩ = some (.slice axX nxX kxX) := by rw [← hwb11]; clear hwb11; go_simp
  clear hwb11
  have B11 : Below w.heap.size w w11 := B10.trans (b11.mono B10.size)
  replace rS0 := stable_rows.below rS0 b11
  replace rS1 := stable_rows.below rS1 b11
  replace rxX := stable_rows.below rxX b11
  replace q0X := (b11.cell (p := ⟨w.heap.size, 0, none⟩) (by show w.heap.size < w10.heap.size; omega)).trans q0X
  replace q1X := (b11.cell (p := ⟨w.heap.size, 1, none⟩) (by show w.heap.size < w10.heap.size; omega)).trans q1X
  replace q2X := (b11.cell (p := ⟨w.heap.size, 2, none⟩) (by show w.heap.size < w10.heap.size; omega)).trans q2X
  replace q3X := (b11.cell (p := ⟨w.heap.size, 3, none⟩) (by show w.heap.size < w10.heap.size; omega)).trans q3X
  replace q4X := (b11.cell (p := ⟨w.heap.size, 4, none⟩) (by show w.heap.size < w10.heap.size; omega)).trans q4X
  replace q5X := (b11.cell (p := ⟨w.heap.size, 5, none⟩) (by show w.heap.size < w10.heap.size; omega)).trans q5X
  replace S0R0 := (b11.cell (p := ⟨w8.heap.size, 0, none⟩) (by show w8.heap.size < w10.heap.size; omega)).trans S0R0
  replace S1R0 := (b11.cell (p := ⟨w8.heap.size, 1, none⟩) (by show w8.heap.size < w10.heap.size; omega)).trans S1R0
  replace S2R0 := (b11.cell (p := ⟨w8.heap.size, 2, none⟩) (by show w8.heap.size < w10.heap.size; omega)).trans S2R0
  replace S3R0 := (b11.cell (p := ⟨w8.heap.size, 3, none⟩) (by show w8.heap.size < w10.heap.size; omega)).trans S3R0
  replace S4R0 := (b11.cell (p := ⟨w8.heap.size, 4, none⟩) (by show w8.heap.size < w10.heap.size; omega)).trans S4R0
  replace S5R0 := (b11.cell (p := ⟨w8.heap.size, 5, none⟩) (by show w8.heap.size < w10.heap.size; omega)).trans S5R0
  refine Calls.mono (toInt64SS_c w11 _ _ cuts (stable_rows.below hcuts B11) lbcuts) ?_
  rintro e w12 ⟨uxcuts, rfl, rxcuts, bb12⟩
  have b12 : Below w11.heap.size w11 w12 := bb12
  have B12 : Below w.heap.size w w12 := B11.trans (b12.mono B11.size)
  have s12 : w11.heap.size ≤ w12.heap.size := b12.size
  replace rS0 := stable_rows.below rS0 b12
  replace rS1 := stable_rows.below rS1 b12
  replace rxX := stable_rows.below rxX b12
  replace q0X := (b12.cell (p := ⟨w.heap.size, 0, none⟩) (by show w.heap.size < w11.heap.size; omega)).trans q0X
  replace q1X := (b12.cell (p := ⟨w.heap.size, 1, none⟩) (by show w.heap.size < w11.heap.size; omega)).trans q1X
  replace q2X := (b12.cell (p := ⟨w.heap.size, 2, none⟩) (by show w.heap.size < w11.heap.size; omega)).trans q2X
  replace q3X := (b12.cell (p := ⟨w.heap.size, 3, none⟩) (by show w.heap.size < w11.heap.size; omega)).trans q3X
  replace q4X := (b12.cell (p := ⟨w.heap.size, 4, none⟩) (by show w.heap.size < w11.heap.size; omega)).trans q4X
  replace q5X := (b12.cell (p := ⟨w.heap.size, 5, none⟩) (by show w.heap.size < w11.heap.size; omega)).trans q5X
  replace S0R0 := (b12.cell (p := ⟨w8.heap.size, 0, none⟩) (by show w8.heap.size < w11.heap.size; omega)).trans S0R0
  replace S1R0 := (b12.cell (p := ⟨w8.heap.size, 1, none⟩) (by show w8.heap.size < w11.heap.size; omega)).trans S1R0
  replace S2R0 := (b12.cell (p := ⟨w8.heap.size, 2, none⟩) (by show w8.heap.size < w11.heap.size; omega)).trans S2R0
  replace S3R0 := (b12.cell (p := ⟨w8.heap.size, 3, none⟩) (by show w8.heap.size < w11.heap.size; omega)).trans S3R0
  replace S4R0 := (b12.cell (p := ⟨w8.heap.size, 4, none⟩) (by show w8.heap.size < w11.heap.size; omega)).trans S4R0
  replace S5R0 := (b12.cell (p := ⟨w8.heap.size, 5, none⟩) (by show w8.heap.size < w11.heap.size; omega)).trans S5R0
  replace p0X := (b12.cell (p := ⟨w10.heap.size, 0, none⟩) (by show w10.heap.size < w11.heap.size; omega)).trans p0X
  replace p1X := (b12.cell (p := ⟨w10.heap.size, 1, none⟩) (by show w10.heap.size < w11.heap.size; omega)).trans p1X
  replace p2X := (b12.cell (p := ⟨w10.heap.size, 2, none⟩) (by show w10.heap.size < w11.heap.size; omega)).trans p2X
  replace p3X := (b12.cell (p := ⟨w10.heap.size, 3, none⟩) (by show w10.heap.size < w11.heap.size; omega)).trans p3X
  replace p4X := (b12.cell (p := ⟨w10.heap.size, 4, none⟩) (by show w10.heap.size < w11.heap.size; omega)).trans p4X
  replace p5X := (b12.cell (p := ⟨w10.heap.size, 5, none⟩) (by show w10.heap.size < w11.heap.size; omega)).trans p5X
  go_wp2_with fail
  refine Calls.mono (toInt64S_c w12 _ _ row (stable_ints.below hrow B12) hlrow) ?_
  rintro e w13 ⟨uxrow, rfl, rxrow, bb13⟩
  have b13 : Below w12.heap.size w12 w13 := bb13
  have B13 : Below w.heap.size w w13 := B12.trans (b13.mono B12.size)
  have s13 : w12.heap.size ≤ w13.heap.size := b13.size
  replace rS0 := stable_rows.below rS0 b13
  replace rS1 := stable_rows.below rS1 b13
  replace rxX := stable_rows.below rxX b13
  replace rxcuts := stable_rows.below rxcuts b13
  replace q0X := (b13.cell (p := ⟨w.heap.size, 0, none⟩) (by show w.heap.size < w12.heap.size; omega)).trans q0X
  replace q1X := (b13.cell (p := ⟨w.heap.size, 1, none⟩) (by show w.heap.size < w12.heap.size; omega)).trans q1X
  replace q2X := (b13.cell (p := ⟨w.heap.size, 2, none⟩) (by show w.heap.size < w12.heap.size; omega)).trans q2X
  replace q3X := (b13.cell (p := ⟨w.heap.size, 3, none⟩) (by show w.heap.size < w12.heap.size; omega)).trans q3X
  replace q4X := (b13.cell (p := ⟨w.heap.size, 4, none⟩) (by show w.heap.size < w12.heap.size; omega)).trans q4X
  replace q5X := (b13.cell (p := ⟨w.heap.size, 5, none⟩) (by show w.heap.size < w12.heap.size; omega)).trans q5X
  replace S0R0 := (b13.cell (p := ⟨w8.heap.size, 0, none⟩) (by show w8.heap.size < w12.heap.size; omega)).trans S0R0
  replace S1R0 := (b13.cell (p := ⟨w8.heap.size, 1, none⟩) (by show w8.heap.size < w12.heap.size; omega)).trans S1R0
  replace S2R0 := (b13.cell (p := ⟨w8.heap.size, 2, none⟩) (by show w8.heap.size < w12.heap.size; omega)).trans S2R0
  replace S3R0 := (b13.cell (p := ⟨w8.heap.size, 3, none⟩) (by show w8.heap.size < w12.heap.size; omega)).trans S3R0
  replace S4R0 := (b13.cell (p := ⟨w8.heap.size, 4, none⟩) (by show w8.heap.size < w12.heap.size; omega)).trans S4R0
  replace S5R0 := (b13.cell (p := ⟨w8.heap.size, 5, none⟩) (by show w8.heap.size < w12.heap.size; omega)).trans S5R0
  replace p0X := (b13.cell (p := ⟨w10.heap.size, 0, none⟩) (by show w10.heap.size < w12.heap.size; omega)).trans p0X
  replace p1X := (b13.cell (p := ⟨w10.heap.size, 1, none⟩) (by show w10.heap.size < w12.heap.size; omega)).trans p1X
  replace p2X := (b13.cell (p := ⟨w10.heap.size, 2, none⟩) (by show w10.heap.size < w12.heap.size; omega)).trans p2X
  replace p3X := (b13.cell (p := ⟨w10.heap.size, 3, none⟩) (by show w10.heap.size < w12.heap.size; omega)).trans p3X
  replace p4X := (b13.cell (p := ⟨w10.heap.size, 4, none⟩) (by show w10.heap.size < w12.heap.size; omega)).trans p4X
  replace p5X := (b13.cell (p := ⟨w10.heap.size, 5, none⟩) (by show w10.heap.size < w12.heap.size; omega)).trans p5X
  go_wp2_with fail
  refine Calls.mono (toInt64S_c w13 _ _ key (stable_ints.below hkey B13) hlkey) ?_
  rintro e w14 ⟨uxkey, rfl, rxkey, bb14⟩
  have b14 : Below w13.heap.size w13 w14 := bb14
  have B14 : Below w.heap.size w w14 := B13.trans (b14.mono B13.size)
  have s14 : w13.heap.size ≤ w14.heap.size := b14.size
  replace rS0 := stable_rows.below rS0 b14
  replace rS1 := stable_rows.below rS1 b14
  replace rxX := stable_rows.below rxX b14
  replace rxcuts := stable_rows.below rxcuts b14
  replace rxrow := stable_ints.below rxrow b14
  replace q0X := (b14.cell (p := ⟨w.heap.size, 0, none⟩) (by show w.heap.size < w13.heap.size; omega)).trans q0X
  replace q1X := (b14.cell (p := ⟨w.heap.size, 1, none⟩) (by show w.heap.size < w13.heap.size; omega)).trans q1X
  replace q2X := (b14.cell (p := ⟨w.heap.size, 2, none⟩) (by show w.heap.size < w13.heap.size; omega)).trans q2X
  replace q3X := (b14.cell (p := ⟨w.heap.size, 3, none⟩) (by show w.heap.size < w13.heap.size; omega)).trans q3X
  replace q4X := (b14.cell (p := ⟨w.heap.size, 4, none⟩) (by show w.heap.size < w13.heap.size; omega)).trans q4X
  replace q5X := (b14.cell (p := ⟨w.heap.size, 5, none⟩) (by show w.heap.size < w13.heap.size; omega)).trans q5X
  replace S0R0 := (b14.cell (p := ⟨w8.heap.size, 0, none⟩) (by show w8.heap.size < w13.heap.size; omega)).trans S0R0
  replace S1R0 := (b14.cell (p := ⟨w8.heap.size, 1, none⟩) (by show w8.heap.size < w13.heap.size; omega)).trans S1R0
  replace S2R0 := (b14.cell (p := ⟨w8.heap.size, 2, none⟩) (by show w8.heap.size < w13.heap.size; omega)).trans S2R0
  replace S3R0 := (b14.cell (p := ⟨w8.heap.size, 3, none⟩) (by show w8.heap.size < w13.heap.size; omega)).trans S3R0
  replace S4R0 := (b14.cell (p := ⟨w8.heap.size, 4, none⟩) (by show w8.heap.size < w13.heap.size; omega)).trans S4R0
  replace S5R0 := (b14.cell (p := ⟨w8.heap.size, 5, none⟩) (by show w8.heap.size < w13.heap.size; omega)).trans S5R0
  replace p0X := (b14.cell (p := ⟨w10.heap.size, 0, none⟩) (by show w10.heap.size < w13.heap.size; omega)).trans p0X
  replace p1X := (b14.cell (p := ⟨w10.heap.size, 1, none⟩) (by show w10.heap.size < w13.heap.size; omega)).trans p1X
  replace p2X := (b14.cell (p := ⟨w10.heap.size, 2, none⟩) (by show w10.heap.size < w13.heap.size; omega)).trans p2X
  replace p3X := (b14.cell (p := ⟨w10.heap.size, 3, none⟩) (by show w10.heap.size < w13.heap.size; omega)).trans p3X
  replace p4X := (b14.cell (p := ⟨w10.heap.size, 4, none⟩) (by show w10.heap.size < w13.heap.size; omega)).trans p4X
  replace p5X := (b14.cell (p := ⟨w10.heap.size, 5, none⟩) (by show w10.heap.size < w13.heap.size; omega)).trans p5X
  go_wp2_with fail
  refine Calls.mono (CI.out w14 _ _ _ _ _ _ _ _ rxX rxcuts rxrow rxkey) ?_
  rintro e w15 ⟨rr15, rfl, ⟨G0, G1, mzG0, rfl, ⟨mlG0, mlG1⟩, rG0, rG1⟩, bb15⟩
  have b15 : Below w14.heap.size w14 w15 := bb15
  have B15 : Below w.heap.size w w15 := B14.trans (b15.mono B14.size)
  have s15 : w14.heap.size ≤ w15.heap.size := b15.size
  replace rS0 := stable_rows.below rS0 b15
  replace rS1 := stable_rows.below rS1 b15
  replace rxX := stable_rows.below rxX b15
  replace rxcuts := stable_rows.below rxcuts b15
  replace rxrow := stable_ints.below rxrow b15
  replace rxkey := stable_ints.below rxkey b15
  replace q0X := (b15.cell (p := ⟨w.heap.size, 0, none⟩) (by show w.heap.size < w14.heap.size; omega)).trans q0X
  replace q1X := (b15.cell (p := ⟨w.heap.size, 1, none⟩) (by show w.heap.size < w14.heap.size; omega)).trans q1X
  replace q2X := (b15.cell (p := ⟨w.heap.size, 2, none⟩) (by show w.heap.size < w14.heap.size; omega)).trans q2X
  replace q3X := (b15.cell (p := ⟨w.heap.size, 3, none⟩) (by show w.heap.size < w14.heap.size; omega)).trans q3X
  replace q4X := (b15.cell (p := ⟨w.heap.size, 4, none⟩) (by show w.heap.size < w14.heap.size; omega)).trans q4X
  replace q5X := (b15.cell (p := ⟨w.heap.size, 5, none⟩) (by show w.heap.size < w14.heap.size; omega)).trans q5X
  replace S0R0 := (b15.cell (p := ⟨w8.heap.size, 0, none⟩) (by show w8.heap.size < w14.heap.size; omega)).trans S0R0
  replace S1R0 := (b15.cell (p := ⟨w8.heap.size, 1, none⟩) (by show w8.heap.size < w14.heap.size; omega)).trans S1R0
  replace S2R0 := (b15.cell (p := ⟨w8.heap.size, 2, none⟩) (by show w8.heap.size < w14.heap.size; omega)).trans S2R0
  replace S3R0 := (b15.cell (p := ⟨w8.heap.size, 3, none⟩) (by show w8.heap.size < w14.heap.size; omega)).trans S3R0
  replace S4R0 := (b15.cell (p := ⟨w8.heap.size, 4, none⟩) (by show w8.heap.size < w14.heap.size; omega)).trans S4R0
  replace S5R0 := (b15.cell (p := ⟨w8.heap.size, 5, none⟩) (by show w8.heap.size < w14.heap.size; omega)).trans S5R0
  replace p0X := (b15.cell (p := ⟨w10.heap.size, 0, none⟩) (by show w10.heap.size < w14.heap.size; omega)).trans p0X
  replace p1X := (b15.cell (p := ⟨w10.heap.size, 1, none⟩) (by show w10.heap.size < w14.heap.size; omega)).trans p1X
  replace p2X := (b15.cell (p := ⟨w10.heap.size, 2, none⟩) (by show w10.heap.size < w14.heap.size; omega)).trans p2X
  replace p3X := (b15.cell (p := ⟨w10.heap.size, 3, none⟩) (by show w10.heap.size < w14.heap.size; omega)).trans p3X
  replace p4X := (b15.cell (p := ⟨w10.heap.size, 4, none⟩) (by show w10.heap.size < w14.heap.size; omega)).trans p4X
  replace p5X := (b15.cell (p := ⟨w10.heap.size, 5, none⟩) (by show w10.heap.size < w14.heap.size; omega)).trans p5X
  obtain ⟨aG0, nG0, kG0, rfl, -⟩ := SliceR.shape rG0
  have zl0 : w.heap.size < w15.heap.size := by omega
  have zm0 := Nat.ne_of_lt zl0; have zn0 := Nat.ne_of_gt zl0
  have zl1 : w10.heap.size < w15.heap.size := by omega
  have zm1 := Nat.ne_of_lt zl1; have zn1 := Nat.ne_of_gt zl1
  have zl2 : w8.heap.size < w15.heap.size := by omega
  have zm2 := Nat.ne_of_lt zl2; have zn2 := Nat.ne_of_gt zl2
  go_wp2_with fail
  clear zl0 zm0 zn0
  clear zl1 zm1 zn1
  clear zl2 zm2 zn2
  generalize hwb16 : World.alloc _ _ = w16
  have b16 : Below w15.heap.size w15 w16 := by rw [← hwb16]; exact (Below.refl _ _).alloc (Nat.le_refl _) _
  have s16 : w15.heap.size < w16.heap.size := by rw [← hwb16]; simp
  have G0R0 : w16.cell? ⟨w15.heap.size, 0, none⟩ = some (.int .i64 MR0.c) := by rw [← hwb16]; clear hwb16; go_simp
  have G1R0 : w16.cell? ⟨w15.heap.size, 1, none⟩ = some (.int .i64 MR0.d) := by rw [← hwb16]; clear hwb16; go_simp
  have G2R0 : w16.cell? ⟨w15.heap.size, 2, none⟩ = some (.int .i64 MR0.s) := by rw [← hwb16]; clear hwb16; go_simp
  have G3R0 : w16.cell? ⟨w15.heap.size, 3, none⟩ = some (.int .i64 MR0.m) := by rw [← hwb16]; clear hwb16; go_simp
  have G4R0 : w16.cell? ⟨w15.heap.size, 4, none⟩ = some (.int .i64 MR0.l) := by rw [← hwb16]; clear hwb16; go_simp
  have G5R0 : w16.cell? ⟨w15.heap.size, 5, none⟩ = some (.slice aG0 nG0 kG0) := by rw [← hwb16]; clear hwb16; go_simp
  clear hwb16
  have B16 : Below w.heap.size w w16 := B15.trans (b16.mono B15.size)
  replace rS0 := stable_rows.below rS0 b16
  replace rS1 := stable_rows.below rS1 b16
  replace rxX := stable_rows.below rxX b16
  replace rxcuts := stable_rows.below rxcuts b16
  replace rxrow := stable_ints.below rxrow b16
  replace rxkey := stable_ints.below rxkey b16
  replace rG0 := stable_rows.below rG0 b16
  replace rG1 := stable_rows.below rG1 b16
  replace q0X := (b16.cell (p := ⟨w.heap.size, 0, none⟩) (by show w.heap.size < w15.heap.size; omega)).trans q0X
  replace q1X := (b16.cell (p := ⟨w.heap.size, 1, none⟩) (by show w.heap.size < w15.heap.size; omega)).trans q1X
  replace q2X := (b16.cell (p := ⟨w.heap.size, 2, none⟩) (by show w.heap.size < w15.heap.size; omega)).trans q2X
  replace q3X := (b16.cell (p := ⟨w.heap.size, 3, none⟩) (by show w.heap.size < w15.heap.size; omega)).trans q3X
  replace q4X := (b16.cell (p := ⟨w.heap.size, 4, none⟩) (by show w.heap.size < w15.heap.size; omega)).trans q4X
  replace q5X := (b16.cell (p := ⟨w.heap.size, 5, none⟩) (by show w.heap.size < w15.heap.size; omega)).trans q5X
  replace S0R0 := (b16.cell (p := ⟨w8.heap.size, 0, none⟩) (by show w8.heap.size < w15.heap.size; omega)).trans S0R0
  replace S1R0 := (b16.cell (p := ⟨w8.heap.size, 1, none⟩) (by show w8.heap.size < w15.heap.size; omega)).trans S1R0
  replace S2R0 := (b16.cell (p := ⟨w8.heap.size, 2, none⟩) (by show w8.heap.size < w15.heap.size; omega)).trans S2R0
  replace S3R0 := (b16.cell (p := ⟨w8.heap.size, 3, none⟩) (by show w8.heap.size < w15.heap.size; omega)).trans S3R0
  replace S4R0 := (b16.cell (p := ⟨w8.heap.size, 4, none⟩) (by show w8.heap.size < w15.heap.size; omega)).trans S4R0
  replace S5R0 := (b16.cell (p := ⟨w8.heap.size, 5, none⟩) (by show w8.heap.size < w15.heap.size; omega)).trans S5R0
  replace p0X := (b16.cell (p := ⟨w10.heap.size, 0, none⟩) (by show w10.heap.size < w15.heap.size; omega)).trans p0X
  replace p1X := (b16.cell (p := ⟨w10.heap.size, 1, none⟩) (by show w10.heap.size < w15.heap.size; omega)).trans p1X
  replace p2X := (b16.cell (p := ⟨w10.heap.size, 2, none⟩) (by show w10.heap.size < w15.heap.size; omega)).trans p2X
  replace p3X := (b16.cell (p := ⟨w10.heap.size, 3, none⟩) (by show w10.heap.size < w15.heap.size; omega)).trans p3X
  replace p4X := (b16.cell (p := ⟨w10.heap.size, 4, none⟩) (by show w10.heap.size < w15.heap.size; omega)).trans p4X
  replace p5X := (b16.cell (p := ⟨w10.heap.size, 5, none⟩) (by show w10.heap.size < w15.heap.size; omega)).trans p5X
  refine Calls.mono (eqSystemA_c w16 _ _ _ _ _ res0 rG0 rS0) ?_
  rintro e w17 ⟨rv17, rfl, rfl, hd17⟩
  have b17 : Below w16.heap.size w16 w17 := hd17
  have B17 : Below w.heap.size w w17 := B16.trans (b17.mono B16.size)
  have s17 : w16.heap.size ≤ w17.heap.size := b17.size
  replace rS0 := stable_rows.below rS0 b17
  replace rS1 := stable_rows.below rS1 b17
  replace rxX := stable_rows.below rxX b17
  replace rxcuts := stable_rows.below rxcuts b17
  replace rxrow := stable_ints.below rxrow b17
  replace rxkey := stable_ints.below rxkey b17
  replace rG0 := stable_rows.below rG0 b17
  replace rG1 := stable_rows.below rG1 b17
  replace q0X := (b17.cell (p := ⟨w.heap.size, 0, none⟩) (by show w.heap.size < w16.heap.size; omega)).trans q0X
  replace q1X := (b17.cell (p := ⟨w.heap.size, 1, none⟩) (by show w.heap.size < w16.heap.size; omega)).trans q1X
  replace q2X := (b17.cell (p := ⟨w.heap.size, 2, none⟩) (by show w.heap.size < w16.heap.size; omega)).trans q2X
  replace q3X := (b17.cell (p := ⟨w.heap.size, 3, none⟩) (by show w.heap.size < w16.heap.size; omega)).trans q3X
  replace q4X := (b17.cell (p := ⟨w.heap.size, 4, none⟩) (by show w.heap.size < w16.heap.size; omega)).trans q4X
  replace q5X := (b17.cell (p := ⟨w.heap.size, 5, none⟩) (by show w.heap.size < w16.heap.size; omega)).trans q5X
  replace S0R0 := (b17.cell (p := ⟨w8.heap.size, 0, none⟩) (by show w8.heap.size < w16.heap.size; omega)).trans S0R0
  replace S1R0 := (b17.cell (p := ⟨w8.heap.size, 1, none⟩) (by show w8.heap.size < w16.heap.size; omega)).trans S1R0
  replace S2R0 := (b17.cell (p := ⟨w8.heap.size, 2, none⟩) (by show w8.heap.size < w16.heap.size; omega)).trans S2R0
  replace S3R0 := (b17.cell (p := ⟨w8.heap.size, 3, none⟩) (by show w8.heap.size < w16.heap.size; omega)).trans S3R0
  replace S4R0 := (b17.cell (p := ⟨w8.heap.size, 4, none⟩) (by show w8.heap.size < w16.heap.size; omega)).trans S4R0
  replace S5R0 := (b17.cell (p := ⟨w8.heap.size, 5, none⟩) (by show w8.heap.size < w16.heap.size; omega)).trans S5R0
  replace p0X := (b17.cell (p := ⟨w10.heap.size, 0, none⟩) (by show w10.heap.size < w16.heap.size; omega)).trans p0X
  replace p1X := (b17.cell (p := ⟨w10.heap.size, 1, none⟩) (by show w10.heap.size < w16.heap.size; omega)).trans p1X
  replace p2X := (b17.cell (p := ⟨w10.heap.size, 2, none⟩) (by show w10.heap.size < w16.heap.size; omega)).trans p2X
  replace p3X := (b17.cell (p := ⟨w10.heap.size, 3, none⟩) (by show w10.heap.size < w16.heap.size; omega)).trans p3X
  replace p4X := (b17.cell (p := ⟨w10.heap.size, 4, none⟩) (by show w10.heap.size < w16.heap.size; omega)).trans p4X
  replace p5X := (b17.cell (p := ⟨w10.heap.size, 5, none⟩) (by show w10.heap.size < w16.heap.size; omega)).trans p5X
  replace G0R0 := (b17.cell (p := ⟨w15.heap.size, 0, none⟩) (by show w15.heap.size < w16.heap.size; omega)).trans G0R0
  replace G1R0 := (b17.cell (p := ⟨w15.heap.size, 1, none⟩) (by show w15.heap.size < w16.heap.size; omega)).trans G1R0
  replace G2R0 := (b17.cell (p := ⟨w15.heap.size, 2, none⟩) (by show w15.heap.size < w16.heap.size; omega)).trans G2R0
  replace G3R0 := (b17.cell (p := ⟨w15.heap.size, 3, none⟩) (by show w15.heap.size < w16.heap.size; omega)).trans G3R0
  replace G4R0 := (b17.cell (p := ⟨w15.heap.size, 4, none⟩) (by show w15.heap.size < w16.heap.size; omega)).trans G4R0
  replace G5R0 := (b17.cell (p := ⟨w15.heap.size, 5, none⟩) (by show w15.heap.size < w16.heap.size; omega)).trans G5R0
  go_wp2_with fail
  refine Calls.mono (Calls.vq (eqInt64SS_c w17 _ _ _ _ res1 res1 rG1 rS1) (congrArg Value.bool (decide_eq_true rfl))) ?_
  rintro e w18 ⟨rfl, hd18⟩
  have b18 : Below w17.heap.size w17 w18 := hd18.below _
  have B18 : Below w.heap.size w w18 := B17.trans (b18.mono B17.size)
  have s18 : w17.heap.size ≤ w18.heap.size := b18.size
  replace rS0 := stable_rows.below rS0 b18
  replace rS1 := stable_rows.below rS1 b18
  replace rxX := stable_rows.below rxX b18
  replace rxcuts := stable_rows.below rxcuts b18
  replace rxrow := stable_ints.below rxrow b18
  replace rxkey := stable_ints.below rxkey b18
  replace rG0 := stable_rows.below rG0 b18
  replace rG1 := stable_rows.below rG1 b18
  replace q0X := (b18.cell (p := ⟨w.heap.size, 0, none⟩) (by show w.heap.size < w17.heap.size; omega)).trans q0X
  replace q1X := (b18.cell (p := ⟨w.heap.size, 1, none⟩) (by show w.heap.size < w17.heap.size; omega)).trans q1X
  replace q2X := (b18.cell (p := ⟨w.heap.size, 2, none⟩) (by show w.heap.size < w17.heap.size; omega)).trans q2X
  replace q3X := (b18.cell (p := ⟨w.heap.size, 3, none⟩) (by show w.heap.size < w17.heap.size; omega)).trans q3X
  replace q4X := (b18.cell (p := ⟨w.heap.size, 4, none⟩) (by show w.heap.size < w17.heap.size; omega)).trans q4X
  replace q5X := (b18.cell (p := ⟨w.heap.size, 5, none⟩) (by show w.heap.size < w17.heap.size; omega)).trans q5X
  replace S0R0 := (b18.cell (p := ⟨w8.heap.size, 0, none⟩) (by show w8.heap.size < w17.heap.size; omega)).trans S0R0
  replace S1R0 := (b18.cell (p := ⟨w8.heap.size, 1, none⟩) (by show w8.heap.size < w17.heap.size; omega)).trans S1R0
  replace S2R0 := (b18.cell (p := ⟨w8.heap.size, 2, none⟩) (by show w8.heap.size < w17.heap.size; omega)).trans S2R0
  replace S3R0 := (b18.cell (p := ⟨w8.heap.size, 3, none⟩) (by show w8.heap.size < w17.heap.size; omega)).trans S3R0
  replace S4R0 := (b18.cell (p := ⟨w8.heap.size, 4, none⟩) (by show w8.heap.size < w17.heap.size; omega)).trans S4R0
  replace S5R0 := (b18.cell (p := ⟨w8.heap.size, 5, none⟩) (by show w8.heap.size < w17.heap.size; omega)).trans S5R0
  replace p0X := (b18.cell (p := ⟨w10.heap.size, 0, none⟩) (by show w10.heap.size < w17.heap.size; omega)).trans p0X
  replace p1X := (b18.cell (p := ⟨w10.heap.size, 1, none⟩) (by show w10.heap.size < w17.heap.size; omega)).trans p1X
  replace p2X := (b18.cell (p := ⟨w10.heap.size, 2, none⟩) (by show w10.heap.size < w17.heap.size; omega)).trans p2X
  replace p3X := (b18.cell (p := ⟨w10.heap.size, 3, none⟩) (by show w10.heap.size < w17.heap.size; omega)).trans p3X
  replace p4X := (b18.cell (p := ⟨w10.heap.size, 4, none⟩) (by show w10.heap.size < w17.heap.size; omega)).trans p4X
  replace p5X := (b18.cell (p := ⟨w10.heap.size, 5, none⟩) (by show w10.heap.size < w17.heap.size; omega)).trans p5X
  replace G0R0 := (b18.cell (p := ⟨w15.heap.size, 0, none⟩) (by show w15.heap.size < w17.heap.size; omega)).trans G0R0
  replace G1R0 := (b18.cell (p := ⟨w15.heap.size, 1, none⟩) (by show w15.heap.size < w17.heap.size; omega)).trans G1R0
  replace G2R0 := (b18.cell (p := ⟨w15.heap.size, 2, none⟩) (by show w15.heap.size < w17.heap.size; omega)).trans G2R0
  replace G3R0 := (b18.cell (p := ⟨w15.heap.size, 3, none⟩) (by show w15.heap.size < w17.heap.size; omega)).trans G3R0
  replace G4R0 := (b18.cell (p := ⟨w15.heap.size, 4, none⟩) (by show w15.heap.size < w17.heap.size; omega)).trans G4R0
  replace G5R0 := (b18.cell (p := ⟨w15.heap.size, 5, none⟩) (by show w15.heap.size < w17.heap.size; omega)).trans G5R0
  have HK20 : Hid (∀ w', Below w18.heap.size w18 w' → w'.cell? ⟨w.heap.size, 0, none⟩ = some (.int .i64 MX.c) ∧ w'.cell? ⟨w.heap.size, 1, none⟩ = some (.int .i64 MX.d) ∧ w'.cell? ⟨w.heap.size, 2, none⟩ = some (.int .i64 MX.s) ∧ w'.cell? ⟨w.heap.size, 3, none⟩ = some (.int .i64 MX.m) ∧ w'.cell? ⟨w.heap.size, 4, none⟩ = some (.int .i64 MX.l) ∧ w'.cell? ⟨w.heap.size, 5, none⟩ = some (.slice aX nX cX) ∧ w'.cell? ⟨w10.heap.size, 0, none⟩ = some (.int .i64 MX.c) ∧ w'.cell? ⟨w10.heap.size, 1, none⟩ = some (.int .i64 MX.d) ∧ w'.cell? ⟨w10.heap.size, 2, none⟩ = some (.int .i64 MX.s) ∧ w'.cell? ⟨w10.heap.size, 3, none⟩ = some (.int .i64 MX.m) ∧ w'.cell? ⟨w10.heap.size, 4, none⟩ = some (.int .i64 MX.l) ∧ w'.cell? ⟨w10.heap.size, 5, none⟩ = some (.slice axX nxX kxX)) := fun w' hb => ⟨(hb.cell (by show w.heap.size < w18.heap.size; omega)).trans q0X, (hb.cell (by show w.heap.size < w18.heap.size; omega)).trans q1X, (hb.cell (by show w.heap.size < w18.heap.size; omega)).trans q2X, (hb.cell (by show w.heap.size < w18.heap.size; omega)).trans q3X, (hb.cell (by show w.heap.size < w18.heap.size; omega)).trans q4X, (hb.cell (by show w.heap.size < w18.heap.size; omega)).trans q5X, (hb.cell (by show w10.heap.size < w18.heap.size; omega)).trans p0X, (hb.cell (by show w10.heap.size < w18.heap.size; omega)).trans p1X, (hb.cell (by show w10.heap.size < w18.heap.size; omega)).trans p2X, (hb.cell (by show w10.heap.size < w18.heap.size; omega)).trans p3X, (hb.cell (by show w10.heap.size < w18.heap.size; omega)).trans p4X, (hb.cell (by show w10.heap.size < w18.heap.size; omega)).trans p5X⟩
  have HF20 := Lib.hid (stable_rows.below hX B18)
  have HX20 := Lib.hid rxX
  go_wp2_with fail
  go_region_held3 (fun w' => w'.cell? ⟨w.heap.size, 0, none⟩ = some (.int .i64 MX.c) ∧ w'.cell? ⟨w.heap.size, 1, none⟩ = some (.int .i64 MX.d) ∧ w'.cell? ⟨w.heap.size, 2, none⟩ = some (.int .i64 MX.s) ∧ w'.cell? ⟨w.heap.size, 3, none⟩ = some (.int .i64 MX.m) ∧ w'.cell? ⟨w.heap.size, 4, none⟩ = some (.int .i64 MX.l) ∧ w'.cell? ⟨w.heap.size, 5, none⟩ = some (.slice aX nX cX) ∧ w'.cell? ⟨w10.heap.size, 0, none⟩ = some (.int .i64 MX.c) ∧ w'.cell? ⟨w10.heap.size, 1, none⟩ = some (.int .i64 MX.d) ∧ w'.cell? ⟨w10.heap.size, 2, none⟩ = some (.int .i64 MX.s) ∧ w'.cell? ⟨w10.heap.size, 3, none⟩ = some (.int .i64 MX.m) ∧ w'.cell? ⟨w10.heap.size, 4, none⟩ = some (.int .i64 MX.l) ∧ w'.cell? ⟨w10.heap.size, 5, none⟩ = some (.slice axX nxX kxX)) (first | exact HK20.out _ (Below.refl _ _).drew | exact HK20.out _ ((Below.refl _ _).drew.trans bA20) | exact HK20.out _ (((Below.refl _ _).drew.trans bA20).trans (bB20.mono bA20.size)))
    (first | (go_at_call 8; refine (toSystemA_c _ _ _ _ X (stable_rows.below HF20.out (Below.refl _ _).drew) lbX).mono ?_; rintro e wA20 ⟨rv, rfl, ⟨uA20, rfl, rA20⟩, bA20⟩) | (go_at_call 12; refine (eqSystemA_c _ _ _ _ _ _ X (stable_rows.below HX20.out ((Below.refl _ _).drew.trans bA20)) rA20).mono ?_; rintro e w20 ⟨rv, rfl, rfl, bB20⟩))
  clear HK20 HF20 HX20
  have b20 : Below w18.heap.size w18 w20 := (((Below.refl _ _).drew.trans bA20).trans (bB20.mono bA20.size))
  have B20 : Below w.heap.size w w20 := B18.trans (b20.mono B18.size)
  have s20 : w18.heap.size ≤ w20.heap.size := b20.size
  replace rS0 := stable_rows.below rS0 b20
  replace rS1 := stable_rows.below rS1 b20
  replace rxX := stable_rows.below rxX b20
  replace rxcuts := stable_rows.below rxcuts b20
  replace rxrow := stable_ints.below rxrow b20
  replace rxkey := stable_ints.below rxkey b20
  replace rG0 := stable_rows.below rG0 b20
  replace rG1 := stable_rows.below rG1 b20
  replace q0X := (b20.cell (p := ⟨w.heap.size, 0, none⟩) (by show w.heap.size < w18.heap.size; omega)).trans q0X
  replace q1X := (b20.cell (p := ⟨w.heap.size, 1, none⟩) (by show w.heap.size < w18.heap.size; omega)).trans q1X
  replace q2X := (b20.cell (p := ⟨w.heap.size, 2, none⟩) (by show w.heap.size < w18.heap.size; omega)).trans q2X
  replace q3X := (b20.cell (p := ⟨w.heap.size, 3, none⟩) (by show w.heap.size < w18.heap.size; omega)).trans q3X
  replace q4X := (b20.cell (p := ⟨w.heap.size, 4, none⟩) (by show w.heap.size < w18.heap.size; omega)).trans q4X
  replace q5X := (b20.cell (p := ⟨w.heap.size, 5, none⟩) (by show w.heap.size < w18.heap.size; omega)).trans q5X
  replace S0R0 := (b20.cell (p := ⟨w8.heap.size, 0, none⟩) (by show w8.heap.size < w18.heap.size; omega)).trans S0R0
  replace S1R0 := (b20.cell (p := ⟨w8.heap.size, 1, none⟩) (by show w8.heap.size < w18.heap.size; omega)).trans S1R0
  replace S2R0 := (b20.cell (p := ⟨w8.heap.size, 2, none⟩) (by show w8.heap.size < w18.heap.size; omega)).trans S2R0
  replace S3R0 := (b20.cell (p := ⟨w8.heap.size, 3, none⟩) (by show w8.heap.size < w18.heap.size; omega)).trans S3R0
  replace S4R0 := (b20.cell (p := ⟨w8.heap.size, 4, none⟩) (by show w8.heap.size < w18.heap.size; omega)).trans S4R0
  replace S5R0 := (b20.cell (p := ⟨w8.heap.size, 5, none⟩) (by show w8.heap.size < w18.heap.size; omega)).trans S5R0
  replace p0X := (b20.cell (p := ⟨w10.heap.size, 0, none⟩) (by show w10.heap.size < w18.heap.size; omega)).trans p0X
  replace p1X := (b20.cell (p := ⟨w10.heap.size, 1, none⟩) (by show w10.heap.size < w18.heap.size; omega)).trans p1X
  replace p2X := (b20.cell (p := ⟨w10.heap.size, 2, none⟩) (by show w10.heap.size < w18.heap.size; omega)).trans p2X
  replace p3X := (b20.cell (p := ⟨w10.heap.size, 3, none⟩) (by show w10.heap.size < w18.heap.size; omega)).trans p3X
  replace p4X := (b20.cell (p := ⟨w10.heap.size, 4, none⟩) (by show w10.heap.size < w18.heap.size; omega)).trans p4X
  replace p5X := (b20.cell (p := ⟨w10.heap.size, 5, none⟩) (by show w10.heap.size < w18.heap.size; omega)).trans p5X
  replace G0R0 := (b20.cell (p := ⟨w15.heap.size, 0, none⟩) (by show w15.heap.size < w18.heap.size; omega)).trans G0R0
  replace G1R0 := (b20.cell (p := ⟨w15.heap.size, 1, none⟩) (by show w15.heap.size < w18.heap.size; omega)).trans G1R0
  replace G2R0 := (b20.cell (p := ⟨w15.heap.size, 2, none⟩) (by show w15.heap.size < w18.heap.size; omega)).trans G2R0
  replace G3R0 := (b20.cell (p := ⟨w15.heap.size, 3, none⟩) (by show w15.heap.size < w18.heap.size; omega)).trans G3R0
  replace G4R0 := (b20.cell (p := ⟨w15.heap.size, 4, none⟩) (by show w15.heap.size < w18.heap.size; omega)).trans G4R0
  replace G5R0 := (b20.cell (p := ⟨w15.heap.size, 5, none⟩) (by show w15.heap.size < w18.heap.size; omega)).trans G5R0
  go_wp2_with fail
  refine Calls.mono (toInt64SS_c w20 _ _ cuts (stable_rows.below hcuts B20) lbcuts) ?_
  rintro e w21 ⟨uccuts, rfl, rccuts, bb21⟩
  have b21 : Below w20.heap.size w20 w21 := bb21
  have B21 : Below w.heap.size w w21 := B20.trans (b21.mono B20.size)
  have s21 : w20.heap.size ≤ w21.heap.size := b21.size
  replace rS0 := stable_rows.below rS0 b21
  replace rS1 := stable_rows.below rS1 b21
  replace rxX := stable_rows.below rxX b21
  replace rxcuts := stable_rows.below rxcuts b21
  replace rxrow := stable_ints.below rxrow b21
  replace rxkey := stable_ints.below rxkey b21
  replace rG0 := stable_rows.below rG0 b21
  replace rG1 := stable_rows.below rG1 b21
  replace q0X := (b21.cell (p := ⟨w.heap.size, 0, none⟩) (by show w.heap.size < w20.heap.size; omega)).trans q0X
  replace q1X := (b21.cell (p := ⟨w.heap.size, 1, none⟩) (by show w.heap.size < w20.heap.size; omega)).trans q1X
  replace q2X := (b21.cell (p := ⟨w.heap.size, 2, none⟩) (by show w.heap.size < w20.heap.size; omega)).trans q2X
  replace q3X := (b21.cell (p := ⟨w.heap.size, 3, none⟩) (by show w.heap.size < w20.heap.size; omega)).trans q3X
  replace q4X := (b21.cell (p := ⟨w.heap.size, 4, none⟩) (by show w.heap.size < w20.heap.size; omega)).trans q4X
  replace q5X := (b21.cell (p := ⟨w.heap.size, 5, none⟩) (by show w.heap.size < w20.heap.size; omega)).trans q5X
  replace S0R0 := (b21.cell (p := ⟨w8.heap.size, 0, none⟩) (by show w8.heap.size < w20.heap.size; omega)).trans S0R0
  replace S1R0 := (b21.cell (p := ⟨w8.heap.size, 1, none⟩) (by show w8.heap.size < w20.heap.size; omega)).trans S1R0
  replace S2R0 := (b21.cell (p := ⟨w8.heap.size, 2, none⟩) (by show w8.heap.size < w20.heap.size; omega)).trans S2R0
  replace S3R0 := (b21.cell (p := ⟨w8.heap.size, 3, none⟩) (by show w8.heap.size < w20.heap.size; omega)).trans S3R0
  replace S4R0 := (b21.cell (p := ⟨w8.heap.size, 4, none⟩) (by show w8.heap.size < w20.heap.size; omega)).trans S4R0
  replace S5R0 := (b21.cell (p := ⟨w8.heap.size, 5, none⟩) (by show w8.heap.size < w20.heap.size; omega)).trans S5R0
  replace p0X := (b21.cell (p := ⟨w10.heap.size, 0, none⟩) (by show w10.heap.size < w20.heap.size; omega)).trans p0X
  replace p1X := (b21.cell (p := ⟨w10.heap.size, 1, none⟩) (by show w10.heap.size < w20.heap.size; omega)).trans p1X
  replace p2X := (b21.cell (p := ⟨w10.heap.size, 2, none⟩) (by show w10.heap.size < w20.heap.size; omega)).trans p2X
  replace p3X := (b21.cell (p := ⟨w10.heap.size, 3, none⟩) (by show w10.heap.size < w20.heap.size; omega)).trans p3X
  replace p4X := (b21.cell (p := ⟨w10.heap.size, 4, none⟩) (by show w10.heap.size < w20.heap.size; omega)).trans p4X
  replace p5X := (b21.cell (p := ⟨w10.heap.size, 5, none⟩) (by show w10.heap.size < w20.heap.size; omega)).trans p5X
  replace G0R0 := (b21.cell (p := ⟨w15.heap.size, 0, none⟩) (by show w15.heap.size < w20.heap.size; omega)).trans G0R0
  replace G1R0 := (b21.cell (p := ⟨w15.heap.size, 1, none⟩) (by show w15.heap.size < w20.heap.size; omega)).trans G1R0
  replace G2R0 := (b21.cell (p := ⟨w15.heap.size, 2, none⟩) (by show w15.heap.size < w20.heap.size; omega)).trans G2R0
  replace G3R0 := (b21.cell (p := ⟨w15.heap.size, 3, none⟩) (by show w15.heap.size < w20.heap.size; omega)).trans G3R0
  replace G4R0 := (b21.cell (p := ⟨w15.heap.size, 4, none⟩) (by show w15.heap.size < w20.heap.size; omega)).trans G4R0
  replace G5R0 := (b21.cell (p := ⟨w15.heap.size, 5, none⟩) (by show w15.heap.size < w20.heap.size; omega)).trans G5R0
  go_wp2_with fail
  refine Calls.mono (Calls.vq (eqInt64SS_c w21 _ _ _ _ cuts cuts rxcuts rccuts) (congrArg Value.bool (decide_eq_true rfl))) ?_
  rintro e w22 ⟨rfl, hd22⟩
  have b22 : Below w21.heap.size w21 w22 := hd22.below _
  have B22 : Below w.heap.size w w22 := B21.trans (b22.mono B21.size)
  have s22 : w21.heap.size ≤ w22.heap.size := b22.size
  replace rS0 := stable_rows.below rS0 b22
  replace rS1 := stable_rows.below rS1 b22
  replace rxX := stable_rows.below rxX b22
  replace rxcuts := stable_rows.below rxcuts b22
  replace rxrow := stable_ints.below rxrow b22
  replace rxkey := stable_ints.below rxkey b22
  replace rG0 := stable_rows.below rG0 b22
  replace rG1 := stable_rows.below rG1 b22
  replace rccuts := stable_rows.below rccuts b22
  replace q0X := (b22.cell (p := ⟨w.heap.size, 0, none⟩) (by show w.heap.size < w21.heap.size; omega)).trans q0X
  replace q1X := (b22.cell (p := ⟨w.heap.size, 1, none⟩) (by show w.heap.size < w21.heap.size; omega)).trans q1X
  replace q2X := (b22.cell (p := ⟨w.heap.size, 2, none⟩) (by show w.heap.size < w21.heap.size; omega)).trans q2X
  replace q3X := (b22.cell (p := ⟨w.heap.size, 3, none⟩) (by show w.heap.size < w21.heap.size; omega)).trans q3X
  replace q4X := (b22.cell (p := ⟨w.heap.size, 4, none⟩) (by show w.heap.size < w21.heap.size; omega)).trans q4X
  replace q5X := (b22.cell (p := ⟨w.heap.size, 5, none⟩) (by show w.heap.size < w21.heap.size; omega)).trans q5X
  replace S0R0 := (b22.cell (p := ⟨w8.heap.size, 0, none⟩) (by show w8.heap.size < w21.heap.size; omega)).trans S0R0
  replace S1R0 := (b22.cell (p := ⟨w8.heap.size, 1, none⟩) (by show w8.heap.size < w21.heap.size; omega)).trans S1R0
  replace S2R0 := (b22.cell (p := ⟨w8.heap.size, 2, none⟩) (by show w8.heap.size < w21.heap.size; omega)).trans S2R0
  replace S3R0 := (b22.cell (p := ⟨w8.heap.size, 3, none⟩) (by show w8.heap.size < w21.heap.size; omega)).trans S3R0
  replace S4R0 := (b22.cell (p := ⟨w8.heap.size, 4, none⟩) (by show w8.heap.size < w21.heap.size; omega)).trans S4R0
  replace S5R0 := (b22.cell (p := ⟨w8.heap.size, 5, none⟩) (by show w8.heap.size < w21.heap.size; omega)).trans S5R0
  replace p0X := (b22.cell (p := ⟨w10.heap.size, 0, none⟩) (by show w10.heap.size < w21.heap.size; omega)).trans p0X
  replace p1X := (b22.cell (p := ⟨w10.heap.size, 1, none⟩) (by show w10.heap.size < w21.heap.size; omega)).trans p1X
  replace p2X := (b22.cell (p := ⟨w10.heap.size, 2, none⟩) (by show w10.heap.size < w21.heap.size; omega)).trans p2X
  replace p3X := (b22.cell (p := ⟨w10.heap.size, 3, none⟩) (by show w10.heap.size < w21.heap.size; omega)).trans p3X
  replace p4X := (b22.cell (p := ⟨w10.heap.size, 4, none⟩) (by show w10.heap.size < w21.heap.size; omega)).trans p4X
  replace p5X := (b22.cell (p := ⟨w10.heap.size, 5, none⟩) (by show w10.heap.size < w21.heap.size; omega)).trans p5X
  replace G0R0 := (b22.cell (p := ⟨w15.heap.size, 0, none⟩) (by show w15.heap.size < w21.heap.size; omega)).trans G0R0
  replace G1R0 := (b22.cell (p := ⟨w15.heap.size, 1, none⟩) (by show w15.heap.size < w21.heap.size; omega)).trans G1R0
  replace G2R0 := (b22.cell (p := ⟨w15.heap.size, 2, none⟩) (by show w15.heap.size < w21.heap.size; omega)).trans G2R0
  replace G3R0 := (b22.cell (p := ⟨w15.heap.size, 3, none⟩) (by show w15.heap.size < w21.heap.size; omega)).trans G3R0
  replace G4R0 := (b22.cell (p := ⟨w15.heap.size, 4, none⟩) (by show w15.heap.size < w21.heap.size; omega)).trans G4R0
  replace G5R0 := (b22.cell (p := ⟨w15.heap.size, 5, none⟩) (by show w15.heap.size < w21.heap.size; omega)).trans G5R0
  clear rccuts
  go_wp2_with fail
  refine Calls.mono (toInt64S_c w22 _ _ row (stable_ints.below hrow B22) hlrow) ?_
  rintro e w23 ⟨ucrow, rfl, rcrow, bb23⟩
  have b23 : Below w22.heap.size w22 w23 := bb23
  have B23 : Below w.heap.size w w23 := B22.trans (b23.mono B22.size)
  have s23 : w22.heap.size ≤ w23.heap.size := b23.size
  replace rS0 := stable_rows.below rS0 b23
  replace rS1 := stable_rows.below rS1 b23
  replace rxX := stable_rows.below rxX b23
  replace rxcuts := stable_rows.below rxcuts b23
  replace rxrow := stable_ints.below rxrow b23
  replace rxkey := stable_ints.below rxkey b23
  replace rG0 := stable_rows.below rG0 b23
  replace rG1 := stable_rows.below rG1 b23
  replace q0X := (b23.cell (p := ⟨w.heap.size, 0, none⟩) (by show w.heap.size < w22.heap.size; omega)).trans q0X
  replace q1X := (b23.cell (p := ⟨w.heap.size, 1, none⟩) (by show w.heap.size < w22.heap.size; omega)).trans q1X
  replace q2X := (b23.cell (p := ⟨w.heap.size, 2, none⟩) (by show w.heap.size < w22.heap.size; omega)).trans q2X
  replace q3X := (b23.cell (p := ⟨w.heap.size, 3, none⟩) (by show w.heap.size < w22.heap.size; omega)).trans q3X
  replace q4X := (b23.cell (p := ⟨w.heap.size, 4, none⟩) (by show w.heap.size < w22.heap.size; omega)).trans q4X
  replace q5X := (b23.cell (p := ⟨w.heap.size, 5, none⟩) (by show w.heap.size < w22.heap.size; omega)).trans q5X
  replace S0R0 := (b23.cell (p := ⟨w8.heap.size, 0, none⟩) (by show w8.heap.size < w22.heap.size; omega)).trans S0R0
  replace S1R0 := (b23.cell (p := ⟨w8.heap.size, 1, none⟩) (by show w8.heap.size < w22.heap.size; omega)).trans S1R0
  replace S2R0 := (b23.cell (p := ⟨w8.heap.size, 2, none⟩) (by show w8.heap.size < w22.heap.size; omega)).trans S2R0
  replace S3R0 := (b23.cell (p := ⟨w8.heap.size, 3, none⟩) (by show w8.heap.size < w22.heap.size; omega)).trans S3R0
  replace S4R0 := (b23.cell (p := ⟨w8.heap.size, 4, none⟩) (by show w8.heap.size < w22.heap.size; omega)).trans S4R0
  replace S5R0 := (b23.cell (p := ⟨w8.heap.size, 5, none⟩) (by show w8.heap.size < w22.heap.size; omega)).trans S5R0
  replace p0X := (b23.cell (p := ⟨w10.heap.size, 0, none⟩) (by show w10.heap.size < w22.heap.size; omega)).trans p0X
  replace p1X := (b23.cell (p := ⟨w10.heap.size, 1, none⟩) (by show w10.heap.size < w22.heap.size; omega)).trans p1X
  replace p2X := (b23.cell (p := ⟨w10.heap.size, 2, none⟩) (by show w10.heap.size < w22.heap.size; omega)).trans p2X
  replace p3X := (b23.cell (p := ⟨w10.heap.size, 3, none⟩) (by show w10.heap.size < w22.heap.size; omega)).trans p3X
  replace p4X := (b23.cell (p := ⟨w10.heap.size, 4, none⟩) (by show w10.heap.size < w22.heap.size; omega)).trans p4X
  replace p5X := (b23.cell (p := ⟨w10.heap.size, 5, none⟩) (by show w10.heap.size < w22.heap.size; omega)).trans p5X
  replace G0R0 := (b23.cell (p := ⟨w15.heap.size, 0, none⟩) (by show w15.heap.size < w22.heap.size; omega)).trans G0R0
  replace G1R0 := (b23.cell (p := ⟨w15.heap.size, 1, none⟩) (by show w15.heap.size < w22.heap.size; omega)).trans G1R0
  replace G2R0 := (b23.cell (p := ⟨w15.heap.size, 2, none⟩) (by show w15.heap.size < w22.heap.size; omega)).trans G2R0
  replace G3R0 := (b23.cell (p := ⟨w15.heap.size, 3, none⟩) (by show w15.heap.size < w22.heap.size; omega)).trans G3R0
  replace G4R0 := (b23.cell (p := ⟨w15.heap.size, 4, none⟩) (by show w15.heap.size < w22.heap.size; omega)).trans G4R0
  replace G5R0 := (b23.cell (p := ⟨w15.heap.size, 5, none⟩) (by show w15.heap.size < w22.heap.size; omega)).trans G5R0
  go_wp2_with fail
  refine Calls.mono (Calls.vq (eqInt64S_c w23 _ _ _ _ row row rxrow rcrow) (congrArg Value.bool (decide_eq_true rfl))) ?_
  rintro e w24 ⟨rfl, hd24⟩
  have b24 : Below w23.heap.size w23 w24 := hd24.below _
  have B24 : Below w.heap.size w w24 := B23.trans (b24.mono B23.size)
  have s24 : w23.heap.size ≤ w24.heap.size := b24.size
  replace rS0 := stable_rows.below rS0 b24
  replace rS1 := stable_rows.below rS1 b24
  replace rxX := stable_rows.below rxX b24
  replace rxcuts := stable_rows.below rxcuts b24
  replace rxrow := stable_ints.below rxrow b24
  replace rxkey := stable_ints.below rxkey b24
  replace rG0 := stable_rows.below rG0 b24
  replace rG1 := stable_rows.below rG1 b24
  replace rcrow := stable_ints.below rcrow b24
  replace q0X := (b24.cell (p := ⟨w.heap.size, 0, none⟩) (by show w.heap.size < w23.heap.size; omega)).trans q0X
  replace q1X := (b24.cell (p := ⟨w.heap.size, 1, none⟩) (by show w.heap.size < w23.heap.size; omega)).trans q1X
  replace q2X := (b24.cell (p := ⟨w.heap.size, 2, none⟩) (by show w.heap.size < w23.heap.size; omega)).trans q2X
  replace q3X := (b24.cell (p := ⟨w.heap.size, 3, none⟩) (by show w.heap.size < w23.heap.size; omega)).trans q3X
  replace q4X := (b24.cell (p := ⟨w.heap.size, 4, none⟩) (by show w.heap.size < w23.heap.size; omega)).trans q4X
  replace q5X := (b24.cell (p := ⟨w.heap.size, 5, none⟩) (by show w.heap.size < w23.heap.size; omega)).trans q5X
  replace S0R0 := (b24.cell (p := ⟨w8.heap.size, 0, none⟩) (by show w8.heap.size < w23.heap.size; omega)).trans S0R0
  replace S1R0 := (b24.cell (p := ⟨w8.heap.size, 1, none⟩) (by show w8.heap.size < w23.heap.size; omega)).trans S1R0
  replace S2R0 := (b24.cell (p := ⟨w8.heap.size, 2, none⟩) (by show w8.heap.size < w23.heap.size; omega)).trans S2R0
  replace S3R0 := (b24.cell (p := ⟨w8.heap.size, 3, none⟩) (by show w8.heap.size < w23.heap.size; omega)).trans S3R0
  replace S4R0 := (b24.cell (p := ⟨w8.heap.size, 4, none⟩) (by show w8.heap.size < w23.heap.size; omega)).trans S4R0
  replace S5R0 := (b24.cell (p := ⟨w8.heap.size, 5, none⟩) (by show w8.heap.size < w23.heap.size; omega)).trans S5R0
  replace p0X := (b24.cell (p := ⟨w10.heap.size, 0, none⟩) (by show w10.heap.size < w23.heap.size; omega)).trans p0X
  replace p1X := (b24.cell (p := ⟨w10.heap.size, 1, none⟩) (by show w10.heap.size < w23.heap.size; omega)).trans p1X
  replace p2X := (b24.cell (p := ⟨w10.heap.size, 2, none⟩) (by show w10.heap.size < w23.heap.size; omega)).trans p2X
  replace p3X := (b24.cell (p := ⟨w10.heap.size, 3, none⟩) (by show w10.heap.size < w23.heap.size; omega)).trans p3X
  replace p4X := (b24.cell (p := ⟨w10.heap.size, 4, none⟩) (by show w10.heap.size < w23.heap.size; omega)).trans p4X
  replace p5X := (b24.cell (p := ⟨w10.heap.size, 5, none⟩) (by show w10.heap.size < w23.heap.size; omega)).trans p5X
  replace G0R0 := (b24.cell (p := ⟨w15.heap.size, 0, none⟩) (by show w15.heap.size < w23.heap.size; omega)).trans G0R0
  replace G1R0 := (b24.cell (p := ⟨w15.heap.size, 1, none⟩) (by show w15.heap.size < w23.heap.size; omega)).trans G1R0
  replace G2R0 := (b24.cell (p := ⟨w15.heap.size, 2, none⟩) (by show w15.heap.size < w23.heap.size; omega)).trans G2R0
  replace G3R0 := (b24.cell (p := ⟨w15.heap.size, 3, none⟩) (by show w15.heap.size < w23.heap.size; omega)).trans G3R0
  replace G4R0 := (b24.cell (p := ⟨w15.heap.size, 4, none⟩) (by show w15.heap.size < w23.heap.size; omega)).trans G4R0
  replace G5R0 := (b24.cell (p := ⟨w15.heap.size, 5, none⟩) (by show w15.heap.size < w23.heap.size; omega)).trans G5R0
  clear rcrow
  go_wp2_with fail
  refine Calls.mono (toInt64S_c w24 _ _ key (stable_ints.below hkey B24) hlkey) ?_
  rintro e w25 ⟨uckey, rfl, rckey, bb25⟩
  have b25 : Below w24.heap.size w24 w25 := bb25
  have B25 : Below w.heap.size w w25 := B24.trans (b25.mono B24.size)
  have s25 : w24.heap.size ≤ w25.heap.size := b25.size
  replace rS0 := stable_rows.below rS0 b25
  replace rS1 := stable_rows.below rS1 b25
  replace rxX := stable_rows.below rxX b25
  replace rxcuts := stable_rows.below rxcuts b25
  replace rxrow := stable_ints.below rxrow b25
  replace rxkey := stable_ints.below rxkey b25
  replace rG0 := stable_rows.below rG0 b25
  replace rG1 := stable_rows.below rG1 b25
  replace q0X := (b25.cell (p := ⟨w.heap.size, 0, none⟩) (by show w.heap.size < w24.heap.size; omega)).trans q0X
  replace q1X := (b25.cell (p := ⟨w.heap.size, 1, none⟩) (by show w.heap.size < w24.heap.size; omega)).trans q1X
  replace q2X := (b25.cell (p := ⟨w.heap.size, 2, none⟩) (by show w.heap.size < w24.heap.size; omega)).trans q2X
  replace q3X := (b25.cell (p := ⟨w.heap.size, 3, none⟩) (by show w.heap.size < w24.heap.size; omega)).trans q3X
  replace q4X := (b25.cell (p := ⟨w.heap.size, 4, none⟩) (by show w.heap.size < w24.heap.size; omega)).trans q4X
  replace q5X := (b25.cell (p := ⟨w.heap.size, 5, none⟩) (by show w.heap.size < w24.heap.size; omega)).trans q5X
  replace S0R0 := (b25.cell (p := ⟨w8.heap.size, 0, none⟩) (by show w8.heap.size < w24.heap.size; omega)).trans S0R0
  replace S1R0 := (b25.cell (p := ⟨w8.heap.size, 1, none⟩) (by show w8.heap.size < w24.heap.size; omega)).trans S1R0
  replace S2R0 := (b25.cell (p := ⟨w8.heap.size, 2, none⟩) (by show w8.heap.size < w24.heap.size; omega)).trans S2R0
  replace S3R0 := (b25.cell (p := ⟨w8.heap.size, 3, none⟩) (by show w8.heap.size < w24.heap.size; omega)).trans S3R0
  replace S4R0 := (b25.cell (p := ⟨w8.heap.size, 4, none⟩) (by show w8.heap.size < w24.heap.size; omega)).trans S4R0
  replace S5R0 := (b25.cell (p := ⟨w8.heap.size, 5, none⟩) (by show w8.heap.size < w24.heap.size; omega)).trans S5R0
  replace p0X := (b25.cell (p := ⟨w10.heap.size, 0, none⟩) (by show w10.heap.size < w24.heap.size; omega)).trans p0X
  replace p1X := (b25.cell (p := ⟨w10.heap.size, 1, none⟩) (by show w10.heap.size < w24.heap.size; omega)).trans p1X
  replace p2X := (b25.cell (p := ⟨w10.heap.size, 2, none⟩) (by show w10.heap.size < w24.heap.size; omega)).trans p2X
  replace p3X := (b25.cell (p := ⟨w10.heap.size, 3, none⟩) (by show w10.heap.size < w24.heap.size; omega)).trans p3X
  replace p4X := (b25.cell (p := ⟨w10.heap.size, 4, none⟩) (by show w10.heap.size < w24.heap.size; omega)).trans p4X
  replace p5X := (b25.cell (p := ⟨w10.heap.size, 5, none⟩) (by show w10.heap.size < w24.heap.size; omega)).trans p5X
  replace G0R0 := (b25.cell (p := ⟨w15.heap.size, 0, none⟩) (by show w15.heap.size < w24.heap.size; omega)).trans G0R0
  replace G1R0 := (b25.cell (p := ⟨w15.heap.size, 1, none⟩) (by show w15.heap.size < w24.heap.size; omega)).trans G1R0
  replace G2R0 := (b25.cell (p := ⟨w15.heap.size, 2, none⟩) (by show w15.heap.size < w24.heap.size; omega)).trans G2R0
  replace G3R0 := (b25.cell (p := ⟨w15.heap.size, 3, none⟩) (by show w15.heap.size < w24.heap.size; omega)).trans G3R0
  replace G4R0 := (b25.cell (p := ⟨w15.heap.size, 4, none⟩) (by show w15.heap.size < w24.heap.size; omega)).trans G4R0
  replace G5R0 := (b25.cell (p := ⟨w15.heap.size, 5, none⟩) (by show w15.heap.size < w24.heap.size; omega)).trans G5R0
  go_wp2_with fail
  refine Calls.mono (Calls.vq (eqInt64S_c w25 _ _ _ _ key key rxkey rckey) (congrArg Value.bool (decide_eq_true rfl))) ?_
  rintro e w26 ⟨rfl, hd26⟩
  have b26 : Below w25.heap.size w25 w26 := hd26.below _
  have B26 : Below w.heap.size w w26 := B25.trans (b26.mono B25.size)
  have s26 : w25.heap.size ≤ w26.heap.size := b26.size
  replace rS0 := stable_rows.below rS0 b26
  replace rS1 := stable_rows.below rS1 b26
  replace rxX := stable_rows.below rxX b26
  replace rxcuts := stable_rows.below rxcuts b26
  replace rxrow := stable_ints.below rxrow b26
  replace rxkey := stable_ints.below rxkey b26
  replace rG0 := stable_rows.below rG0 b26
  replace rG1 := stable_rows.below rG1 b26
  replace rckey := stable_ints.below rckey b26
  replace q0X := (b26.cell (p := ⟨w.heap.size, 0, none⟩) (by show w.heap.size < w25.heap.size; omega)).trans q0X
  replace q1X := (b26.cell (p := ⟨w.heap.size, 1, none⟩) (by show w.heap.size < w25.heap.size; omega)).trans q1X
  replace q2X := (b26.cell (p := ⟨w.heap.size, 2, none⟩) (by show w.heap.size < w25.heap.size; omega)).trans q2X
  replace q3X := (b26.cell (p := ⟨w.heap.size, 3, none⟩) (by show w.heap.size < w25.heap.size; omega)).trans q3X
  replace q4X := (b26.cell (p := ⟨w.heap.size, 4, none⟩) (by show w.heap.size < w25.heap.size; omega)).trans q4X
  replace q5X := (b26.cell (p := ⟨w.heap.size, 5, none⟩) (by show w.heap.size < w25.heap.size; omega)).trans q5X
  replace S0R0 := (b26.cell (p := ⟨w8.heap.size, 0, none⟩) (by show w8.heap.size < w25.heap.size; omega)).trans S0R0
  replace S1R0 := (b26.cell (p := ⟨w8.heap.size, 1, none⟩) (by show w8.heap.size < w25.heap.size; omega)).trans S1R0
  replace S2R0 := (b26.cell (p := ⟨w8.heap.size, 2, none⟩) (by show w8.heap.size < w25.heap.size; omega)).trans S2R0
  replace S3R0 := (b26.cell (p := ⟨w8.heap.size, 3, none⟩) (by show w8.heap.size < w25.heap.size; omega)).trans S3R0
  replace S4R0 := (b26.cell (p := ⟨w8.heap.size, 4, none⟩) (by show w8.heap.size < w25.heap.size; omega)).trans S4R0
  replace S5R0 := (b26.cell (p := ⟨w8.heap.size, 5, none⟩) (by show w8.heap.size < w25.heap.size; omega)).trans S5R0
  replace p0X := (b26.cell (p := ⟨w10.heap.size, 0, none⟩) (by show w10.heap.size < w25.heap.size; omega)).trans p0X
  replace p1X := (b26.cell (p := ⟨w10.heap.size, 1, none⟩) (by show w10.heap.size < w25.heap.size; omega)).trans p1X
  replace p2X := (b26.cell (p := ⟨w10.heap.size, 2, none⟩) (by show w10.heap.size < w25.heap.size; omega)).trans p2X
  replace p3X := (b26.cell (p := ⟨w10.heap.size, 3, none⟩) (by show w10.heap.size < w25.heap.size; omega)).trans p3X
  replace p4X := (b26.cell (p := ⟨w10.heap.size, 4, none⟩) (by show w10.heap.size < w25.heap.size; omega)).trans p4X
  replace p5X := (b26.cell (p := ⟨w10.heap.size, 5, none⟩) (by show w10.heap.size < w25.heap.size; omega)).trans p5X
  replace G0R0 := (b26.cell (p := ⟨w15.heap.size, 0, none⟩) (by show w15.heap.size < w25.heap.size; omega)).trans G0R0
  replace G1R0 := (b26.cell (p := ⟨w15.heap.size, 1, none⟩) (by show w15.heap.size < w25.heap.size; omega)).trans G1R0
  replace G2R0 := (b26.cell (p := ⟨w15.heap.size, 2, none⟩) (by show w15.heap.size < w25.heap.size; omega)).trans G2R0
  replace G3R0 := (b26.cell (p := ⟨w15.heap.size, 3, none⟩) (by show w15.heap.size < w25.heap.size; omega)).trans G3R0
  replace G4R0 := (b26.cell (p := ⟨w15.heap.size, 4, none⟩) (by show w15.heap.size < w25.heap.size; omega)).trans G4R0
  replace G5R0 := (b26.cell (p := ⟨w15.heap.size, 5, none⟩) (by show w15.heap.size < w25.heap.size; omega)).trans G5R0
  clear rckey
  have ofX : offs X X.length ≤ 1048576 := by have := offs_all X; omega
  have ofcuts : offs cuts cuts.length ≤ 1048576 := by have := offs_all cuts; omega
  go_wp2_with fail
  refine Calls.mono (markSystemA_c w26 _ _ _ X _ rxX rfl (by omega) (by omega)) ?_
  rintro e w27 ⟨rfl, rmxX, wm27, hb27, hw27⟩
  have hz27 : w27.heap.size = wm27.heap.size := hw27.size
  have hy27 : w26.heap.size ≤ wm27.heap.size := hb27.size
  have B27 : Below w.heap.size w w27 := (B26.trans (hb27.mono B26.size)).trans (hw27.below (by simp only [Zone.new]; omega))
  clear rxX
  replace rS0 := stable_rows.within (stable_rows.below rS0 hb27) hw27 (fun k h1 h2 => by have q1 := h1.1; have q2 := h1.2; have q3 := h2.1; have q4 := h2.2; simp only [Zone.new] at q1 q2 q3 q4; omega)
  replace rS1 := stable_rows.within (stable_rows.below rS1 hb27) hw27 (fun k h1 h2 => by have q1 := h1.1; have q2 := h1.2; have q3 := h2.1; have q4 := h2.2; simp only [Zone.new] at q1 q2 q3 q4; omega)
  replace rxcuts := stable_rows.within (stable_rows.below rxcuts hb27) hw27 (fun k h1 h2 => by have q1 := h1.1; have q2 := h1.2; have q3 := h2.1; have q4 := h2.2; simp only [Zone.new] at q1 q2 q3 q4; omega)
  replace rxrow := stable_ints.within (stable_ints.below rxrow hb27) hw27 (fun k h1 h2 => by have q1 := h1.1; have q2 := h1.2; have q3 := h2.1; have q4 := h2.2; simp only [Zone.new] at q1 q2 q3 q4; omega)
  replace rxkey := stable_ints.within (stable_ints.below rxkey hb27) hw27 (fun k h1 h2 => by have q1 := h1.1; have q2 := h1.2; have q3 := h2.1; have q4 := h2.2; simp only [Zone.new] at q1 q2 q3 q4; omega)
  replace rG0 := stable_rows.within (stable_rows.below rG0 hb27) hw27 (fun k h1 h2 => by have q1 := h1.1; have q2 := h1.2; have q3 := h2.1; have q4 := h2.2; simp only [Zone.new] at q1 q2 q3 q4; omega)
  replace rG1 := stable_rows.within (stable_rows.below rG1 hb27) hw27 (fun k h1 h2 => by have q1 := h1.1; have q2 := h1.2; have q3 := h2.1; have q4 := h2.2; simp only [Zone.new] at q1 q2 q3 q4; omega)
  clear p0X
  clear p1X
  clear p2X
  clear p3X
  clear p4X
  clear p5X
  replace q0X := (hw27.cell (p := ⟨w.heap.size, 0, none⟩) (fun h => by have q1 := h.1; have q2 := h.2; simp only [Zone.new] at q1 q2; omega)).trans ((hb27.cell (p := ⟨w.heap.size, 0, none⟩) (by show w.heap.size < w26.heap.size; omega)).trans q0X)
  replace q1X := (hw27.cell (p := ⟨w.heap.size, 1, none⟩) (fun h => by have q1 := h.1; have q2 := h.2; simp only [Zone.new] at q1 q2; omega)).trans ((hb27.cell (p := ⟨w.heap.size, 1, none⟩) (by show w.heap.size < w26.heap.size; omega)).trans q1X)
  replace q2X := (hw27.cell (p := ⟨w.heap.size, 2, none⟩) (fun h => by have q1 := h.1; have q2 := h.2; simp only [Zone.new] at q1 q2; omega)).trans ((hb27.cell (p := ⟨w.heap.size, 2, none⟩) (by show w.heap.size < w26.heap.size; omega)).trans q2X)
  replace q3X := (hw27.cell (p := ⟨w.heap.size, 3, none⟩) (fun h => by have q1 := h.1; have q2 := h.2; simp only [Zone.new] at q1 q2; omega)).trans ((hb27.cell (p := ⟨w.heap.size, 3, none⟩) (by show w.heap.size < w26.heap.size; omega)).trans q3X)
  replace q4X := (hw27.cell (p := ⟨w.heap.size, 4, none⟩) (fun h => by have q1 := h.1; have q2 := h.2; simp only [Zone.new] at q1 q2; omega)).trans ((hb27.cell (p := ⟨w.heap.size, 4, none⟩) (by show w.heap.size < w26.heap.size; omega)).trans q4X)
  replace q5X := (hw27.cell (p := ⟨w.heap.size, 5, none⟩) (fun h => by have q1 := h.1; have q2 := h.2; simp only [Zone.new] at q1 q2; omega)).trans ((hb27.cell (p := ⟨w.heap.size, 5, none⟩) (by show w.heap.size < w26.heap.size; omega)).trans q5X)
  replace S0R0 := (hw27.cell (p := ⟨w8.heap.size, 0, none⟩) (fun h => by have q1 := h.1; have q2 := h.2; simp only [Zone.new] at q1 q2; omega)).trans ((hb27.cell (p := ⟨w8.heap.size, 0, none⟩) (by show w8.heap.size < w26.heap.size; omega)).trans S0R0)
  replace S1R0 := (hw27.cell (p := ⟨w8.heap.size, 1, none⟩) (fun h => by have q1 := h.1; have q2 := h.2; simp only [Zone.new] at q1 q2; omega)).trans ((hb27.cell (p := ⟨w8.heap.size, 1, none⟩) (by show w8.heap.size < w26.heap.size; omega)).trans S1R0)
  replace S2R0 := (hw27.cell (p := ⟨w8.heap.size, 2, none⟩) (fun h => by have q1 := h.1; have q2 := h.2; simp only [Zone.new] at q1 q2; omega)).trans ((hb27.cell (p := ⟨w8.heap.size, 2, none⟩) (by show w8.heap.size < w26.heap.size; omega)).trans S2R0)
  replace S3R0 := (hw27.cell (p := ⟨w8.heap.size, 3, none⟩) (fun h => by have q1 := h.1; have q2 := h.2; simp only [Zone.new] at q1 q2; omega)).trans ((hb27.cell (p := ⟨w8.heap.size, 3, none⟩) (by show w8.heap.size < w26.heap.size; omega)).trans S3R0)
  replace S4R0 := (hw27.cell (p := ⟨w8.heap.size, 4, none⟩) (fun h => by have q1 := h.1; have q2 := h.2; simp only [Zone.new] at q1 q2; omega)).trans ((hb27.cell (p := ⟨w8.heap.size, 4, none⟩) (by show w8.heap.size < w26.heap.size; omega)).trans S4R0)
  replace S5R0 := (hw27.cell (p := ⟨w8.heap.size, 5, none⟩) (fun h => by have q1 := h.1; have q2 := h.2; simp only [Zone.new] at q1 q2; omega)).trans ((hb27.cell (p := ⟨w8.heap.size, 5, none⟩) (by show w8.heap.size < w26.heap.size; omega)).trans S5R0)
  replace G0R0 := (hw27.cell (p := ⟨w15.heap.size, 0, none⟩) (fun h => by have q1 := h.1; have q2 := h.2; simp only [Zone.new] at q1 q2; omega)).trans ((hb27.cell (p := ⟨w15.heap.size, 0, none⟩) (by show w15.heap.size < w26.heap.size; omega)).trans G0R0)
  replace G1R0 := (hw27.cell (p := ⟨w15.heap.size, 1, none⟩) (fun h => by have q1 := h.1; have q2 := h.2; simp only [Zone.new] at q1 q2; omega)).trans ((hb27.cell (p := ⟨w15.heap.size, 1, none⟩) (by show w15.heap.size < w26.heap.size; omega)).trans G1R0)
  replace G2R0 := (hw27.cell (p := ⟨w15.heap.size, 2, none⟩) (fun h => by have q1 := h.1; have q2 := h.2; simp only [Zone.new] at q1 q2; omega)).trans ((hb27.cell (p := ⟨w15.heap.size, 2, none⟩) (by show w15.heap.size < w26.heap.size; omega)).trans G2R0)
  replace G3R0 := (hw27.cell (p := ⟨w15.heap.size, 3, none⟩) (fun h => by have q1 := h.1; have q2 := h.2; simp only [Zone.new] at q1 q2; omega)).trans ((hb27.cell (p := ⟨w15.heap.size, 3, none⟩) (by show w15.heap.size < w26.heap.size; omega)).trans G3R0)
  replace G4R0 := (hw27.cell (p := ⟨w15.heap.size, 4, none⟩) (fun h => by have q1 := h.1; have q2 := h.2; simp only [Zone.new] at q1 q2; omega)).trans ((hb27.cell (p := ⟨w15.heap.size, 4, none⟩) (by show w15.heap.size < w26.heap.size; omega)).trans G4R0)
  replace G5R0 := (hw27.cell (p := ⟨w15.heap.size, 5, none⟩) (fun h => by have q1 := h.1; have q2 := h.2; simp only [Zone.new] at q1 q2; omega)).trans ((hb27.cell (p := ⟨w15.heap.size, 5, none⟩) (by show w15.heap.size < w26.heap.size; omega)).trans G5R0)
  have s27 : w26.heap.size ≤ w27.heap.size := by omega
  clear hw27 hb27
  clear rmxX
  have ck1 : (0 : Int) ≤ 1 + (offs X X.length : Int) ∧ 1 + (offs X X.length : Int) ≤ 1048577 := by omega
  obtain ⟨ck1a, ck1b⟩ := ck1
  generalize (1 : Int) + (offs X X.length : Int) = k1 at *
  go_wp2_with fail
  refine Calls.mono (markInt64SS_c w27 _ _ cuts _ rxcuts rfl (by omega) (by omega)) ?_
  rintro e w28 ⟨rfl, rmxcuts, hw28⟩
  have hz28 : w28.heap.size = w27.heap.size := hw28.size
  have B28 : Below w.heap.size w w28 := B27.trans (hw28.below (by simp only [Zone.new]; omega))
  clear rxcuts
  replace rS0 := stable_rows.within rS0 hw28 (fun k h1 h2 => by have q1 := h1.1; have q2 := h1.2; have q3 := h2.1; have q4 := h2.2; simp only [Zone.new] at q1 q2 q3 q4; omega)
  replace rS1 := stable_rows.within rS1 hw28 (fun k h1 h2 => by have q1 := h1.1; have q2 := h1.2; have q3 := h2.1; have q4 := h2.2; simp only [Zone.new] at q1 q2 q3 q4; omega)
  replace rxrow := stable_ints.within rxrow hw28 (fun k h1 h2 => by have q1 := h1.1; have q2 := h1.2; have q3 := h2.1; have q4 := h2.2; simp only [Zone.new] at q1 q2 q3 q4; omega)
  replace rxkey := stable_ints.within rxkey hw28 (fun k h1 h2 => by have q1 := h1.1; have q2 := h1.2; have q3 := h2.1; have q4 := h2.2; simp only [Zone.new] at q1 q2 q3 q4; omega)
  replace rG0 := stable_rows.within rG0 hw28 (fun k h1 h2 => by have q1 := h1.1; have q2 := h1.2; have q3 := h2.1; have q4 := h2.2; simp only [Zone.new] at q1 q2 q3 q4; omega)
  replace rG1 := stable_rows.within rG1 hw28 (fun k h1 h2 => by have q1 := h1.1; have q2 := h1.2; have q3 := h2.1; have q4 := h2.2; simp only [Zone.new] at q1 q2 q3 q4; omega)
  replace q0X := (hw28.cell (p := ⟨w.heap.size, 0, none⟩) (fun h => by have q1 := h.1; have q2 := h.2; simp only [Zone.new] at q1 q2; omega)).trans q0X
  replace q1X := (hw28.cell (p := ⟨w.heap.size, 1, none⟩) (fun h => by have q1 := h.1; have q2 := h.2; simp only [Zone.new] at q1 q2; omega)).trans q1X
  replace q2X := (hw28.cell (p := ⟨w.heap.size, 2, none⟩) (fun h => by have q1 := h.1; have q2 := h.2; simp only [Zone.new] at q1 q2; omega)).trans q2X
  replace q3X := (hw28.cell (p := ⟨w.heap.size, 3, none⟩) (fun h => by have q1 := h.1; have q2 := h.2; simp only [Zone.new] at q1 q2; omega)).trans q3X
  replace q4X := (hw28.cell (p := ⟨w.heap.size, 4, none⟩) (fun h => by have q1 := h.1; have q2 := h.2; simp only [Zone.new] at q1 q2; omega)).trans q4X
  replace q5X := (hw28.cell (p := ⟨w.heap.size, 5, none⟩) (fun h => by have q1 := h.1; have q2 := h.2; simp only [Zone.new] at q1 q2; omega)).trans q5X
  replace S0R0 := (hw28.cell (p := ⟨w8.heap.size, 0, none⟩) (fun h => by have q1 := h.1; have q2 := h.2; simp only [Zone.new] at q1 q2; omega)).trans S0R0
  replace S1R0 := (hw28.cell (p := ⟨w8.heap.size, 1, none⟩) (fun h => by have q1 := h.1; have q2 := h.2; simp only [Zone.new] at q1 q2; omega)).trans S1R0
  replace S2R0 := (hw28.cell (p := ⟨w8.heap.size, 2, none⟩) (fun h => by have q1 := h.1; have q2 := h.2; simp only [Zone.new] at q1 q2; omega)).trans S2R0
  replace S3R0 := (hw28.cell (p := ⟨w8.heap.size, 3, none⟩) (fun h => by have q1 := h.1; have q2 := h.2; simp only [Zone.new] at q1 q2; omega)).trans S3R0
  replace S4R0 := (hw28.cell (p := ⟨w8.heap.size, 4, none⟩) (fun h => by have q1 := h.1; have q2 := h.2; simp only [Zone.new] at q1 q2; omega)).trans S4R0
  replace S5R0 := (hw28.cell (p := ⟨w8.heap.size, 5, none⟩) (fun h => by have q1 := h.1; have q2 := h.2; simp only [Zone.new] at q1 q2; omega)).trans S5R0
  replace G0R0 := (hw28.cell (p := ⟨w15.heap.size, 0, none⟩) (fun h => by have q1 := h.1; have q2 := h.2; simp only [Zone.new] at q1 q2; omega)).trans G0R0
  replace G1R0 := (hw28.cell (p := ⟨w15.heap.size, 1, none⟩) (fun h => by have q1 := h.1; have q2 := h.2; simp only [Zone.new] at q1 q2; omega)).trans G1R0
  replace G2R0 := (hw28.cell (p := ⟨w15.heap.size, 2, none⟩) (fun h => by have q1 := h.1; have q2 := h.2; simp only [Zone.new] at q1 q2; omega)).trans G2R0
  replace G3R0 := (hw28.cell (p := ⟨w15.heap.size, 3, none⟩) (fun h => by have q1 := h.1; have q2 := h.2; simp only [Zone.new] at q1 q2; omega)).trans G3R0
  replace G4R0 := (hw28.cell (p := ⟨w15.heap.size, 4, none⟩) (fun h => by have q1 := h.1; have q2 := h.2; simp only [Zone.new] at q1 q2; omega)).trans G4R0
  replace G5R0 := (hw28.cell (p := ⟨w15.heap.size, 5, none⟩) (fun h => by have q1 := h.1; have q2 := h.2; simp only [Zone.new] at q1 q2; omega)).trans G5R0
  have s28 : w27.heap.size ≤ w28.heap.size := by omega
  clear hw28
  clear rmxcuts
  have ck2 : (0 : Int) ≤ k1 + (offs cuts cuts.length : Int) ∧ k1 + (offs cuts cuts.length : Int) ≤ 2097153 := by omega
  obtain ⟨ck2a, ck2b⟩ := ck2
  generalize (k1 : Int) + (offs cuts cuts.length : Int) = k2 at *
  go_wp2_with fail
  refine Calls.mono (markInt64S_c w28 _ _ row _ rxrow rfl (by omega) (by omega)) ?_
  rintro e w29 ⟨rfl, rmxrow, hw29⟩
  have hz29 : w29.heap.size = w28.heap.size := hw29.size
  have B29 : Below w.heap.size w w29 := B28.trans (hw29.below (by simp only [Zone.new]; omega))
  clear rxrow
  replace rS0 := stable_rows.within rS0 hw29 (fun k h1 h2 => by have q1 := h1.1; have q2 := h1.2; have q3 := h2.1; have q4 := h2.2; simp only [Zone.new] at q1 q2 q3 q4; omega)
  replace rS1 := stable_rows.within rS1 hw29 (fun k h1 h2 => by have q1 := h1.1; have q2 := h1.2; have q3 := h2.1; have q4 := h2.2; simp only [Zone.new] at q1 q2 q3 q4; omega)
  replace rxkey := stable_ints.within rxkey hw29 (fun k h1 h2 => by have q1 := h1.1; have q2 := h1.2; have q3 := h2.1; have q4 := h2.2; simp only [Zone.new] at q1 q2 q3 q4; omega)
  replace rG0 := stable_rows.within rG0 hw29 (fun k h1 h2 => by have q1 := h1.1; have q2 := h1.2; have q3 := h2.1; have q4 := h2.2; simp only [Zone.new] at q1 q2 q3 q4; omega)
  replace rG1 := stable_rows.within rG1 hw29 (fun k h1 h2 => by have q1 := h1.1; have q2 := h1.2; have q3 := h2.1; have q4 := h2.2; simp only [Zone.new] at q1 q2 q3 q4; omega)
  replace q0X := (hw29.cell (p := ⟨w.heap.size, 0, none⟩) (fun h => by have q1 := h.1; have q2 := h.2; simp only [Zone.new] at q1 q2; omega)).trans q0X
  replace q1X := (hw29.cell (p := ⟨w.heap.size, 1, none⟩) (fun h => by have q1 := h.1; have q2 := h.2; simp only [Zone.new] at q1 q2; omega)).trans q1X
  replace q2X := (hw29.cell (p := ⟨w.heap.size, 2, none⟩) (fun h => by have q1 := h.1; have q2 := h.2; simp only [Zone.new] at q1 q2; omega)).trans q2X
  replace q3X := (hw29.cell (p := ⟨w.heap.size, 3, none⟩) (fun h => by have q1 := h.1; have q2 := h.2; simp only [Zone.new] at q1 q2; omega)).trans q3X
  replace q4X := (hw29.cell (p := ⟨w.heap.size, 4, none⟩) (fun h => by have q1 := h.1; have q2 := h.2; simp only [Zone.new] at q1 q2; omega)).trans q4X
  replace q5X := (hw29.cell (p := ⟨w.heap.size, 5, none⟩) (fun h => by have q1 := h.1; have q2 := h.2; simp only [Zone.new] at q1 q2; omega)).trans q5X
  replace S0R0 := (hw29.cell (p := ⟨w8.heap.size, 0, none⟩) (fun h => by have q1 := h.1; have q2 := h.2; simp only [Zone.new] at q1 q2; omega)).trans S0R0
  replace S1R0 := (hw29.cell (p := ⟨w8.heap.size, 1, none⟩) (fun h => by have q1 := h.1; have q2 := h.2; simp only [Zone.new] at q1 q2; omega)).trans S1R0
  replace S2R0 := (hw29.cell (p := ⟨w8.heap.size, 2, none⟩) (fun h => by have q1 := h.1; have q2 := h.2; simp only [Zone.new] at q1 q2; omega)).trans S2R0
  replace S3R0 := (hw29.cell (p := ⟨w8.heap.size, 3, none⟩) (fun h => by have q1 := h.1; have q2 := h.2; simp only [Zone.new] at q1 q2; omega)).trans S3R0
  replace S4R0 := (hw29.cell (p := ⟨w8.heap.size, 4, none⟩) (fun h => by have q1 := h.1; have q2 := h.2; simp only [Zone.new] at q1 q2; omega)).trans S4R0
  replace S5R0 := (hw29.cell (p := ⟨w8.heap.size, 5, none⟩) (fun h => by have q1 := h.1; have q2 := h.2; simp only [Zone.new] at q1 q2; omega)).trans S5R0
  replace G0R0 := (hw29.cell (p := ⟨w15.heap.size, 0, none⟩) (fun h => by have q1 := h.1; have q2 := h.2; simp only [Zone.new] at q1 q2; omega)).trans G0R0
  replace G1R0 := (hw29.cell (p := ⟨w15.heap.size, 1, none⟩) (fun h => by have q1 := h.1; have q2 := h.2; simp only [Zone.new] at q1 q2; omega)).trans G1R0
  replace G2R0 := (hw29.cell (p := ⟨w15.heap.size, 2, none⟩) (fun h => by have q1 := h.1; have q2 := h.2; simp only [Zone.new] at q1 q2; omega)).trans G2R0
  replace G3R0 := (hw29.cell (p := ⟨w15.heap.size, 3, none⟩) (fun h => by have q1 := h.1; have q2 := h.2; simp only [Zone.new] at q1 q2; omega)).trans G3R0
  replace G4R0 := (hw29.cell (p := ⟨w15.heap.size, 4, none⟩) (fun h => by have q1 := h.1; have q2 := h.2; simp only [Zone.new] at q1 q2; omega)).trans G4R0
  replace G5R0 := (hw29.cell (p := ⟨w15.heap.size, 5, none⟩) (fun h => by have q1 := h.1; have q2 := h.2; simp only [Zone.new] at q1 q2; omega)).trans G5R0
  have s29 : w28.heap.size ≤ w29.heap.size := by omega
  clear hw29
  clear rmxrow
  have ck3 : (0 : Int) ≤ k2 + (row.length : Int) ∧ k2 + (row.length : Int) ≤ 3145729 := by omega
  obtain ⟨ck3a, ck3b⟩ := ck3
  generalize (k2 : Int) + (row.length : Int) = k3 at *
  go_wp2_with fail
  refine Calls.mono (markInt64S_c w29 _ _ key _ rxkey rfl (by omega) (by omega)) ?_
  rintro e w30 ⟨rfl, rmxkey, hw30⟩
  have hz30 : w30.heap.size = w29.heap.size := hw30.size
  have B30 : Below w.heap.size w w30 := B29.trans (hw30.below (by simp only [Zone.new]; omega))
  clear rxkey
  replace rS0 := stable_rows.within rS0 hw30 (fun k h1 h2 => by have q1 := h1.1; have q2 := h1.2; have q3 := h2.1; have q4 := h2.2; simp only [Zone.new] at q1 q2 q3 q4; omega)
  replace rS1 := stable_rows.within rS1 hw30 (fun k h1 h2 => by have q1 := h1.1; have q2 := h1.2; have q3 := h2.1; have q4 := h2.2; simp only [Zone.new] at q1 q2 q3 q4; omega)
  replace rG0 := stable_rows.within rG0 hw30 (fun k h1 h2 => by have q1 := h1.1; have q2 := h1.2; have q3 := h2.1; have q4 := h2.2; simp only [Zone.new] at q1 q2 q3 q4; omega)
  replace rG1 := stable_rows.within rG1 hw30 (fun k h1 h2 => by have q1 := h1.1; have q2 := h1.2; have q3 := h2.1; have q4 := h2.2; simp only [Zone.new] at q1 q2 q3 q4; omega)
  replace q0X := (hw30.cell (p := ⟨w.heap.size, 0, none⟩) (fun h => by have q1 := h.1; have q2 := h.2; simp only [Zone.new] at q1 q2; omega)).trans q0X
  replace q1X := (hw30.cell (p := ⟨w.heap.size, 1, none⟩) (fun h => by have q1 := h.1; have q2 := h.2; simp only [Zone.new] at q1 q2; omega)).trans q1X
  replace q2X := (hw30.cell (p := ⟨w.heap.size, 2, none⟩) (fun h => by have q1 := h.1; have q2 := h.2; simp only [Zone.new] at q1 q2; omega)).trans q2X
  replace q3X := (hw30.cell (p := ⟨w.heap.size, 3, none⟩) (fun h => by have q1 := h.1; have q2 := h.2; simp only [Zone.new] at q1 q2; omega)).trans q3X
  replace q4X := (hw30.cell (p := ⟨w.heap.size, 4, none⟩) (fun h => by have q1 := h.1; have q2 := h.2; simp only [Zone.new] at q1 q2; omega)).trans q4X
  replace q5X := (hw30.cell (p := ⟨w.heap.size, 5, none⟩) (fun h => by have q1 := h.1; have q2 := h.2; simp only [Zone.new] at q1 q2; omega)).trans q5X
  replace S0R0 := (hw30.cell (p := ⟨w8.heap.size, 0, none⟩) (fun h => by have q1 := h.1; have q2 := h.2; simp only [Zone.new] at q1 q2; omega)).trans S0R0
  replace S1R0 := (hw30.cell (p := ⟨w8.heap.size, 1, none⟩) (fun h => by have q1 := h.1; have q2 := h.2; simp only [Zone.new] at q1 q2; omega)).trans S1R0
  replace S2R0 := (hw30.cell (p := ⟨w8.heap.size, 2, none⟩) (fun h => by have q1 := h.1; have q2 := h.2; simp only [Zone.new] at q1 q2; omega)).trans S2R0
  replace S3R0 := (hw30.cell (p := ⟨w8.heap.size, 3, none⟩) (fun h => by have q1 := h.1; have q2 := h.2; simp only [Zone.new] at q1 q2; omega)).trans S3R0
  replace S4R0 := (hw30.cell (p := ⟨w8.heap.size, 4, none⟩) (fun h => by have q1 := h.1; have q2 := h.2; simp only [Zone.new] at q1 q2; omega)).trans S4R0
  replace S5R0 := (hw30.cell (p := ⟨w8.heap.size, 5, none⟩) (fun h => by have q1 := h.1; have q2 := h.2; simp only [Zone.new] at q1 q2; omega)).trans S5R0
  replace G0R0 := (hw30.cell (p := ⟨w15.heap.size, 0, none⟩) (fun h => by have q1 := h.1; have q2 := h.2; simp only [Zone.new] at q1 q2; omega)).trans G0R0
  replace G1R0 := (hw30.cell (p := ⟨w15.heap.size, 1, none⟩) (fun h => by have q1 := h.1; have q2 := h.2; simp only [Zone.new] at q1 q2; omega)).trans G1R0
  replace G2R0 := (hw30.cell (p := ⟨w15.heap.size, 2, none⟩) (fun h => by have q1 := h.1; have q2 := h.2; simp only [Zone.new] at q1 q2; omega)).trans G2R0
  replace G3R0 := (hw30.cell (p := ⟨w15.heap.size, 3, none⟩) (fun h => by have q1 := h.1; have q2 := h.2; simp only [Zone.new] at q1 q2; omega)).trans G3R0
  replace G4R0 := (hw30.cell (p := ⟨w15.heap.size, 4, none⟩) (fun h => by have q1 := h.1; have q2 := h.2; simp only [Zone.new] at q1 q2; omega)).trans G4R0
  replace G5R0 := (hw30.cell (p := ⟨w15.heap.size, 5, none⟩) (fun h => by have q1 := h.1; have q2 := h.2; simp only [Zone.new] at q1 q2; omega)).trans G5R0
  have s30 : w29.heap.size ≤ w30.heap.size := by omega
  clear hw30
  clear rmxkey
  have ck4 : (0 : Int) ≤ k3 + (key.length : Int) ∧ k3 + (key.length : Int) ≤ 4194305 := by omega
  obtain ⟨ck4a, ck4b⟩ := ck4
  generalize (k3 : Int) + (key.length : Int) = k4 at *
  go_wp2_with fail
  refine Calls.mono (eqSystemA_c w30 _ _ _ _ _ res0 rG0 rS0) ?_
  rintro e w31 ⟨rv31, rfl, rfl, hd31⟩
  have b31 : Below w30.heap.size w30 w31 := hd31
  have B31 : Below w.heap.size w w31 := B30.trans (b31.mono B30.size)
  have s31 : w30.heap.size ≤ w31.heap.size := b31.size
  replace rS0 := stable_rows.below rS0 b31
  replace rS1 := stable_rows.below rS1 b31
  replace rG0 := stable_rows.below rG0 b31
  replace rG1 := stable_rows.below rG1 b31
  replace q0X := (b31.cell (p := ⟨w.heap.size, 0, none⟩) (by show w.heap.size < w30.heap.size; omega)).trans q0X
  replace q1X := (b31.cell (p := ⟨w.heap.size, 1, none⟩) (by show w.heap.size < w30.heap.size; omega)).trans q1X
  replace q2X := (b31.cell (p := ⟨w.heap.size, 2, none⟩) (by show w.heap.size < w30.heap.size; omega)).trans q2X
  replace q3X := (b31.cell (p := ⟨w.heap.size, 3, none⟩) (by show w.heap.size < w30.heap.size; omega)).trans q3X
  replace q4X := (b31.cell (p := ⟨w.heap.size, 4, none⟩) (by show w.heap.size < w30.heap.size; omega)).trans q4X
  replace q5X := (b31.cell (p := ⟨w.heap.size, 5, none⟩) (by show w.heap.size < w30.heap.size; omega)).trans q5X
  replace S0R0 := (b31.cell (p := ⟨w8.heap.size, 0, none⟩) (by show w8.heap.size < w30.heap.size; omega)).trans S0R0
  replace S1R0 := (b31.cell (p := ⟨w8.heap.size, 1, none⟩) (by show w8.heap.size < w30.heap.size; omega)).trans S1R0
  replace S2R0 := (b31.cell (p := ⟨w8.heap.size, 2, none⟩) (by show w8.heap.size < w30.heap.size; omega)).trans S2R0
  replace S3R0 := (b31.cell (p := ⟨w8.heap.size, 3, none⟩) (by show w8.heap.size < w30.heap.size; omega)).trans S3R0
  replace S4R0 := (b31.cell (p := ⟨w8.heap.size, 4, none⟩) (by show w8.heap.size < w30.heap.size; omega)).trans S4R0
  replace S5R0 := (b31.cell (p := ⟨w8.heap.size, 5, none⟩) (by show w8.heap.size < w30.heap.size; omega)).trans S5R0
  replace G0R0 := (b31.cell (p := ⟨w15.heap.size, 0, none⟩) (by show w15.heap.size < w30.heap.size; omega)).trans G0R0
  replace G1R0 := (b31.cell (p := ⟨w15.heap.size, 1, none⟩) (by show w15.heap.size < w30.heap.size; omega)).trans G1R0
  replace G2R0 := (b31.cell (p := ⟨w15.heap.size, 2, none⟩) (by show w15.heap.size < w30.heap.size; omega)).trans G2R0
  replace G3R0 := (b31.cell (p := ⟨w15.heap.size, 3, none⟩) (by show w15.heap.size < w30.heap.size; omega)).trans G3R0
  replace G4R0 := (b31.cell (p := ⟨w15.heap.size, 4, none⟩) (by show w15.heap.size < w30.heap.size; omega)).trans G4R0
  replace G5R0 := (b31.cell (p := ⟨w15.heap.size, 5, none⟩) (by show w15.heap.size < w30.heap.size; omega)).trans G5R0
  go_wp2_with fail
  refine Calls.mono (Calls.vq (eqInt64SS_c w31 _ _ _ _ res1 res1 rG1 rS1) (congrArg Value.bool (decide_eq_true rfl))) ?_
  rintro e w32 ⟨rfl, hd32⟩
  have b32 : Below w31.heap.size w31 w32 := hd32.below _
  have B32 : Below w.heap.size w w32 := B31.trans (b32.mono B31.size)
  have s32 : w31.heap.size ≤ w32.heap.size := b32.size
  replace rS0 := stable_rows.below rS0 b32
  replace rS1 := stable_rows.below rS1 b32
  replace rG0 := stable_rows.below rG0 b32
  replace rG1 := stable_rows.below rG1 b32
  replace q0X := (b32.cell (p := ⟨w.heap.size, 0, none⟩) (by show w.heap.size < w31.heap.size; omega)).trans q0X
  replace q1X := (b32.cell (p := ⟨w.heap.size, 1, none⟩) (by show w.heap.size < w31.heap.size; omega)).trans q1X
  replace q2X := (b32.cell (p := ⟨w.heap.size, 2, none⟩) (by show w.heap.size < w31.heap.size; omega)).trans q2X
  replace q3X := (b32.cell (p := ⟨w.heap.size, 3, none⟩) (by show w.heap.size < w31.heap.size; omega)).trans q3X
  replace q4X := (b32.cell (p := ⟨w.heap.size, 4, none⟩) (by show w.heap.size < w31.heap.size; omega)).trans q4X
  replace q5X := (b32.cell (p := ⟨w.heap.size, 5, none⟩) (by show w.heap.size < w31.heap.size; omega)).trans q5X
  replace S0R0 := (b32.cell (p := ⟨w8.heap.size, 0, none⟩) (by show w8.heap.size < w31.heap.size; omega)).trans S0R0
  replace S1R0 := (b32.cell (p := ⟨w8.heap.size, 1, none⟩) (by show w8.heap.size < w31.heap.size; omega)).trans S1R0
  replace S2R0 := (b32.cell (p := ⟨w8.heap.size, 2, none⟩) (by show w8.heap.size < w31.heap.size; omega)).trans S2R0
  replace S3R0 := (b32.cell (p := ⟨w8.heap.size, 3, none⟩) (by show w8.heap.size < w31.heap.size; omega)).trans S3R0
  replace S4R0 := (b32.cell (p := ⟨w8.heap.size, 4, none⟩) (by show w8.heap.size < w31.heap.size; omega)).trans S4R0
  replace S5R0 := (b32.cell (p := ⟨w8.heap.size, 5, none⟩) (by show w8.heap.size < w31.heap.size; omega)).trans S5R0
  replace G0R0 := (b32.cell (p := ⟨w15.heap.size, 0, none⟩) (by show w15.heap.size < w31.heap.size; omega)).trans G0R0
  replace G1R0 := (b32.cell (p := ⟨w15.heap.size, 1, none⟩) (by show w15.heap.size < w31.heap.size; omega)).trans G1R0
  replace G2R0 := (b32.cell (p := ⟨w15.heap.size, 2, none⟩) (by show w15.heap.size < w31.heap.size; omega)).trans G2R0
  replace G3R0 := (b32.cell (p := ⟨w15.heap.size, 3, none⟩) (by show w15.heap.size < w31.heap.size; omega)).trans G3R0
  replace G4R0 := (b32.cell (p := ⟨w15.heap.size, 4, none⟩) (by show w15.heap.size < w31.heap.size; omega)).trans G4R0
  replace G5R0 := (b32.cell (p := ⟨w15.heap.size, 5, none⟩) (by show w15.heap.size < w31.heap.size; omega)).trans G5R0
  go_wp2_with fail
  refine Calls.mono (markSystemA_c w32 _ _ _ res0 _ rG0 rfl (by omega) (by omega)) ?_
  rintro e w33 ⟨rfl, rmG0, wm33, hb33, hw33⟩
  have hz33 : w33.heap.size = wm33.heap.size := hw33.size
  have hy33 : w32.heap.size ≤ wm33.heap.size := hb33.size
  have B33 : Below w.heap.size w w33 := (B32.trans (hb33.mono B32.size)).trans (hw33.below (by simp only; omega))
  clear rG0
  replace rS0 := stable_rows.within (stable_rows.below rS0 hb33) hw33 (fun k h1 h2 => by have q1 := h1.1; have q2 := h1.2; have q3 := h2.1; have q4 := h2.2; simp only at q1 q2 q3 q4; omega)
  replace rS1 := stable_rows.within (stable_rows.below rS1 hb33) hw33 (fun k h1 h2 => by have q1 := h1.1; have q2 := h1.2; have q3 := h2.1; have q4 := h2.2; simp only at q1 q2 q3 q4; omega)
  replace rG1 := stable_rows.within (stable_rows.below rG1 hb33) hw33 (fun k h1 h2 => by have q1 := h1.1; have q2 := h1.2; have q3 := h2.1; have q4 := h2.2; simp only at q1 q2 q3 q4; omega)
  replace q0X := (hw33.cell (p := ⟨w.heap.size, 0, none⟩) (fun h => by have q1 := h.1; have q2 := h.2; simp only at q1 q2; omega)).trans ((hb33.cell (p := ⟨w.heap.size, 0, none⟩) (by show w.heap.size < w32.heap.size; omega)).trans q0X)
  replace q1X := (hw33.cell (p := ⟨w.heap.size, 1, none⟩) (fun h => by have q1 := h.1; have q2 := h.2; simp only at q1 q2; omega)).trans ((hb33.cell (p := ⟨w.heap.size, 1, none⟩) (by show w.heap.size < w32.heap.size; omega)).trans q1X)
  replace q2X := (hw33.cell (p := ⟨w.heap.size, 2, none⟩) (fun h => by have q1 := h.1; have q2 := h.2; simp only at q1 q2; omega)).trans ((hb33.cell (p := ⟨w.heap.size, 2, none⟩) (by show w.heap.size < w32.heap.size; omega)).trans q2X)
  replace q3X := (hw33.cell (p := ⟨w.heap.size, 3, none⟩) (fun h => by have q1 := h.1; have q2 := h.2; simp only at q1 q2; omega)).trans ((hb33.cell (p := ⟨w.heap.size, 3, none⟩) (by show w.heap.size < w32.heap.size; omega)).trans q3X)
  replace q4X := (hw33.cell (p := ⟨w.heap.size, 4, none⟩) (fun h => by have q1 := h.1; have q2 := h.2; simp only at q1 q2; omega)).trans ((hb33.cell (p := ⟨w.heap.size, 4, none⟩) (by show w.heap.size < w32.heap.size; omega)).trans q4X)
  replace q5X := (hw33.cell (p := ⟨w.heap.size, 5, none⟩) (fun h => by have q1 := h.1; have q2 := h.2; simp only at q1 q2; omega)).trans ((hb33.cell (p := ⟨w.heap.size, 5, none⟩) (by show w.heap.size < w32.heap.size; omega)).trans q5X)
  replace S0R0 := (hw33.cell (p := ⟨w8.heap.size, 0, none⟩) (fun h => by have q1 := h.1; have q2 := h.2; simp only at q1 q2; omega)).trans ((hb33.cell (p := ⟨w8.heap.size, 0, none⟩) (by show w8.heap.size < w32.heap.size; omega)).trans S0R0)
  replace S1R0 := (hw33.cell (p := ⟨w8.heap.size, 1, none⟩) (fun h => by have q1 := h.1; have q2 := h.2; simp only at q1 q2; omega)).trans ((hb33.cell (p := ⟨w8.heap.size, 1, none⟩) (by show w8.heap.size < w32.heap.size; omega)).trans S1R0)
  replace S2R0 := (hw33.cell (p := ⟨w8.heap.size, 2, none⟩) (fun h => by have q1 := h.1; have q2 := h.2; simp only at q1 q2; omega)).trans ((hb33.cell (p := ⟨w8.heap.size, 2, none⟩) (by show w8.heap.size < w32.heap.size; omega)).trans S2R0)
  replace S3R0 := (hw33.cell (p := ⟨w8.heap.size, 3, none⟩) (fun h => by have q1 := h.1; have q2 := h.2; simp only at q1 q2; omega)).trans ((hb33.cell (p := ⟨w8.heap.size, 3, none⟩) (by show w8.heap.size < w32.heap.size; omega)).trans S3R0)
  replace S4R0 := (hw33.cell (p := ⟨w8.heap.size, 4, none⟩) (fun h => by have q1 := h.1; have q2 := h.2; simp only at q1 q2; omega)).trans ((hb33.cell (p := ⟨w8.heap.size, 4, none⟩) (by show w8.heap.size < w32.heap.size; omega)).trans S4R0)
  replace S5R0 := (hw33.cell (p := ⟨w8.heap.size, 5, none⟩) (fun h => by have q1 := h.1; have q2 := h.2; simp only at q1 q2; omega)).trans ((hb33.cell (p := ⟨w8.heap.size, 5, none⟩) (by show w8.heap.size < w32.heap.size; omega)).trans S5R0)
  replace G0R0 := (hw33.cell (p := ⟨w15.heap.size, 0, none⟩) (fun h => by have q1 := h.1; have q2 := h.2; simp only at q1 q2; omega)).trans ((hb33.cell (p := ⟨w15.heap.size, 0, none⟩) (by show w15.heap.size < w32.heap.size; omega)).trans G0R0)
  replace G1R0 := (hw33.cell (p := ⟨w15.heap.size, 1, none⟩) (fun h => by have q1 := h.1; have q2 := h.2; simp only at q1 q2; omega)).trans ((hb33.cell (p := ⟨w15.heap.size, 1, none⟩) (by show w15.heap.size < w32.heap.size; omega)).trans G1R0)
  replace G2R0 := (hw33.cell (p := ⟨w15.heap.size, 2, none⟩) (fun h => by have q1 := h.1; have q2 := h.2; simp only at q1 q2; omega)).trans ((hb33.cell (p := ⟨w15.heap.size, 2, none⟩) (by show w15.heap.size < w32.heap.size; omega)).trans G2R0)
  replace G3R0 := (hw33.cell (p := ⟨w15.heap.size, 3, none⟩) (fun h => by have q1 := h.1; have q2 := h.2; simp only at q1 q2; omega)).trans ((hb33.cell (p := ⟨w15.heap.size, 3, none⟩) (by show w15.heap.size < w32.heap.size; omega)).trans G3R0)
  replace G4R0 := (hw33.cell (p := ⟨w15.heap.size, 4, none⟩) (fun h => by have q1 := h.1; have q2 := h.2; simp only at q1 q2; omega)).trans ((hb33.cell (p := ⟨w15.heap.size, 4, none⟩) (by show w15.heap.size < w32.heap.size; omega)).trans G4R0)
  replace G5R0 := (hw33.cell (p := ⟨w15.heap.size, 5, none⟩) (fun h => by have q1 := h.1; have q2 := h.2; simp only at q1 q2; omega)).trans ((hb33.cell (p := ⟨w15.heap.size, 5, none⟩) (by show w15.heap.size < w32.heap.size; omega)).trans G5R0)
  have s33 : w32.heap.size ≤ w33.heap.size := by omega
  clear hw33 hb33
  obtain ⟨m1, em1⟩ : ∃ t : Int, t = 1 + (offs res0 res0.length : Int) := ⟨_, rfl⟩
  rw [← em1]
  have gm1a : 0 ≤ m1 ∧ m1 ≤ 1048577 := by omega
  have Em1 := Lib.hid em1; clear em1; obtain ⟨gm1a, gm1b⟩ := gm1a
  go_wp2_with fail
  refine Calls.mono (markInt64SS_c w33 _ _ res1 _ rG1 rfl (by omega) (by omega)) ?_
  rintro e w34 ⟨rfl, rmG1, hw34⟩
  have hz34 : w34.heap.size = w33.heap.size := hw34.size
  have B34 : Below w.heap.size w w34 := B33.trans (hw34.below (by simp only; omega))
  clear rG1
  replace rS0 := stable_rows.within rS0 hw34 (fun k h1 h2 => by have q1 := h1.1; have q2 := h1.2; have q3 := h2.1; have q4 := h2.2; simp only at q1 q2 q3 q4; omega)
  replace rS1 := stable_rows.within rS1 hw34 (fun k h1 h2 => by have q1 := h1.1; have q2 := h1.2; have q3 := h2.1; have q4 := h2.2; simp only at q1 q2 q3 q4; omega)
  replace rmG0 := stable_rows.within rmG0 hw34 (fun k h1 h2 => by have q1 := h1.1; have q2 := h1.2; have q3 := h2.1; have q4 := h2.2; simp only at q1 q2 q3 q4; omega)
  replace q0X := (hw34.cell (p := ⟨w.heap.size, 0, none⟩) (fun h => by have q1 := h.1; have q2 := h.2; simp only at q1 q2; omega)).trans q0X
  replace q1X := (hw34.cell (p := ⟨w.heap.size, 1, none⟩) (fun h => by have q1 := h.1; have q2 := h.2; simp only at q1 q2; omega)).trans q1X
  replace q2X := (hw34.cell (p := ⟨w.heap.size, 2, none⟩) (fun h => by have q1 := h.1; have q2 := h.2; simp only at q1 q2; omega)).trans q2X
  replace q3X := (hw34.cell (p := ⟨w.heap.size, 3, none⟩) (fun h => by have q1 := h.1; have q2 := h.2; simp only at q1 q2; omega)).trans q3X
  replace q4X := (hw34.cell (p := ⟨w.heap.size, 4, none⟩) (fun h => by have q1 := h.1; have q2 := h.2; simp only at q1 q2; omega)).trans q4X
  replace q5X := (hw34.cell (p := ⟨w.heap.size, 5, none⟩) (fun h => by have q1 := h.1; have q2 := h.2; simp only at q1 q2; omega)).trans q5X
  replace S0R0 := (hw34.cell (p := ⟨w8.heap.size, 0, none⟩) (fun h => by have q1 := h.1; have q2 := h.2; simp only at q1 q2; omega)).trans S0R0
  replace S1R0 := (hw34.cell (p := ⟨w8.heap.size, 1, none⟩) (fun h => by have q1 := h.1; have q2 := h.2; simp only at q1 q2; omega)).trans S1R0
  replace S2R0 := (hw34.cell (p := ⟨w8.heap.size, 2, none⟩) (fun h => by have q1 := h.1; have q2 := h.2; simp only at q1 q2; omega)).trans S2R0
  replace S3R0 := (hw34.cell (p := ⟨w8.heap.size, 3, none⟩) (fun h => by have q1 := h.1; have q2 := h.2; simp only at q1 q2; omega)).trans S3R0
  replace S4R0 := (hw34.cell (p := ⟨w8.heap.size, 4, none⟩) (fun h => by have q1 := h.1; have q2 := h.2; simp only at q1 q2; omega)).trans S4R0
  replace S5R0 := (hw34.cell (p := ⟨w8.heap.size, 5, none⟩) (fun h => by have q1 := h.1; have q2 := h.2; simp only at q1 q2; omega)).trans S5R0
  replace G0R0 := (hw34.cell (p := ⟨w15.heap.size, 0, none⟩) (fun h => by have q1 := h.1; have q2 := h.2; simp only at q1 q2; omega)).trans G0R0
  replace G1R0 := (hw34.cell (p := ⟨w15.heap.size, 1, none⟩) (fun h => by have q1 := h.1; have q2 := h.2; simp only at q1 q2; omega)).trans G1R0
  replace G2R0 := (hw34.cell (p := ⟨w15.heap.size, 2, none⟩) (fun h => by have q1 := h.1; have q2 := h.2; simp only at q1 q2; omega)).trans G2R0
  replace G3R0 := (hw34.cell (p := ⟨w15.heap.size, 3, none⟩) (fun h => by have q1 := h.1; have q2 := h.2; simp only at q1 q2; omega)).trans G3R0
  replace G4R0 := (hw34.cell (p := ⟨w15.heap.size, 4, none⟩) (fun h => by have q1 := h.1; have q2 := h.2; simp only at q1 q2; omega)).trans G4R0
  replace G5R0 := (hw34.cell (p := ⟨w15.heap.size, 5, none⟩) (fun h => by have q1 := h.1; have q2 := h.2; simp only at q1 q2; omega)).trans G5R0
  have s34 : w33.heap.size ≤ w34.heap.size := by omega
  clear hw34
  obtain ⟨m2, em2⟩ : ∃ t : Int, t = m1 + (offs res1 res1.length : Int) := ⟨_, rfl⟩
  rw [← em2]
  have gm2a : 0 ≤ m2 ∧ m2 ≤ 2097153 := by omega
  have Em2 := Lib.hid em2; clear em2; obtain ⟨gm2a, gm2b⟩ := gm2a
  go_wp2_with fail
  have hh35 := heldSystemA_c w34 MR0 _ _ _ _ rmG0 (by omega) (by have := Em1.out; omega)
  rw [← Em1.out] at hh35
  refine Calls.mono hh35 ?_
  rintro e w35 ⟨rv35, rfl, rfl, hd35⟩
  clear hh35
  have b35 : Below w34.heap.size w34 w35 := hd35
  have B35 : Below w.heap.size w w35 := B34.trans (b35.mono B34.size)
  have s35 : w34.heap.size ≤ w35.heap.size := b35.size
  replace rS0 := stable_rows.below rS0 b35
  replace rS1 := stable_rows.below rS1 b35
  replace rmG0 := stable_rows.below rmG0 b35
  replace rmG1 := stable_rows.below rmG1 b35
  replace q0X := (b35.cell (p := ⟨w.heap.size, 0, none⟩) (by show w.heap.size < w34.heap.size; omega)).trans q0X
  replace q1X := (b35.cell (p := ⟨w.heap.size, 1, none⟩) (by show w.heap.size < w34.heap.size; omega)).trans q1X
  replace q2X := (b35.cell (p := ⟨w.heap.size, 2, none⟩) (by show w.heap.size < w34.heap.size; omega)).trans q2X
  replace q3X := (b35.cell (p := ⟨w.heap.size, 3, none⟩) (by show w.heap.size < w34.heap.size; omega)).trans q3X
  replace q4X := (b35.cell (p := ⟨w.heap.size, 4, none⟩) (by show w.heap.size < w34.heap.size; omega)).trans q4X
  replace q5X := (b35.cell (p := ⟨w.heap.size, 5, none⟩) (by show w.heap.size < w34.heap.size; omega)).trans q5X
  replace S0R0 := (b35.cell (p := ⟨w8.heap.size, 0, none⟩) (by show w8.heap.size < w34.heap.size; omega)).trans S0R0
  replace S1R0 := (b35.cell (p := ⟨w8.heap.size, 1, none⟩) (by show w8.heap.size < w34.heap.size; omega)).trans S1R0
  replace S2R0 := (b35.cell (p := ⟨w8.heap.size, 2, none⟩) (by show w8.heap.size < w34.heap.size; omega)).trans S2R0
  replace S3R0 := (b35.cell (p := ⟨w8.heap.size, 3, none⟩) (by show w8.heap.size < w34.heap.size; omega)).trans S3R0
  replace S4R0 := (b35.cell (p := ⟨w8.heap.size, 4, none⟩) (by show w8.heap.size < w34.heap.size; omega)).trans S4R0
  replace S5R0 := (b35.cell (p := ⟨w8.heap.size, 5, none⟩) (by show w8.heap.size < w34.heap.size; omega)).trans S5R0
  replace G0R0 := (b35.cell (p := ⟨w15.heap.size, 0, none⟩) (by show w15.heap.size < w34.heap.size; omega)).trans G0R0
  replace G1R0 := (b35.cell (p := ⟨w15.heap.size, 1, none⟩) (by show w15.heap.size < w34.heap.size; omega)).trans G1R0
  replace G2R0 := (b35.cell (p := ⟨w15.heap.size, 2, none⟩) (by show w15.heap.size < w34.heap.size; omega)).trans G2R0
  replace G3R0 := (b35.cell (p := ⟨w15.heap.size, 3, none⟩) (by show w15.heap.size < w34.heap.size; omega)).trans G3R0
  replace G4R0 := (b35.cell (p := ⟨w15.heap.size, 4, none⟩) (by show w15.heap.size < w34.heap.size; omega)).trans G4R0
  replace G5R0 := (b35.cell (p := ⟨w15.heap.size, 5, none⟩) (by show w15.heap.size < w34.heap.size; omega)).trans G5R0
  go_wp2_with fail
  refine Calls.mono (Calls.vq (heldInt64SS_c w35 _ _ res1 _ rmG1 (by omega) (by have := Em2.out; omega)) (congrArg (Value.int .i64) Em2.out.symm)) ?_
  rintro e w36 ⟨rfl, hd36⟩
  have b36 : Below w35.heap.size w35 w36 := hd36.below _
  have B36 : Below w.heap.size w w36 := B35.trans (b36.mono B35.size)
  have s36 : w35.heap.size ≤ w36.heap.size := b36.size
  replace rS0 := stable_rows.below rS0 b36
  replace rS1 := stable_rows.below rS1 b36
  replace rmG0 := stable_rows.below rmG0 b36
  replace rmG1 := stable_rows.below rmG1 b36
  replace q0X := (b36.cell (p := ⟨w.heap.size, 0, none⟩) (by show w.heap.size < w35.heap.size; omega)).trans q0X
  replace q1X := (b36.cell (p := ⟨w.heap.size, 1, none⟩) (by show w.heap.size < w35.heap.size; omega)).trans q1X
  replace q2X := (b36.cell (p := ⟨w.heap.size, 2, none⟩) (by show w.heap.size < w35.heap.size; omega)).trans q2X
  replace q3X := (b36.cell (p := ⟨w.heap.size, 3, none⟩) (by show w.heap.size < w35.heap.size; omega)).trans q3X
  replace q4X := (b36.cell (p := ⟨w.heap.size, 4, none⟩) (by show w.heap.size < w35.heap.size; omega)).trans q4X
  replace q5X := (b36.cell (p := ⟨w.heap.size, 5, none⟩) (by show w.heap.size < w35.heap.size; omega)).trans q5X
  replace S0R0 := (b36.cell (p := ⟨w8.heap.size, 0, none⟩) (by show w8.heap.size < w35.heap.size; omega)).trans S0R0
  replace S1R0 := (b36.cell (p := ⟨w8.heap.size, 1, none⟩) (by show w8.heap.size < w35.heap.size; omega)).trans S1R0
  replace S2R0 := (b36.cell (p := ⟨w8.heap.size, 2, none⟩) (by show w8.heap.size < w35.heap.size; omega)).trans S2R0
  replace S3R0 := (b36.cell (p := ⟨w8.heap.size, 3, none⟩) (by show w8.heap.size < w35.heap.size; omega)).trans S3R0
  replace S4R0 := (b36.cell (p := ⟨w8.heap.size, 4, none⟩) (by show w8.heap.size < w35.heap.size; omega)).trans S4R0
  replace S5R0 := (b36.cell (p := ⟨w8.heap.size, 5, none⟩) (by show w8.heap.size < w35.heap.size; omega)).trans S5R0
  replace G0R0 := (b36.cell (p := ⟨w15.heap.size, 0, none⟩) (by show w15.heap.size < w35.heap.size; omega)).trans G0R0
  replace G1R0 := (b36.cell (p := ⟨w15.heap.size, 1, none⟩) (by show w15.heap.size < w35.heap.size; omega)).trans G1R0
  replace G2R0 := (b36.cell (p := ⟨w15.heap.size, 2, none⟩) (by show w15.heap.size < w35.heap.size; omega)).trans G2R0
  replace G3R0 := (b36.cell (p := ⟨w15.heap.size, 3, none⟩) (by show w15.heap.size < w35.heap.size; omega)).trans G3R0
  replace G4R0 := (b36.cell (p := ⟨w15.heap.size, 4, none⟩) (by show w15.heap.size < w35.heap.size; omega)).trans G4R0
  replace G5R0 := (b36.cell (p := ⟨w15.heap.size, 5, none⟩) (by show w15.heap.size < w35.heap.size; omega)).trans G5R0
  go_wp2_with fail
  refine Calls.mono (toSystemA_c w36 MX _ _ X (stable_rows.below hX B36) lbX) ?_
  rintro e w37 ⟨rvyX, rfl, ⟨uyX, rfl, ryX⟩, bb37⟩
  have b37 : Below w36.heap.size w36 w37 := bb37
  have B37 : Below w.heap.size w w37 := B36.trans (b37.mono B36.size)
  have s37 : w36.heap.size ≤ w37.heap.size := b37.size
  replace rS0 := stable_rows.below rS0 b37
  replace rS1 := stable_rows.below rS1 b37
  replace rmG0 := stable_rows.below rmG0 b37
  replace rmG1 := stable_rows.below rmG1 b37
  replace q0X := (b37.cell (p := ⟨w.heap.size, 0, none⟩) (by show w.heap.size < w36.heap.size; omega)).trans q0X
  replace q1X := (b37.cell (p := ⟨w.heap.size, 1, none⟩) (by show w.heap.size < w36.heap.size; omega)).trans q1X
  replace q2X := (b37.cell (p := ⟨w.heap.size, 2, none⟩) (by show w.heap.size < w36.heap.size; omega)).trans q2X
  replace q3X := (b37.cell (p := ⟨w.heap.size, 3, none⟩) (by show w.heap.size < w36.heap.size; omega)).trans q3X
  replace q4X := (b37.cell (p := ⟨w.heap.size, 4, none⟩) (by show w.heap.size < w36.heap.size; omega)).trans q4X
  replace q5X := (b37.cell (p := ⟨w.heap.size, 5, none⟩) (by show w.heap.size < w36.heap.size; omega)).trans q5X
  replace S0R0 := (b37.cell (p := ⟨w8.heap.size, 0, none⟩) (by show w8.heap.size < w36.heap.size; omega)).trans S0R0
  replace S1R0 := (b37.cell (p := ⟨w8.heap.size, 1, none⟩) (by show w8.heap.size < w36.heap.size; omega)).trans S1R0
  replace S2R0 := (b37.cell (p := ⟨w8.heap.size, 2, none⟩) (by show w8.heap.size < w36.heap.size; omega)).trans S2R0
  replace S3R0 := (b37.cell (p := ⟨w8.heap.size, 3, none⟩) (by show w8.heap.size < w36.heap.size; omega)).trans S3R0
  replace S4R0 := (b37.cell (p := ⟨w8.heap.size, 4, none⟩) (by show w8.heap.size < w36.heap.size; omega)).trans S4R0
  replace S5R0 := (b37.cell (p := ⟨w8.heap.size, 5, none⟩) (by show w8.heap.size < w36.heap.size; omega)).trans S5R0
  replace G0R0 := (b37.cell (p := ⟨w15.heap.size, 0, none⟩) (by show w15.heap.size < w36.heap.size; omega)).trans G0R0
  replace G1R0 := (b37.cell (p := ⟨w15.heap.size, 1, none⟩) (by show w15.heap.size < w36.heap.size; omega)).trans G1R0
  replace G2R0 := (b37.cell (p := ⟨w15.heap.size, 2, none⟩) (by show w15.heap.size < w36.heap.size; omega)).trans G2R0
  replace G3R0 := (b37.cell (p := ⟨w15.heap.size, 3, none⟩) (by show w15.heap.size < w36.heap.size; omega)).trans G3R0
  replace G4R0 := (b37.cell (p := ⟨w15.heap.size, 4, none⟩) (by show w15.heap.size < w36.heap.size; omega)).trans G4R0
  replace G5R0 := (b37.cell (p := ⟨w15.heap.size, 5, none⟩) (by show w15.heap.size < w36.heap.size; omega)).trans G5R0
  obtain ⟨ayX, nyX, kyX, rfl, -⟩ := SliceR.shape ryX
  go_wp2_with fail
  refine Calls.mono (toInt64SS_c w37 _ _ cuts (stable_rows.below hcuts B37) lbcuts) ?_
  rintro e w38 ⟨uycuts, rfl, rycuts, bb38⟩
  have b38 : Below w37.heap.size w37 w38 := bb38
  have B38 : Below w.heap.size w w38 := B37.trans (b38.mono B37.size)
  have s38 : w37.heap.size ≤ w38.heap.size := b38.size
  replace rS0 := stable_rows.below rS0 b38
  replace rS1 := stable_rows.below rS1 b38
  replace rmG0 := stable_rows.below rmG0 b38
  replace rmG1 := stable_rows.below rmG1 b38
  replace ryX := stable_rows.below ryX b38
  replace q0X := (b38.cell (p := ⟨w.heap.size, 0, none⟩) (by show w.heap.size < w37.heap.size; omega)).trans q0X
  replace q1X := (b38.cell (p := ⟨w.heap.size, 1, none⟩) (by show w.heap.size < w37.heap.size; omega)).trans q1X
  replace q2X := (b38.cell (p := ⟨w.heap.size, 2, none⟩) (by show w.heap.size < w37.heap.size; omega)).trans q2X
  replace q3X := (b38.cell (p := ⟨w.heap.size, 3, none⟩) (by show w.heap.size < w37.heap.size; omega)).trans q3X
  replace q4X := (b38.cell (p := ⟨w.heap.size, 4, none⟩) (by show w.heap.size < w37.heap.size; omega)).trans q4X
  replace q5X := (b38.cell (p := ⟨w.heap.size, 5, none⟩) (by show w.heap.size < w37.heap.size; omega)).trans q5X
  replace S0R0 := (b38.cell (p := ⟨w8.heap.size, 0, none⟩) (by show w8.heap.size < w37.heap.size; omega)).trans S0R0
  replace S1R0 := (b38.cell (p := ⟨w8.heap.size, 1, none⟩) (by show w8.heap.size < w37.heap.size; omega)).trans S1R0
  replace S2R0 := (b38.cell (p := ⟨w8.heap.size, 2, none⟩) (by show w8.heap.size < w37.heap.size; omega)).trans S2R0
  replace S3R0 := (b38.cell (p := ⟨w8.heap.size, 3, none⟩) (by show w8.heap.size < w37.heap.size; omega)).trans S3R0
  replace S4R0 := (b38.cell (p := ⟨w8.heap.size, 4, none⟩) (by show w8.heap.size < w37.heap.size; omega)).trans S4R0
  replace S5R0 := (b38.cell (p := ⟨w8.heap.size, 5, none⟩) (by show w8.heap.size < w37.heap.size; omega)).trans S5R0
  replace G0R0 := (b38.cell (p := ⟨w15.heap.size, 0, none⟩) (by show w15.heap.size < w37.heap.size; omega)).trans G0R0
  replace G1R0 := (b38.cell (p := ⟨w15.heap.size, 1, none⟩) (by show w15.heap.size < w37.heap.size; omega)).trans G1R0
  replace G2R0 := (b38.cell (p := ⟨w15.heap.size, 2, none⟩) (by show w15.heap.size < w37.heap.size; omega)).trans G2R0
  replace G3R0 := (b38.cell (p := ⟨w15.heap.size, 3, none⟩) (by show w15.heap.size < w37.heap.size; omega)).trans G3R0
  replace G4R0 := (b38.cell (p := ⟨w15.heap.size, 4, none⟩) (by show w15.heap.size < w37.heap.size; omega)).trans G4R0
  replace G5R0 := (b38.cell (p := ⟨w15.heap.size, 5, none⟩) (by show w15.heap.size < w37.heap.size; omega)).trans G5R0
  go_wp2_with fail
  refine Calls.mono (toInt64S_c w38 _ _ row (stable_ints.below hrow B38) hlrow) ?_
  rintro e w39 ⟨uyrow, rfl, ryrow, bb39⟩
  have b39 : Below w38.heap.size w38 w39 := bb39
  have B39 : Below w.heap.size w w39 := B38.trans (b39.mono B38.size)
  have s39 : w38.heap.size ≤ w39.heap.size := b39.size
  replace rS0 := stable_rows.below rS0 b39
  replace rS1 := stable_rows.below rS1 b39
  replace rmG0 := stable_rows.below rmG0 b39
  replace rmG1 := stable_rows.below rmG1 b39
  replace ryX := stable_rows.below ryX b39
  replace rycuts := stable_rows.below rycuts b39
  replace q0X := (b39.cell (p := ⟨w.heap.size, 0, none⟩) (by show w.heap.size < w38.heap.size; omega)).trans q0X
  replace q1X := (b39.cell (p := ⟨w.heap.size, 1, none⟩) (by show w.heap.size < w38.heap.size; omega)).trans q1X
  replace q2X := (b39.cell (p := ⟨w.heap.size, 2, none⟩) (by show w.heap.size < w38.heap.size; omega)).trans q2X
  replace q3X := (b39.cell (p := ⟨w.heap.size, 3, none⟩) (by show w.heap.size < w38.heap.size; omega)).trans q3X
  replace q4X := (b39.cell (p := ⟨w.heap.size, 4, none⟩) (by show w.heap.size < w38.heap.size; omega)).trans q4X
  replace q5X := (b39.cell (p := ⟨w.heap.size, 5, none⟩) (by show w.heap.size < w38.heap.size; omega)).trans q5X
  replace S0R0 := (b39.cell (p := ⟨w8.heap.size, 0, none⟩) (by show w8.heap.size < w38.heap.size; omega)).trans S0R0
  replace S1R0 := (b39.cell (p := ⟨w8.heap.size, 1, none⟩) (by show w8.heap.size < w38.heap.size; omega)).trans S1R0
  replace S2R0 := (b39.cell (p := ⟨w8.heap.size, 2, none⟩) (by show w8.heap.size < w38.heap.size; omega)).trans S2R0
  replace S3R0 := (b39.cell (p := ⟨w8.heap.size, 3, none⟩) (by show w8.heap.size < w38.heap.size; omega)).trans S3R0
  replace S4R0 := (b39.cell (p := ⟨w8.heap.size, 4, none⟩) (by show w8.heap.size < w38.heap.size; omega)).trans S4R0
  replace S5R0 := (b39.cell (p := ⟨w8.heap.size, 5, none⟩) (by show w8.heap.size < w38.heap.size; omega)).trans S5R0
  replace G0R0 := (b39.cell (p := ⟨w15.heap.size, 0, none⟩) (by show w15.heap.size < w38.heap.size; omega)).trans G0R0
  replace G1R0 := (b39.cell (p := ⟨w15.heap.size, 1, none⟩) (by show w15.heap.size < w38.heap.size; omega)).trans G1R0
  replace G2R0 := (b39.cell (p := ⟨w15.heap.size, 2, none⟩) (by show w15.heap.size < w38.heap.size; omega)).trans G2R0
  replace G3R0 := (b39.cell (p := ⟨w15.heap.size, 3, none⟩) (by show w15.heap.size < w38.heap.size; omega)).trans G3R0
  replace G4R0 := (b39.cell (p := ⟨w15.heap.size, 4, none⟩) (by show w15.heap.size < w38.heap.size; omega)).trans G4R0
  replace G5R0 := (b39.cell (p := ⟨w15.heap.size, 5, none⟩) (by show w15.heap.size < w38.heap.size; omega)).trans G5R0
  go_wp2_with fail
  refine Calls.mono (toInt64S_c w39 _ _ key (stable_ints.below hkey B39) hlkey) ?_
  rintro e w40 ⟨uykey, rfl, rykey, bb40⟩
  have b40 : Below w39.heap.size w39 w40 := bb40
  have B40 : Below w.heap.size w w40 := B39.trans (b40.mono B39.size)
  have s40 : w39.heap.size ≤ w40.heap.size := b40.size
  replace rS0 := stable_rows.below rS0 b40
  replace rS1 := stable_rows.below rS1 b40
  replace rmG0 := stable_rows.below rmG0 b40
  replace rmG1 := stable_rows.below rmG1 b40
  replace ryX := stable_rows.below ryX b40
  replace rycuts := stable_rows.below rycuts b40
  replace ryrow := stable_ints.below ryrow b40
  replace q0X := (b40.cell (p := ⟨w.heap.size, 0, none⟩) (by show w.heap.size < w39.heap.size; omega)).trans q0X
  replace q1X := (b40.cell (p := ⟨w.heap.size, 1, none⟩) (by show w.heap.size < w39.heap.size; omega)).trans q1X
  replace q2X := (b40.cell (p := ⟨w.heap.size, 2, none⟩) (by show w.heap.size < w39.heap.size; omega)).trans q2X
  replace q3X := (b40.cell (p := ⟨w.heap.size, 3, none⟩) (by show w.heap.size < w39.heap.size; omega)).trans q3X
  replace q4X := (b40.cell (p := ⟨w.heap.size, 4, none⟩) (by show w.heap.size < w39.heap.size; omega)).trans q4X
  replace q5X := (b40.cell (p := ⟨w.heap.size, 5, none⟩) (by show w.heap.size < w39.heap.size; omega)).trans q5X
  replace S0R0 := (b40.cell (p := ⟨w8.heap.size, 0, none⟩) (by show w8.heap.size < w39.heap.size; omega)).trans S0R0
  replace S1R0 := (b40.cell (p := ⟨w8.heap.size, 1, none⟩) (by show w8.heap.size < w39.heap.size; omega)).trans S1R0
  replace S2R0 := (b40.cell (p := ⟨w8.heap.size, 2, none⟩) (by show w8.heap.size < w39.heap.size; omega)).trans S2R0
  replace S3R0 := (b40.cell (p := ⟨w8.heap.size, 3, none⟩) (by show w8.heap.size < w39.heap.size; omega)).trans S3R0
  replace S4R0 := (b40.cell (p := ⟨w8.heap.size, 4, none⟩) (by show w8.heap.size < w39.heap.size; omega)).trans S4R0
  replace S5R0 := (b40.cell (p := ⟨w8.heap.size, 5, none⟩) (by show w8.heap.size < w39.heap.size; omega)).trans S5R0
  replace G0R0 := (b40.cell (p := ⟨w15.heap.size, 0, none⟩) (by show w15.heap.size < w39.heap.size; omega)).trans G0R0
  replace G1R0 := (b40.cell (p := ⟨w15.heap.size, 1, none⟩) (by show w15.heap.size < w39.heap.size; omega)).trans G1R0
  replace G2R0 := (b40.cell (p := ⟨w15.heap.size, 2, none⟩) (by show w15.heap.size < w39.heap.size; omega)).trans G2R0
  replace G3R0 := (b40.cell (p := ⟨w15.heap.size, 3, none⟩) (by show w15.heap.size < w39.heap.size; omega)).trans G3R0
  replace G4R0 := (b40.cell (p := ⟨w15.heap.size, 4, none⟩) (by show w15.heap.size < w39.heap.size; omega)).trans G4R0
  replace G5R0 := (b40.cell (p := ⟨w15.heap.size, 5, none⟩) (by show w15.heap.size < w39.heap.size; omega)).trans G5R0
  go_wp2_with fail
  refine Calls.mono (CI.out w40 _ _ _ _ _ _ _ _ ryX rycuts ryrow rykey) ?_
  rintro e w41 ⟨rr41, rfl, ⟨H0, H1, mzH0, rfl, ⟨mlH0, mlH1⟩, rH0, rH1⟩, bb41⟩
  have b41 : Below w40.heap.size w40 w41 := bb41
  have B41 : Below w.heap.size w w41 := B40.trans (b41.mono B40.size)
  have s41 : w40.heap.size ≤ w41.heap.size := b41.size
  replace rS0 := stable_rows.below rS0 b41
  replace rS1 := stable_rows.below rS1 b41
  replace rmG0 := stable_rows.below rmG0 b41
  replace rmG1 := stable_rows.below rmG1 b41
  replace ryX := stable_rows.below ryX b41
  replace rycuts := stable_rows.below rycuts b41
  replace ryrow := stable_ints.below ryrow b41
  replace rykey := stable_ints.below rykey b41
  replace q0X := (b41.cell (p := ⟨w.heap.size, 0, none⟩) (by show w.heap.size < w40.heap.size; omega)).trans q0X
  replace q1X := (b41.cell (p := ⟨w.heap.size, 1, none⟩) (by show w.heap.size < w40.heap.size; omega)).trans q1X
  replace q2X := (b41.cell (p := ⟨w.heap.size, 2, none⟩) (by show w.heap.size < w40.heap.size; omega)).trans q2X
  replace q3X := (b41.cell (p := ⟨w.heap.size, 3, none⟩) (by show w.heap.size < w40.heap.size; omega)).trans q3X
  replace q4X := (b41.cell (p := ⟨w.heap.size, 4, none⟩) (by show w.heap.size < w40.heap.size; omega)).trans q4X
  replace q5X := (b41.cell (p := ⟨w.heap.size, 5, none⟩) (by show w.heap.size < w40.heap.size; omega)).trans q5X
  replace S0R0 := (b41.cell (p := ⟨w8.heap.size, 0, none⟩) (by show w8.heap.size < w40.heap.size; omega)).trans S0R0
  replace S1R0 := (b41.cell (p := ⟨w8.heap.size, 1, none⟩) (by show w8.heap.size < w40.heap.size; omega)).trans S1R0
  replace S2R0 := (b41.cell (p := ⟨w8.heap.size, 2, none⟩) (by show w8.heap.size < w40.heap.size; omega)).trans S2R0
  replace S3R0 := (b41.cell (p := ⟨w8.heap.size, 3, none⟩) (by show w8.heap.size < w40.heap.size; omega)).trans S3R0
  replace S4R0 := (b41.cell (p := ⟨w8.heap.size, 4, none⟩) (by show w8.heap.size < w40.heap.size; omega)).trans S4R0
  replace S5R0 := (b41.cell (p := ⟨w8.heap.size, 5, none⟩) (by show w8.heap.size < w40.heap.size; omega)).trans S5R0
  replace G0R0 := (b41.cell (p := ⟨w15.heap.size, 0, none⟩) (by show w15.heap.size < w40.heap.size; omega)).trans G0R0
  replace G1R0 := (b41.cell (p := ⟨w15.heap.size, 1, none⟩) (by show w15.heap.size < w40.heap.size; omega)).trans G1R0
  replace G2R0 := (b41.cell (p := ⟨w15.heap.size, 2, none⟩) (by show w15.heap.size < w40.heap.size; omega)).trans G2R0
  replace G3R0 := (b41.cell (p := ⟨w15.heap.size, 3, none⟩) (by show w15.heap.size < w40.heap.size; omega)).trans G3R0
  replace G4R0 := (b41.cell (p := ⟨w15.heap.size, 4, none⟩) (by show w15.heap.size < w40.heap.size; omega)).trans G4R0
  replace G5R0 := (b41.cell (p := ⟨w15.heap.size, 5, none⟩) (by show w15.heap.size < w40.heap.size; omega)).trans G5R0
  obtain ⟨aH0, nH0, kH0, rfl, -⟩ := SliceR.shape rH0
  have zl0 : w.heap.size < w41.heap.size := by omega
  have zm0 := Nat.ne_of_lt zl0; have zn0 := Nat.ne_of_gt zl0
  have zl1 : w15.heap.size < w41.heap.size := by omega
  have zm1 := Nat.ne_of_lt zl1; have zn1 := Nat.ne_of_gt zl1
  have zl2 : w8.heap.size < w41.heap.size := by omega
  have zm2 := Nat.ne_of_lt zl2; have zn2 := Nat.ne_of_gt zl2
  go_wp2_with fail
  clear zl0 zm0 zn0
  clear zl1 zm1 zn1
  clear zl2 zm2 zn2
  generalize hwb42 : World.alloc _ _ = w42
  have b42 : Below w41.heap.size w41 w42 := by rw [← hwb42]; exact (Below.refl _ _).alloc (Nat.le_refl _) _
  have s42 : w41.heap.size < w42.heap.size := by rw [← hwb42]; simp
  have H0R0 : w42.cell? ⟨w41.heap.size, 0, none⟩ = some (.int .i64 MR0.c) := by rw [← hwb42]; clear hwb42; go_simp
  have H1R0 : w42.cell? ⟨w41.heap.size, 1, none⟩ = some (.int .i64 MR0.d) := by rw [← hwb42]; clear hwb42; go_simp
  have H2R0 : w42.cell? ⟨w41.heap.size, 2, none⟩ = some (.int .i64 MR0.s) := by rw [← hwb42]; clear hwb42; go_simp
  have H3R0 : w42.cell? ⟨w41.heap.size, 3, none⟩ = some (.int .i64 MR0.m) := by rw [← hwb42]; clear hwb42; go_simp
  have H4R0 : w42.cell? ⟨w41.heap.size, 4, none⟩ = some (.int .i64 MR0.l) := by rw [← hwb42]; clear hwb42; go_simp
  have H5R0 : w42.cell? ⟨w41.heap.size, 5, none⟩ = some (.slice aH0 nH0 kH0) := by rw [← hwb42]; clear hwb42; go_simp
  clear hwb42
  have B42 : Below w.heap.size w w42 := B41.trans (b42.mono B41.size)
  replace rS0 := stable_rows.below rS0 b42
  replace rS1 := stable_rows.below rS1 b42
  replace rmG0 := stable_rows.below rmG0 b42
  replace rmG1 := stable_rows.below rmG1 b42
  replace ryX := stable_rows.below ryX b42
  replace rycuts := stable_rows.below rycuts b42
  replace ryrow := stable_ints.below ryrow b42
  replace rykey := stable_ints.below rykey b42
  replace rH0 := stable_rows.below rH0 b42
  replace rH1 := stable_rows.below rH1 b42
  replace q0X := (b42.cell (p := ⟨w.heap.size, 0, none⟩) (by show w.heap.size < w41.heap.size; omega)).trans q0X
  replace q1X := (b42.cell (p := ⟨w.heap.size, 1, none⟩) (by show w.heap.size < w41.heap.size; omega)).trans q1X
  replace q2X := (b42.cell (p := ⟨w.heap.size, 2, none⟩) (by show w.heap.size < w41.heap.size; omega)).trans q2X
  replace q3X := (b42.cell (p := ⟨w.heap.size, 3, none⟩) (by show w.heap.size < w41.heap.size; omega)).trans q3X
  replace q4X := (b42.cell (p := ⟨w.heap.size, 4, none⟩) (by show w.heap.size < w41.heap.size; omega)).trans q4X
  replace q5X := (b42.cell (p := ⟨w.heap.size, 5, none⟩) (by show w.heap.size < w41.heap.size; omega)).trans q5X
  replace S0R0 := (b42.cell (p := ⟨w8.heap.size, 0, none⟩) (by show w8.heap.size < w41.heap.size; omega)).trans S0R0
  replace S1R0 := (b42.cell (p := ⟨w8.heap.size, 1, none⟩) (by show w8.heap.size < w41.heap.size; omega)).trans S1R0
  replace S2R0 := (b42.cell (p := ⟨w8.heap.size, 2, none⟩) (by show w8.heap.size < w41.heap.size; omega)).trans S2R0
  replace S3R0 := (b42.cell (p := ⟨w8.heap.size, 3, none⟩) (by show w8.heap.size < w41.heap.size; omega)).trans S3R0
  replace S4R0 := (b42.cell (p := ⟨w8.heap.size, 4, none⟩) (by show w8.heap.size < w41.heap.size; omega)).trans S4R0
  replace S5R0 := (b42.cell (p := ⟨w8.heap.size, 5, none⟩) (by show w8.heap.size < w41.heap.size; omega)).trans S5R0
  replace G0R0 := (b42.cell (p := ⟨w15.heap.size, 0, none⟩) (by show w15.heap.size < w41.heap.size; omega)).trans G0R0
  replace G1R0 := (b42.cell (p := ⟨w15.heap.size, 1, none⟩) (by show w15.heap.size < w41.heap.size; omega)).trans G1R0
  replace G2R0 := (b42.cell (p := ⟨w15.heap.size, 2, none⟩) (by show w15.heap.size < w41.heap.size; omega)).trans G2R0
  replace G3R0 := (b42.cell (p := ⟨w15.heap.size, 3, none⟩) (by show w15.heap.size < w41.heap.size; omega)).trans G3R0
  replace G4R0 := (b42.cell (p := ⟨w15.heap.size, 4, none⟩) (by show w15.heap.size < w41.heap.size; omega)).trans G4R0
  replace G5R0 := (b42.cell (p := ⟨w15.heap.size, 5, none⟩) (by show w15.heap.size < w41.heap.size; omega)).trans G5R0
  clear ryX
  clear rycuts
  clear ryrow
  clear rykey
  refine Calls.mono (eqSystemA_c w42 _ _ _ _ _ res0 rH0 rS0) ?_
  rintro e w43 ⟨rv43, rfl, rfl, hd43⟩
  have b43 : Below w42.heap.size w42 w43 := hd43
  have B43 : Below w.heap.size w w43 := B42.trans (b43.mono B42.size)
  have s43 : w42.heap.size ≤ w43.heap.size := b43.size
  replace rS0 := stable_rows.below rS0 b43
  replace rS1 := stable_rows.below rS1 b43
  replace rmG0 := stable_rows.below rmG0 b43
  replace rmG1 := stable_rows.below rmG1 b43
  replace rH0 := stable_rows.below rH0 b43
  replace rH1 := stable_rows.below rH1 b43
  replace q0X := (b43.cell (p := ⟨w.heap.size, 0, none⟩) (by show w.heap.size < w42.heap.size; omega)).trans q0X
  replace q1X := (b43.cell (p := ⟨w.heap.size, 1, none⟩) (by show w.heap.size < w42.heap.size; omega)).trans q1X
  replace q2X := (b43.cell (p := ⟨w.heap.size, 2, none⟩) (by show w.heap.size < w42.heap.size; omega)).trans q2X
  replace q3X := (b43.cell (p := ⟨w.heap.size, 3, none⟩) (by show w.heap.size < w42.heap.size; omega)).trans q3X
  replace q4X := (b43.cell (p := ⟨w.heap.size, 4, none⟩) (by show w.heap.size < w42.heap.size; omega)).trans q4X
  replace q5X := (b43.cell (p := ⟨w.heap.size, 5, none⟩) (by show w.heap.size < w42.heap.size; omega)).trans q5X
  replace S0R0 := (b43.cell (p := ⟨w8.heap.size, 0, none⟩) (by show w8.heap.size < w42.heap.size; omega)).trans S0R0
  replace S1R0 := (b43.cell (p := ⟨w8.heap.size, 1, none⟩) (by show w8.heap.size < w42.heap.size; omega)).trans S1R0
  replace S2R0 := (b43.cell (p := ⟨w8.heap.size, 2, none⟩) (by show w8.heap.size < w42.heap.size; omega)).trans S2R0
  replace S3R0 := (b43.cell (p := ⟨w8.heap.size, 3, none⟩) (by show w8.heap.size < w42.heap.size; omega)).trans S3R0
  replace S4R0 := (b43.cell (p := ⟨w8.heap.size, 4, none⟩) (by show w8.heap.size < w42.heap.size; omega)).trans S4R0
  replace S5R0 := (b43.cell (p := ⟨w8.heap.size, 5, none⟩) (by show w8.heap.size < w42.heap.size; omega)).trans S5R0
  replace G0R0 := (b43.cell (p := ⟨w15.heap.size, 0, none⟩) (by show w15.heap.size < w42.heap.size; omega)).trans G0R0
  replace G1R0 := (b43.cell (p := ⟨w15.heap.size, 1, none⟩) (by show w15.heap.size < w42.heap.size; omega)).trans G1R0
  replace G2R0 := (b43.cell (p := ⟨w15.heap.size, 2, none⟩) (by show w15.heap.size < w42.heap.size; omega)).trans G2R0
  replace G3R0 := (b43.cell (p := ⟨w15.heap.size, 3, none⟩) (by show w15.heap.size < w42.heap.size; omega)).trans G3R0
  replace G4R0 := (b43.cell (p := ⟨w15.heap.size, 4, none⟩) (by show w15.heap.size < w42.heap.size; omega)).trans G4R0
  replace G5R0 := (b43.cell (p := ⟨w15.heap.size, 5, none⟩) (by show w15.heap.size < w42.heap.size; omega)).trans G5R0
  replace H0R0 := (b43.cell (p := ⟨w41.heap.size, 0, none⟩) (by show w41.heap.size < w42.heap.size; omega)).trans H0R0
  replace H1R0 := (b43.cell (p := ⟨w41.heap.size, 1, none⟩) (by show w41.heap.size < w42.heap.size; omega)).trans H1R0
  replace H2R0 := (b43.cell (p := ⟨w41.heap.size, 2, none⟩) (by show w41.heap.size < w42.heap.size; omega)).trans H2R0
  replace H3R0 := (b43.cell (p := ⟨w41.heap.size, 3, none⟩) (by show w41.heap.size < w42.heap.size; omega)).trans H3R0
  replace H4R0 := (b43.cell (p := ⟨w41.heap.size, 4, none⟩) (by show w41.heap.size < w42.heap.size; omega)).trans H4R0
  replace H5R0 := (b43.cell (p := ⟨w41.heap.size, 5, none⟩) (by show w41.heap.size < w42.heap.size; omega)).trans H5R0
  go_wp2_with fail
  refine Calls.mono (Calls.vq (eqInt64SS_c w43 _ _ _ _ res1 res1 rH1 rS1) (congrArg Value.bool (decide_eq_true rfl))) ?_
  rintro e w44 ⟨rfl, hd44⟩
  have b44 : Below w43.heap.size w43 w44 := hd44.below _
  have B44 : Below w.heap.size w w44 := B43.trans (b44.mono B43.size)
  have s44 : w43.heap.size ≤ w44.heap.size := b44.size
  replace rS0 := stable_rows.below rS0 b44
  replace rS1 := stable_rows.below rS1 b44
  replace rmG0 := stable_rows.below rmG0 b44
  replace rmG1 := stable_rows.below rmG1 b44
  replace rH0 := stable_rows.below rH0 b44
  replace rH1 := stable_rows.below rH1 b44
  replace q0X := (b44.cell (p := ⟨w.heap.size, 0, none⟩) (by show w.heap.size < w43.heap.size; omega)).trans q0X
  replace q1X := (b44.cell (p := ⟨w.heap.size, 1, none⟩) (by show w.heap.size < w43.heap.size; omega)).trans q1X
  replace q2X := (b44.cell (p := ⟨w.heap.size, 2, none⟩) (by show w.heap.size < w43.heap.size; omega)).trans q2X
  replace q3X := (b44.cell (p := ⟨w.heap.size, 3, none⟩) (by show w.heap.size < w43.heap.size; omega)).trans q3X
  replace q4X := (b44.cell (p := ⟨w.heap.size, 4, none⟩) (by show w.heap.size < w43.heap.size; omega)).trans q4X
  replace q5X := (b44.cell (p := ⟨w.heap.size, 5, none⟩) (by show w.heap.size < w43.heap.size; omega)).trans q5X
  replace S0R0 := (b44.cell (p := ⟨w8.heap.size, 0, none⟩) (by show w8.heap.size < w43.heap.size; omega)).trans S0R0
  replace S1R0 := (b44.cell (p := ⟨w8.heap.size, 1, none⟩) (by show w8.heap.size < w43.heap.size; omega)).trans S1R0
  replace S2R0 := (b44.cell (p := ⟨w8.heap.size, 2, none⟩) (by show w8.heap.size < w43.heap.size; omega)).trans S2R0
  replace S3R0 := (b44.cell (p := ⟨w8.heap.size, 3, none⟩) (by show w8.heap.size < w43.heap.size; omega)).trans S3R0
  replace S4R0 := (b44.cell (p := ⟨w8.heap.size, 4, none⟩) (by show w8.heap.size < w43.heap.size; omega)).trans S4R0
  replace S5R0 := (b44.cell (p := ⟨w8.heap.size, 5, none⟩) (by show w8.heap.size < w43.heap.size; omega)).trans S5R0
  replace G0R0 := (b44.cell (p := ⟨w15.heap.size, 0, none⟩) (by show w15.heap.size < w43.heap.size; omega)).trans G0R0
  replace G1R0 := (b44.cell (p := ⟨w15.heap.size, 1, none⟩) (by show w15.heap.size < w43.heap.size; omega)).trans G1R0
  replace G2R0 := (b44.cell (p := ⟨w15.heap.size, 2, none⟩) (by show w15.heap.size < w43.heap.size; omega)).trans G2R0
  replace G3R0 := (b44.cell (p := ⟨w15.heap.size, 3, none⟩) (by show w15.heap.size < w43.heap.size; omega)).trans G3R0
  replace G4R0 := (b44.cell (p := ⟨w15.heap.size, 4, none⟩) (by show w15.heap.size < w43.heap.size; omega)).trans G4R0
  replace G5R0 := (b44.cell (p := ⟨w15.heap.size, 5, none⟩) (by show w15.heap.size < w43.heap.size; omega)).trans G5R0
  replace H0R0 := (b44.cell (p := ⟨w41.heap.size, 0, none⟩) (by show w41.heap.size < w43.heap.size; omega)).trans H0R0
  replace H1R0 := (b44.cell (p := ⟨w41.heap.size, 1, none⟩) (by show w41.heap.size < w43.heap.size; omega)).trans H1R0
  replace H2R0 := (b44.cell (p := ⟨w41.heap.size, 2, none⟩) (by show w41.heap.size < w43.heap.size; omega)).trans H2R0
  replace H3R0 := (b44.cell (p := ⟨w41.heap.size, 3, none⟩) (by show w41.heap.size < w43.heap.size; omega)).trans H3R0
  replace H4R0 := (b44.cell (p := ⟨w41.heap.size, 4, none⟩) (by show w41.heap.size < w43.heap.size; omega)).trans H4R0
  replace H5R0 := (b44.cell (p := ⟨w41.heap.size, 5, none⟩) (by show w41.heap.size < w43.heap.size; omega)).trans H5R0
  go_wp2_with fail
  have hh45 := heldSystemA_c w44 MR0 _ _ _ _ rmG0 (by omega) (by have := Em1.out; omega)
  rw [← Em1.out] at hh45
  refine Calls.mono hh45 ?_
  rintro e w45 ⟨rv45, rfl, rfl, hd45⟩
  clear hh45
  have b45 : Below w44.heap.size w44 w45 := hd45
  have B45 : Below w.heap.size w w45 := B44.trans (b45.mono B44.size)
  have s45 : w44.heap.size ≤ w45.heap.size := b45.size
  replace rS0 := stable_rows.below rS0 b45
  replace rS1 := stable_rows.below rS1 b45
  replace rmG0 := stable_rows.below rmG0 b45
  replace rmG1 := stable_rows.below rmG1 b45
  replace rH0 := stable_rows.below rH0 b45
  replace rH1 := stable_rows.below rH1 b45
  replace q0X := (b45.cell (p := ⟨w.heap.size, 0, none⟩) (by show w.heap.size < w44.heap.size; omega)).trans q0X
  replace q1X := (b45.cell (p := ⟨w.heap.size, 1, none⟩) (by show w.heap.size < w44.heap.size; omega)).trans q1X
  replace q2X := (b45.cell (p := ⟨w.heap.size, 2, none⟩) (by show w.heap.size < w44.heap.size; omega)).trans q2X
  replace q3X := (b45.cell (p := ⟨w.heap.size, 3, none⟩) (by show w.heap.size < w44.heap.size; omega)).trans q3X
  replace q4X := (b45.cell (p := ⟨w.heap.size, 4, none⟩) (by show w.heap.size < w44.heap.size; omega)).trans q4X
  replace q5X := (b45.cell (p := ⟨w.heap.size, 5, none⟩) (by show w.heap.size < w44.heap.size; omega)).trans q5X
  replace S0R0 := (b45.cell (p := ⟨w8.heap.size, 0, none⟩) (by show w8.heap.size < w44.heap.size; omega)).trans S0R0
  replace S1R0 := (b45.cell (p := ⟨w8.heap.size, 1, none⟩) (by show w8.heap.size < w44.heap.size; omega)).trans S1R0
  replace S2R0 := (b45.cell (p := ⟨w8.heap.size, 2, none⟩) (by show w8.heap.size < w44.heap.size; omega)).trans S2R0
  replace S3R0 := (b45.cell (p := ⟨w8.heap.size, 3, none⟩) (by show w8.heap.size < w44.heap.size; omega)).trans S3R0
  replace S4R0 := (b45.cell (p := ⟨w8.heap.size, 4, none⟩) (by show w8.heap.size < w44.heap.size; omega)).trans S4R0
  replace S5R0 := (b45.cell (p := ⟨w8.heap.size, 5, none⟩) (by show w8.heap.size < w44.heap.size; omega)).trans S5R0
  replace G0R0 := (b45.cell (p := ⟨w15.heap.size, 0, none⟩) (by show w15.heap.size < w44.heap.size; omega)).trans G0R0
  replace G1R0 := (b45.cell (p := ⟨w15.heap.size, 1, none⟩) (by show w15.heap.size < w44.heap.size; omega)).trans G1R0
  replace G2R0 := (b45.cell (p := ⟨w15.heap.size, 2, none⟩) (by show w15.heap.size < w44.heap.size; omega)).trans G2R0
  replace G3R0 := (b45.cell (p := ⟨w15.heap.size, 3, none⟩) (by show w15.heap.size < w44.heap.size; omega)).trans G3R0
  replace G4R0 := (b45.cell (p := ⟨w15.heap.size, 4, none⟩) (by show w15.heap.size < w44.heap.size; omega)).trans G4R0
  replace G5R0 := (b45.cell (p := ⟨w15.heap.size, 5, none⟩) (by show w15.heap.size < w44.heap.size; omega)).trans G5R0
  replace H0R0 := (b45.cell (p := ⟨w41.heap.size, 0, none⟩) (by show w41.heap.size < w44.heap.size; omega)).trans H0R0
  replace H1R0 := (b45.cell (p := ⟨w41.heap.size, 1, none⟩) (by show w41.heap.size < w44.heap.size; omega)).trans H1R0
  replace H2R0 := (b45.cell (p := ⟨w41.heap.size, 2, none⟩) (by show w41.heap.size < w44.heap.size; omega)).trans H2R0
  replace H3R0 := (b45.cell (p := ⟨w41.heap.size, 3, none⟩) (by show w41.heap.size < w44.heap.size; omega)).trans H3R0
  replace H4R0 := (b45.cell (p := ⟨w41.heap.size, 4, none⟩) (by show w41.heap.size < w44.heap.size; omega)).trans H4R0
  replace H5R0 := (b45.cell (p := ⟨w41.heap.size, 5, none⟩) (by show w41.heap.size < w44.heap.size; omega)).trans H5R0
  go_wp2_with fail
  refine Calls.mono (Calls.vq (heldInt64SS_c w45 _ _ res1 _ rmG1 (by omega) (by have := Em2.out; omega)) (congrArg (Value.int .i64) Em2.out.symm)) ?_
  rintro e w46 ⟨rfl, hd46⟩
  have b46 : Below w45.heap.size w45 w46 := hd46.below _
  have B46 : Below w.heap.size w w46 := B45.trans (b46.mono B45.size)
  have s46 : w45.heap.size ≤ w46.heap.size := b46.size
  replace rS0 := stable_rows.below rS0 b46
  replace rS1 := stable_rows.below rS1 b46
  replace rmG0 := stable_rows.below rmG0 b46
  replace rmG1 := stable_rows.below rmG1 b46
  replace rH0 := stable_rows.below rH0 b46
  replace rH1 := stable_rows.below rH1 b46
  replace q0X := (b46.cell (p := ⟨w.heap.size, 0, none⟩) (by show w.heap.size < w45.heap.size; omega)).trans q0X
  replace q1X := (b46.cell (p := ⟨w.heap.size, 1, none⟩) (by show w.heap.size < w45.heap.size; omega)).trans q1X
  replace q2X := (b46.cell (p := ⟨w.heap.size, 2, none⟩) (by show w.heap.size < w45.heap.size; omega)).trans q2X
  replace q3X := (b46.cell (p := ⟨w.heap.size, 3, none⟩) (by show w.heap.size < w45.heap.size; omega)).trans q3X
  replace q4X := (b46.cell (p := ⟨w.heap.size, 4, none⟩) (by show w.heap.size < w45.heap.size; omega)).trans q4X
  replace q5X := (b46.cell (p := ⟨w.heap.size, 5, none⟩) (by show w.heap.size < w45.heap.size; omega)).trans q5X
  replace S0R0 := (b46.cell (p := ⟨w8.heap.size, 0, none⟩) (by show w8.heap.size < w45.heap.size; omega)).trans S0R0
  replace S1R0 := (b46.cell (p := ⟨w8.heap.size, 1, none⟩) (by show w8.heap.size < w45.heap.size; omega)).trans S1R0
  replace S2R0 := (b46.cell (p := ⟨w8.heap.size, 2, none⟩) (by show w8.heap.size < w45.heap.size; omega)).trans S2R0
  replace S3R0 := (b46.cell (p := ⟨w8.heap.size, 3, none⟩) (by show w8.heap.size < w45.heap.size; omega)).trans S3R0
  replace S4R0 := (b46.cell (p := ⟨w8.heap.size, 4, none⟩) (by show w8.heap.size < w45.heap.size; omega)).trans S4R0
  replace S5R0 := (b46.cell (p := ⟨w8.heap.size, 5, none⟩) (by show w8.heap.size < w45.heap.size; omega)).trans S5R0
  replace G0R0 := (b46.cell (p := ⟨w15.heap.size, 0, none⟩) (by show w15.heap.size < w45.heap.size; omega)).trans G0R0
  replace G1R0 := (b46.cell (p := ⟨w15.heap.size, 1, none⟩) (by show w15.heap.size < w45.heap.size; omega)).trans G1R0
  replace G2R0 := (b46.cell (p := ⟨w15.heap.size, 2, none⟩) (by show w15.heap.size < w45.heap.size; omega)).trans G2R0
  replace G3R0 := (b46.cell (p := ⟨w15.heap.size, 3, none⟩) (by show w15.heap.size < w45.heap.size; omega)).trans G3R0
  replace G4R0 := (b46.cell (p := ⟨w15.heap.size, 4, none⟩) (by show w15.heap.size < w45.heap.size; omega)).trans G4R0
  replace G5R0 := (b46.cell (p := ⟨w15.heap.size, 5, none⟩) (by show w15.heap.size < w45.heap.size; omega)).trans G5R0
  replace H0R0 := (b46.cell (p := ⟨w41.heap.size, 0, none⟩) (by show w41.heap.size < w45.heap.size; omega)).trans H0R0
  replace H1R0 := (b46.cell (p := ⟨w41.heap.size, 1, none⟩) (by show w41.heap.size < w45.heap.size; omega)).trans H1R0
  replace H2R0 := (b46.cell (p := ⟨w41.heap.size, 2, none⟩) (by show w41.heap.size < w45.heap.size; omega)).trans H2R0
  replace H3R0 := (b46.cell (p := ⟨w41.heap.size, 3, none⟩) (by show w41.heap.size < w45.heap.size; omega)).trans H3R0
  replace H4R0 := (b46.cell (p := ⟨w41.heap.size, 4, none⟩) (by show w41.heap.size < w45.heap.size; omega)).trans H4R0
  replace H5R0 := (b46.cell (p := ⟨w41.heap.size, 5, none⟩) (by show w41.heap.size < w45.heap.size; omega)).trans H5R0
  go_wp2_with fail
  go_ret
  exact ⟨_, rfl, rfl, B46⟩


/-! ### the row -/
theorem own : ownKnob Tryz.prog.godebug = none := by kernel_rfl
theorem laidOut : laidOutB Tryz.prog = true := by kernel_rfl
set_option maxRecDepth 100000 in
theorem lifted (os : Os) (started : os.Started) (H : Type) (enc : TypeId × Value → H) :
    ReturnsInHanded {} Tryz.checked os 3 .any (Rows.fnExactExtendSystemSpec.pre6 enc Tryz.prog Tryz.f3 Rows.fnExactExtendSystemRow.domain false) (Rows.fnExactExtendSystemSpec.post enc Tryz.prog Tryz.f3 false true false false) := by
  refine returnsInHanded_of_change (C := Tryz.checked) own started (by kernel_rfl) Tryz.func3
    (ChangeSpec.witness6 (enc := enc) (C := Tryz.checked) false ⟨#[], #[.agg #[.int .i64 0, .int .i64 0, .int .i64 0, .int .i64 0, .int .i64 0, .slice none 0 0], .slice none 0 0, .slice none 0 0, .slice none 0 0], []⟩ 8 (by kernel_rfl) (by kernel_rfl) (by kernel_rfl) (by kernel_rfl)) ?_
  intro W base args ds gs before hval0 hW hcnd _
  have hval : ∀ (j : Nat) t v, Tryz.f3.params[j]? = some t → args[j]? = some v → Value.okWide Tryz.prog W .any base t v := hval0
  have hW' := hW
  obtain ⟨p, q, hA0, hV, rfl, hfz, hnd⟩ := hW
  have hA : DataW.TrodAll enc Tryz.prog W 0 (fun _ => true) true Tryz.f3.params.toList args.toList ds p := hA0
  rw [Tryz.params3] at hA hval
  obtain ⟨v0, vs0, d0, ds0, p0, q0, hargs, rfl, rfl, h0, r0⟩ := trodAll_cons hA
  obtain ⟨v1, vs1, d1, ds1, p1, q1, rfl, rfl, rfl, h1, r1⟩ := trodAll_cons r0
  obtain ⟨v2, vs2, d2, ds2, p2, q2, rfl, rfl, rfl, h2, r2⟩ := trodAll_cons r1
  obtain ⟨v3, vs3, d3, ds3, p3, q3, rfl, rfl, rfl, h3, r3⟩ := trodAll_cons r2
  obtain ⟨rfl, rfl, rfl⟩ := trodAll_nil r3
  obtain rfl : args = #[v0, v1, v2, v3] := by cases args; simp_all
  obtain ⟨rfl, rfl⟩ := trodVars_none hV
  have k0 := h0
  have lt0 : ∀ x ∈ p0, x.block < W.heap.size := by obtain ⟨m, hm⟩ := k0; exact DataW.trod_lt m _ _ _ hm
  obtain ⟨M0, u0, y0, m0, rfl, hw0, hu0⟩ := open_sys Tryz.underlying26 Tryz.underlying23 (by kernel_rfl) (by kernel_rfl) (by kernel_rfl) rfl rfl ⟨rfl, by kernel_rfl, Tryz.underlying2⟩ ⟨rfl, by kernel_rfl, Tryz.underlying2⟩ ⟨rfl, by kernel_rfl, Tryz.underlying2⟩ ⟨rfl, by kernel_rfl, Tryz.underlying2⟩ ⟨rfl, by kernel_rfl, Tryz.underlying2⟩ (hval 0 26 v0 rfl rfl) h0
  obtain ⟨x0, b0⟩ := open_RowsR Tryz.underlying24 Tryz.underlying27 Tryz.underlying2 (by kernel_rfl) (by kernel_rfl) hu0
  have k1 := h1
  have lt1 : ∀ x ∈ p1, x.block < W.heap.size := by obtain ⟨m, hm⟩ := k1; exact DataW.trod_lt m _ _ _ hm
  obtain ⟨a1, len1, cap1, rfl⟩ := okWide_slice Tryz.underlying24 (hval 1 24 v1 rfl rfl)
  obtain ⟨x1, w1⟩ : ∃ xs, RowsR (.old W) W (.slice a1 len1 cap1) xs := by obtain ⟨fuel, hf⟩ := h1; exact open_RowsR Tryz.underlying24 Tryz.underlying27 Tryz.underlying2 (by kernel_rfl) (by kernel_rfl) hf
  have k2 := h2
  have lt2 : ∀ x ∈ p2, x.block < W.heap.size := by obtain ⟨m, hm⟩ := k2; exact DataW.trod_lt m _ _ _ hm
  obtain ⟨a2, len2, cap2, rfl⟩ := okWide_slice Tryz.underlying27 (hval 2 27 v2 rfl rfl)
  obtain ⟨x2, w2⟩ : ∃ xs, IntsR (.old W) W (.slice a2 len2 cap2) xs := by obtain ⟨fuel, hf⟩ := h2; exact open_IntsR Tryz.underlying27 Tryz.underlying2 (by kernel_rfl) hf
  have k3 := h3
  have lt3 : ∀ x ∈ p3, x.block < W.heap.size := by obtain ⟨m, hm⟩ := k3; exact DataW.trod_lt m _ _ _ hm
  obtain ⟨a3, len3, cap3, rfl⟩ := okWide_slice Tryz.underlying27 (hval 3 27 v3 rfl rfl)
  obtain ⟨x3, w3⟩ : ∃ xs, IntsR (.old W) W (.slice a3 len3 cap3) xs := by obtain ⟨fuel, hf⟩ := h3; exact open_IntsR Tryz.underlying27 Tryz.underlying2 (by kernel_rfl) hf
  clear hA0 hval0
  refine (walk W M0 _ x0 b0 _ x1 w1 _ x2 w2 _ x3 w3).mono fun e W' hret => ?_
  obtain ⟨r, rfl, rfl, bel⟩ := hret
  exact ⟨_, rfl, _, _, _, [], _, [], hW', trodAll_mk1 (shut_bool Tryz.underlying4 _), (trodAll_cons_mk (Below.trod laidOut (by kernel_rfl) (of_decide_eq_true (by kernel_rfl)) k0 bel lt0) (trodAll_cons_mk (Below.trod laidOut (by kernel_rfl) (of_decide_eq_true (by kernel_rfl)) k1 bel lt1) (trodAll_cons_mk (Below.trod laidOut (by kernel_rfl) (of_decide_eq_true (by kernel_rfl)) k2 bel lt2) (trodAll_cons_mk (Below.trod laidOut (by kernel_rfl) (of_decide_eq_true (by kernel_rfl)) k3 bel lt3) trodAll_mk0)))), rfl, bel.frame _, fun h => by cases h⟩

theorem over : Rows.fnExactExtendSystemRow.holds Tryz.pinned (OpenSpec.ofChange Rows.fnExactExtendSystemSpec) :=
  OpenClaim.holds_of_wide 3 Tryz.f3 rfl rfl rfl rfl rfl rfl rfl ⟨rfl, rfl, rfl, rfl, rfl⟩ rfl rfl rfl rfl rfl (by kernel_rfl) Tryz.func3 (by kernel_rfl)
    (of_decide_eq_true (by kernel_rfl)) (by unfold Func.isWrapper; first | (rw [if_pos (by decide +kernel)]; kernel_rfl) | (rw [if_neg (by decide +kernel)]; exact ⟨rfl, rfl⟩))
    (fun os started H enc _ => lifted os started H enc)

theorem proved : Rows.FnExactExtendSystemSaid := over


end fnExactExtendSystem
end Go.Proofs.YtgagjibjnaappaaGreat
