/- Proved: for every table and every list of keys, laws.FnExactOpenFor returns true and changes nothing that was there; no condition. -/
import Derived.Test.YtoaoonmeoeifgaaRows
import Derived.Test.YtoaoonmeoeifgaaUOpen
import Derived.Test.YtoaoonmeoeifgaaUOpenForImpl
import Derived.Test.YtoaoonmeoeifgaaULawRows
import Derived.Test.YtoaoonmeoeifgaaUMarkRows
namespace Go.Proofs.Ytoaoonmeoeifgaa
open Go.ChangeShapes Go.WideShapes Go.ChangeAt Go.RowKit
set_option linter.unusedVariables false
namespace fnExactOpenFor

theorem small (t : List (List Int)) (keys : List Int) : ((openFor t keys).1.length : Int) ≤ 1048576 := by
  cases hT : isTable t with
  | false => rw [openFor_no hT]; simp
  | true =>
    cases hR : rising keys t.length with
    | false => rw [openFor_bad hT hR]; simp
    | true =>
      rw [openFor_ok hT hR]
      have := upto_length (openAny t keys) (t.getD 0 []).length
      have := isTable_mem hT
      simp only; omega

set_option maxRecDepth 20000 in
set_option maxHeartbeats 2000000 in
theorem walk (w : World) (vtb : Value) (tb : List (List Int)) (htb : RowsR (.old w) w vtb tb) (vl : Value) (l : List Int) (hl : IntsR (.old w) w vl l) :
    Calls Try.prog 3 #[vtb, vl] w (Ret w fun r _ => r = .bool true) := by
  obtain ⟨atb, ntb, ctb, rfl, shtb, -⟩ := SliceR.shape htb
  clear shtb
  obtain ⟨al, nl, cl, rfl, shl, -⟩ := SliceR.shape hl
  have Hnl := Lib.hid shl; clear shl
  rcases Nat.lt_or_ge 1048576 nl with hll | hll
  · go_enter Try.func3, Try.ntmps3
    go_wp2_with fail
    go_ret
    exact ⟨_, rfl, rfl, Below.refl _ _⟩
  have hll : l.length ≤ 1048576 := by rw [← Hnl.out]; exact hll
  have cS : ∀ (wq : World) (ytb : Value) (ztb : Zone) (yl : Value) (zl : Zone) (gtb : RowsR ztb wq ytb tb) (gl : IntsR zl wq yl l), Calls Try.prog 16 #[ytb, yl] wq (Ret wq fun r w' => ∃ u0, r = .tuple #[u0, .int .i64 (openFor tb l).2] ∧ IntsR (.new wq w') w' u0 (openFor tb l).1) := fun wq ytb ztb yl zl gtb gl => (fun w u y t h v z l h' => OpenForSpec_c w u v y z t l h h') wq ytb ztb tb gtb yl zl l gl
  have cI : ∀ (wq : World) (ytb : Value) (ztb : Zone) (yl : Value) (zl : Zone) (gtb : RowsR ztb wq ytb tb) (gl : IntsR zl wq yl l), Calls Try.prog 19 #[ytb, yl] wq (Ret wq fun r w' => ∃ u0, r = .tuple #[u0, .int .i64 (openFor tb l).2] ∧ IntsR (.new wq w') w' u0 (openFor tb l).1) := fun wq ytb ztb yl zl gtb gl => (fun w u y t h v z l h' => OpenFor_c w u v y z t l h h') wq ytb ztb tb gtb yl zl l gl
  have LR0 : (((openFor tb l).1).length : Int) ≤ 1048576 := small tb l
  generalize (openFor tb l).1 = res0 at cS cI LR0
  generalize (openFor tb l).2 = res1 at cS cI LR0
  have CS := Lib.hid cS; have CI := Lib.hid cI; clear cS cI
  go_enter Try.func3, Try.ntmps3
  have sztb := szInt64SS_c w _ _ tb 1048576 htb (by omega) (by omega)
  go_wp2_with fail
  rcases Nat.lt_or_ge (1048576 : Int).toNat (bulk tb) with hbtb | hbtb
  · rw [szLeft_neg (by omega)] at sztb
    refine Calls.mono sztb ?_
    rintro e wx ⟨rfl, hdx⟩
    go_wp2_with fail
    go_ret
    exact ⟨_, rfl, rfl, hdx.below _⟩
  rw [szLeft_pos (by omega)] at sztb
  have lbtb : bulk tb ≤ 1048576 := by omega
  have lgtb : (0 : Int) ≤ 1048576 - (bulk tb : Int) := by omega
  have lhtb : 1048576 - (bulk tb : Int) ≤ 1048576 := by omega
  generalize (1048576 : Int) - (bulk tb : Int) = ltb at *
  refine Calls.mono sztb ?_
  rintro e w1 ⟨rfl, hd1⟩
  clear sztb
  have b1 : Below w.heap.size w w1 := hd1.below _
  have B1 : Below w.heap.size w w1 := b1
  have s1 : w.heap.size ≤ w1.heap.size := b1.size
  go_wp2_with fail
  refine Calls.mono (toInt64SS_c w1 _ _ tb (stable_rows.below htb B1) lbtb) ?_
  rintro e w2 ⟨ustb, rfl, rstb, bb2⟩
  have b2 : Below w1.heap.size w1 w2 := bb2
  have B2 : Below w.heap.size w w2 := B1.trans (b2.mono B1.size)
  have s2 : w1.heap.size ≤ w2.heap.size := b2.size
  go_wp2_with fail
  refine Calls.mono (toInt64S_c w2 _ _ l (stable_ints.below hl B2) hll) ?_
  rintro e w3 ⟨usl, rfl, rsl, bb3⟩
  have b3 : Below w2.heap.size w2 w3 := bb3
  have B3 : Below w.heap.size w w3 := B2.trans (b3.mono B2.size)
  have s3 : w2.heap.size ≤ w3.heap.size := b3.size
  replace rstb := stable_rows.below rstb b3
  go_wp2_with fail
  refine Calls.mono (CS.out w3 _ _ _ _ rstb rsl) ?_
  rintro e w4 ⟨rr4, rfl, ⟨S0, rfl, rS0⟩, bb4⟩
  have b4 : Below w3.heap.size w3 w4 := bb4
  have B4 : Below w.heap.size w w4 := B3.trans (b4.mono B3.size)
  have s4 : w3.heap.size ≤ w4.heap.size := b4.size
  replace rstb := stable_rows.below rstb b4
  replace rsl := stable_ints.below rsl b4
  clear rstb
  clear rsl
  go_wp2_with fail
  refine Calls.mono (toInt64SS_c w4 _ _ tb (stable_rows.below htb B4) lbtb) ?_
  rintro e w5 ⟨uxtb, rfl, rxtb, bb5⟩
  have b5 : Below w4.heap.size w4 w5 := bb5
  have B5 : Below w.heap.size w w5 := B4.trans (b5.mono B4.size)
  have s5 : w4.heap.size ≤ w5.heap.size := b5.size
  replace rS0 := stable_ints.below rS0 b5
  go_wp2_with fail
  refine Calls.mono (toInt64S_c w5 _ _ l (stable_ints.below hl B5) hll) ?_
  rintro e w6 ⟨uxl, rfl, rxl, bb6⟩
  have b6 : Below w5.heap.size w5 w6 := bb6
  have B6 : Below w.heap.size w w6 := B5.trans (b6.mono B5.size)
  have s6 : w5.heap.size ≤ w6.heap.size := b6.size
  replace rS0 := stable_ints.below rS0 b6
  replace rxtb := stable_rows.below rxtb b6
  go_wp2_with fail
  refine Calls.mono (CI.out w6 _ _ _ _ rxtb rxl) ?_
  rintro e w7 ⟨rr7, rfl, ⟨G0, rfl, rG0⟩, bb7⟩
  have b7 : Below w6.heap.size w6 w7 := bb7
  have B7 : Below w.heap.size w w7 := B6.trans (b7.mono B6.size)
  have s7 : w6.heap.size ≤ w7.heap.size := b7.size
  replace rS0 := stable_ints.below rS0 b7
  replace rxtb := stable_rows.below rxtb b7
  replace rxl := stable_ints.below rxl b7
  go_wp2_with fail
  refine Calls.mono (Calls.vq (eqInt64S_c w7 _ _ _ _ res0 res0 rG0 rS0) (congrArg Value.bool (decide_eq_true rfl))) ?_
  rintro e w8 ⟨rfl, hd8⟩
  have b8 : Below w7.heap.size w7 w8 := hd8.below _
  have B8 : Below w.heap.size w w8 := B7.trans (b8.mono B7.size)
  have s8 : w7.heap.size ≤ w8.heap.size := b8.size
  replace rS0 := stable_ints.below rS0 b8
  replace rxtb := stable_rows.below rxtb b8
  replace rxl := stable_ints.below rxl b8
  replace rG0 := stable_ints.below rG0 b8
  go_wp2_with fail
  refine Calls.mono (toInt64SS_c w8 _ _ tb (stable_rows.below htb B8) lbtb) ?_
  rintro e w9 ⟨uctb, rfl, rctb, bb9⟩
  have b9 : Below w8.heap.size w8 w9 := bb9
  have B9 : Below w.heap.size w w9 := B8.trans (b9.mono B8.size)
  have s9 : w8.heap.size ≤ w9.heap.size := b9.size
  replace rS0 := stable_ints.below rS0 b9
  replace rxtb := stable_rows.below rxtb b9
  replace rxl := stable_ints.below rxl b9
  replace rG0 := stable_ints.below rG0 b9
  go_wp2_with fail
  refine Calls.mono (Calls.vq (eqInt64SS_c w9 _ _ _ _ tb tb rxtb rctb) (congrArg Value.bool (decide_eq_true rfl))) ?_
  rintro e w10 ⟨rfl, hd10⟩
  have b10 : Below w9.heap.size w9 w10 := hd10.below _
  have B10 : Below w.heap.size w w10 := B9.trans (b10.mono B9.size)
  have s10 : w9.heap.size ≤ w10.heap.size := b10.size
  replace rS0 := stable_ints.below rS0 b10
  replace rxtb := stable_rows.below rxtb b10
  replace rxl := stable_ints.below rxl b10
  replace rG0 := stable_ints.below rG0 b10
  replace rctb := stable_rows.below rctb b10
  clear rctb
  go_wp2_with fail
  refine Calls.mono (toInt64S_c w10 _ _ l (stable_ints.below hl B10) hll) ?_
  rintro e w11 ⟨ucl, rfl, rcl, bb11⟩
  have b11 : Below w10.heap.size w10 w11 := bb11
  have B11 : Below w.heap.size w w11 := B10.trans (b11.mono B10.size)
  have s11 : w10.heap.size ≤ w11.heap.size := b11.size
  replace rS0 := stable_ints.below rS0 b11
  replace rxtb := stable_rows.below rxtb b11
  replace rxl := stable_ints.below rxl b11
  replace rG0 := stable_ints.below rG0 b11
  go_wp2_with fail
  refine Calls.mono (Calls.vq (eqInt64S_c w11 _ _ _ _ l l rxl rcl) (congrArg Value.bool (decide_eq_true rfl))) ?_
  rintro e w12 ⟨rfl, hd12⟩
  have b12 : Below w11.heap.size w11 w12 := hd12.below _
  have B12 : Below w.heap.size w w12 := B11.trans (b12.mono B11.size)
  have s12 : w11.heap.size ≤ w12.heap.size := b12.size
  replace rS0 := stable_ints.below rS0 b12
  replace rxtb := stable_rows.below rxtb b12
  replace rxl := stable_ints.below rxl b12
  replace rG0 := stable_ints.below rG0 b12
  replace rcl := stable_ints.below rcl b12
  clear rcl
  have oftb : offs tb tb.length ≤ 1048576 := by have := offs_all tb; omega
  go_wp2_with fail
  refine Calls.mono (markInt64SS_c w12 _ _ tb _ rxtb rfl (by omega) (by omega)) ?_
  rintro e w13 ⟨rfl, rmxtb, hw13⟩
  have hz13 : w13.heap.size = w12.heap.size := hw13.size
  have B13 : Below w.heap.size w w13 := B12.trans (hw13.below (by simp only [Zone.new]; omega))
  clear rxtb
  replace rS0 := stable_ints.within rS0 hw13 (fun k h1 h2 => by have q1 := h1.1; have q2 := h1.2; have q3 := h2.1; have q4 := h2.2; simp only [Zone.new] at q1 q2 q3 q4; omega)
  replace rxl := stable_ints.within rxl hw13 (fun k h1 h2 => by have q1 := h1.1; have q2 := h1.2; have q3 := h2.1; have q4 := h2.2; simp only [Zone.new] at q1 q2 q3 q4; omega)
  replace rG0 := stable_ints.within rG0 hw13 (fun k h1 h2 => by have q1 := h1.1; have q2 := h1.2; have q3 := h2.1; have q4 := h2.2; simp only [Zone.new] at q1 q2 q3 q4; omega)
  have s13 : w12.heap.size ≤ w13.heap.size := by omega
  clear hw13
  clear rmxtb
  have ck1 : (0 : Int) ≤ 1 + (offs tb tb.length : Int) ∧ 1 + (offs tb tb.length : Int) ≤ 1048577 := by omega
  obtain ⟨ck1a, ck1b⟩ := ck1
  generalize (1 : Int) + (offs tb tb.length : Int) = k1 at *
  go_wp2_with fail
  refine Calls.mono (markInt64S_c w13 _ _ l _ rxl rfl (by omega) (by omega)) ?_
  rintro e w14 ⟨rfl, rmxl, hw14⟩
  have hz14 : w14.heap.size = w13.heap.size := hw14.size
  have B14 : Below w.heap.size w w14 := B13.trans (hw14.below (by simp only [Zone.new]; omega))
  clear rxl
  replace rS0 := stable_ints.within rS0 hw14 (fun k h1 h2 => by have q1 := h1.1; have q2 := h1.2; have q3 := h2.1; have q4 := h2.2; simp only [Zone.new] at q1 q2 q3 q4; omega)
  replace rG0 := stable_ints.within rG0 hw14 (fun k h1 h2 => by have q1 := h1.1; have q2 := h1.2; have q3 := h2.1; have q4 := h2.2; simp only [Zone.new] at q1 q2 q3 q4; omega)
  have s14 : w13.heap.size ≤ w14.heap.size := by omega
  clear hw14
  clear rmxl
  have ck2 : (0 : Int) ≤ k1 + (l.length : Int) ∧ k1 + (l.length : Int) ≤ 2097153 := by omega
  obtain ⟨ck2a, ck2b⟩ := ck2
  generalize (k1 : Int) + (l.length : Int) = k2 at *
  go_wp2_with fail
  refine Calls.mono (Calls.vq (eqInt64S_c w14 _ _ _ _ res0 res0 rG0 rS0) (congrArg Value.bool (decide_eq_true rfl))) ?_
  rintro e w15 ⟨rfl, hd15⟩
  have b15 : Below w14.heap.size w14 w15 := hd15.below _
  have B15 : Below w.heap.size w w15 := B14.trans (b15.mono B14.size)
  have s15 : w14.heap.size ≤ w15.heap.size := b15.size
  replace rS0 := stable_ints.below rS0 b15
  replace rG0 := stable_ints.below rG0 b15
  go_wp2_with fail
  refine Calls.mono (markInt64S_c w15 _ _ res0 _ rG0 rfl (by omega) (by omega)) ?_
  rintro e w16 ⟨rfl, rmG0, hw16⟩
  have hz16 : w16.heap.size = w15.heap.size := hw16.size
  have B16 : Below w.heap.size w w16 := B15.trans (hw16.below (by simp only [Zone.new]; omega))
  clear rG0
  replace rS0 := stable_ints.within rS0 hw16 (fun k h1 h2 => by have q1 := h1.1; have q2 := h1.2; have q3 := h2.1; have q4 := h2.2; simp only [Zone.new] at q1 q2 q3 q4; omega)
  have s16 : w15.heap.size ≤ w16.heap.size := by omega
  clear hw16
  obtain ⟨m1, em1⟩ : ∃ t : Int, t = 1 + (res0.length : Int) := ⟨_, rfl⟩
  rw [← em1]
  have gm1a : 0 ≤ m1 ∧ m1 ≤ 1048577 := by omega
  have Em1 := Lib.hid em1; clear em1; obtain ⟨gm1a, gm1b⟩ := gm1a
  go_wp2_with fail
  refine Calls.mono (Calls.vq (heldInt64S_c w16 _ _ res0.length _ rmG0 (by omega) (by have := Em1.out; omega)) (congrArg (Value.int .i64) Em1.out.symm)) ?_
  rintro e w17 ⟨rfl, hd17⟩
  have b17 : Below w16.heap.size w16 w17 := hd17.below _
  have B17 : Below w.heap.size w w17 := B16.trans (b17.mono B16.size)
  have s17 : w16.heap.size ≤ w17.heap.size := b17.size
  replace rS0 := stable_ints.below rS0 b17
  replace rmG0 := stable_ints.below rmG0 b17
  go_wp2_with fail
  refine Calls.mono (toInt64SS_c w17 _ _ tb (stable_rows.below htb B17) lbtb) ?_
  rintro e w18 ⟨uytb, rfl, rytb, bb18⟩
  have b18 : Below w17.heap.size w17 w18 := bb18
  have B18 : Below w.heap.size w w18 := B17.trans (b18.mono B17.size)
  have s18 : w17.heap.size ≤ w18.heap.size := b18.size
  replace rS0 := stable_ints.below rS0 b18
  replace rmG0 := stable_ints.below rmG0 b18
  go_wp2_with fail
  refine Calls.mono (toInt64S_c w18 _ _ l (stable_ints.below hl B18) hll) ?_
  rintro e w19 ⟨uyl, rfl, ryl, bb19⟩
  have b19 : Below w18.heap.size w18 w19 := bb19
  have B19 : Below w.heap.size w w19 := B18.trans (b19.mono B18.size)
  have s19 : w18.heap.size ≤ w19.heap.size := b19.size
  replace rS0 := stable_ints.below rS0 b19
  replace rmG0 := stable_ints.below rmG0 b19
  replace rytb := stable_rows.below rytb b19
  go_wp2_with fail
  refine Calls.mono (CI.out w19 _ _ _ _ rytb ryl) ?_
  rintro e w20 ⟨rr20, rfl, ⟨H0, rfl, rH0⟩, bb20⟩
  have b20 : Below w19.heap.size w19 w20 := bb20
  have B20 : Below w.heap.size w w20 := B19.trans (b20.mono B19.size)
  have s20 : w19.heap.size ≤ w20.heap.size := b20.size
  replace rS0 := stable_ints.below rS0 b20
  replace rmG0 := stable_ints.below rmG0 b20
  replace rytb := stable_rows.below rytb b20
  replace ryl := stable_ints.below ryl b20
  clear rytb
  clear ryl
  go_wp2_with fail
  refine Calls.mono (Calls.vq (eqInt64S_c w20 _ _ _ _ res0 res0 rH0 rS0) (congrArg Value.bool (decide_eq_true rfl))) ?_
  rintro e w21 ⟨rfl, hd21⟩
  have b21 : Below w20.heap.size w20 w21 := hd21.below _
  have B21 : Below w.heap.size w w21 := B20.trans (b21.mono B20.size)
  have s21 : w20.heap.size ≤ w21.heap.size := b21.size
  replace rS0 := stable_ints.below rS0 b21
  replace rmG0 := stable_ints.below rmG0 b21
  replace rH0 := stable_ints.below rH0 b21
  go_wp2_with fail
  refine Calls.mono (Calls.vq (heldInt64S_c w21 _ _ res0.length _ rmG0 (by omega) (by have := Em1.out; omega)) (congrArg (Value.int .i64) Em1.out.symm)) ?_
  rintro e w22 ⟨rfl, hd22⟩
  have b22 : Below w21.heap.size w21 w22 := hd22.below _
  have B22 : Below w.heap.size w w22 := B21.trans (b22.mono B21.size)
  have s22 : w21.heap.size ≤ w22.heap.size := b22.size
  replace rS0 := stable_ints.below rS0 b22
  replace rmG0 := stable_ints.below rmG0 b22
  replace rH0 := stable_ints.below rH0 b22
  go_wp2_with fail
  go_ret
  exact ⟨_, rfl, rfl, B22⟩


/-! ### the row -/
theorem own : ownKnob Try.prog.godebug = none := by kernel_rfl
theorem laidOut : laidOutB Try.prog = true := by kernel_rfl
set_option maxRecDepth 100000 in
theorem lifted (os : Os) (started : os.Started) (H : Type) (enc : TypeId × Value → H) :
    ReturnsInHanded {} Try.checked os 3 .any (Rows.fnExactOpenForSpec.pre6 enc Try.prog Try.f3 Rows.fnExactOpenForRow.domain false) (Rows.fnExactOpenForSpec.post enc Try.prog Try.f3 false true false false) := by
  refine returnsInHanded_of_change (C := Try.checked) own started (by kernel_rfl) Try.func3
    (ChangeSpec.witness6 (enc := enc) (C := Try.checked) false ⟨#[], #[.slice none 0 0, .slice none 0 0], []⟩ 8 (by kernel_rfl) (by kernel_rfl) (by kernel_rfl) (by kernel_rfl)) ?_
  intro W base args ds gs before hval0 hW hcnd _
  have hval : ∀ (j : Nat) t v, Try.f3.params[j]? = some t → args[j]? = some v → Value.okWide Try.prog W .any base t v := hval0
  have hW' := hW
  obtain ⟨p, q, hA0, hV, rfl, hfz, hnd⟩ := hW
  have hA : DataW.TrodAll enc Try.prog W 0 (fun _ => true) true Try.f3.params.toList args.toList ds p := hA0
  rw [Try.params3] at hA hval
  obtain ⟨v0, vs0, d0, ds0, p0, q0, hargs, rfl, rfl, h0, r0⟩ := trodAll_cons hA
  obtain ⟨v1, vs1, d1, ds1, p1, q1, rfl, rfl, rfl, h1, r1⟩ := trodAll_cons r0
  obtain ⟨rfl, rfl, rfl⟩ := trodAll_nil r1
  obtain rfl : args = #[v0, v1] := by cases args; simp_all
  obtain ⟨rfl, rfl⟩ := trodVars_none hV
  have k0 := h0
  have lt0 : ∀ x ∈ p0, x.block < W.heap.size := by obtain ⟨m, hm⟩ := k0; exact DataW.trod_lt m _ _ _ hm
  obtain ⟨a0, len0, cap0, rfl⟩ := okWide_slice Try.underlying22 (hval 0 22 v0 rfl rfl)
  obtain ⟨x0, w0⟩ : ∃ xs, RowsR (.old W) W (.slice a0 len0 cap0) xs := by obtain ⟨fuel, hf⟩ := h0; exact open_RowsR Try.underlying22 Try.underlying23 Try.underlying2 (by kernel_rfl) (by kernel_rfl) hf
  have k1 := h1
  have lt1 : ∀ x ∈ p1, x.block < W.heap.size := by obtain ⟨m, hm⟩ := k1; exact DataW.trod_lt m _ _ _ hm
  obtain ⟨a1, len1, cap1, rfl⟩ := okWide_slice Try.underlying23 (hval 1 23 v1 rfl rfl)
  obtain ⟨x1, w1⟩ : ∃ xs, IntsR (.old W) W (.slice a1 len1 cap1) xs := by obtain ⟨fuel, hf⟩ := h1; exact open_IntsR Try.underlying23 Try.underlying2 (by kernel_rfl) hf
  clear hA0 hval0
  refine (walk W _ x0 w0 _ x1 w1).mono fun e W' hret => ?_
  obtain ⟨r, rfl, rfl, bel⟩ := hret
  exact ⟨_, rfl, _, _, _, [], _, [], hW', trodAll_mk1 (shut_bool Try.underlying4 _), (trodAll_cons_mk (Below.trod laidOut (by kernel_rfl) (of_decide_eq_true (by kernel_rfl)) k0 bel lt0) (trodAll_cons_mk (Below.trod laidOut (by kernel_rfl) (of_decide_eq_true (by kernel_rfl)) k1 bel lt1) trodAll_mk0)), rfl, bel.frame _, fun h => by cases h⟩

theorem over : Rows.fnExactOpenForRow.holds Try.pinned (OpenSpec.ofChange Rows.fnExactOpenForSpec) :=
  OpenClaim.holds_of_wide 3 Try.f3 rfl rfl rfl rfl rfl rfl rfl ⟨rfl, rfl, rfl, rfl, rfl⟩ rfl rfl rfl rfl rfl (by kernel_rfl) Try.func3 (by kernel_rfl)
    (of_decide_eq_true (by kernel_rfl)) (by unfold Func.isWrapper; first | (rw [if_pos (by decide +kernel)]; kernel_rfl) | (rw [if_neg (by decide +kernel)]; exact ⟨rfl, rfl⟩))
    (fun os started H enc _ => lifted os started H enc)

theorem proved : Rows.FnExactOpenForSaid := over


end fnExactOpenFor
end Go.Proofs.Ytoaoonmeoeifgaa
