/- Proved: for every n, every list of lists and every list, laws.FnExactIsMinimal returns true and changes nothing that was there; no condition. -/
import Derived.Test.YtoaoonmeoeifgaaRows
import Derived.Test.YtoaoonmeoeifgaaUOpen
import Derived.Test.YtoaoonmeoeifgaaUMinimal
import Derived.Test.YtoaoonmeoeifgaaULawRows
namespace Go.Proofs.Ytoaoonmeoeifgaa
open Go.ChangeShapes Go.WideShapes Go.ChangeAt Go.RowKit
set_option linter.unusedVariables false
namespace fnExactIsMinimal

set_option maxRecDepth 20000 in
set_option maxHeartbeats 2000000 in
theorem walk (w : World) (n : Int) (hn : I64 n) (vxss : Value) (xss : List (List Int)) (hxss : RowsR (.old w) w vxss xss) (vl : Value) (l : List Int) (hl : IntsR (.old w) w vl l) :
    Calls Try.prog 4 #[.int .i64 n, vxss, vl] w (Ret w fun r _ => r = .bool true) := by
  obtain ⟨axss, nxss, cxss, rfl, shxss, -⟩ := SliceR.shape hxss
  clear shxss
  obtain ⟨al, nl, cl, rfl, shl, -⟩ := SliceR.shape hl
  have Hnl := Lib.hid shl; clear shl
  rcases Nat.lt_or_ge 1048576 nl with hll | hll
  · go_enter Try.func4, Try.ntmps4
    go_wp2_with fail
    go_ret
    exact ⟨_, rfl, rfl, Below.refl _ _⟩
  have hll : l.length ≤ 1048576 := by rw [← Hnl.out]; exact hll
  have cS : ∀ (wq : World) (yxss : Value) (zxss : Zone) (yl : Value) (zl : Zone) (gxss : RowsR zxss wq yxss xss) (gl : IntsR zl wq yl l), Calls Try.prog 25 #[.int .i64 n, yxss, yl] wq (Ret wq fun r _ => r = .tuple #[.bool (isMinimalR n xss l).1, .int .i64 (isMinimalR n xss l).2]) := fun wq yxss zxss yl zl gxss gl => (fun w n hn u y xss h v z l h' => IsMinimalSpec_c w u v y z xss l n hn h h') wq n hn yxss zxss xss gxss yl zl l gl
  have cI : ∀ (wq : World) (yxss : Value) (zxss : Zone) (yl : Value) (zl : Zone) (gxss : RowsR zxss wq yxss xss) (gl : IntsR zl wq yl l), Calls Try.prog 26 #[.int .i64 n, yxss, yl] wq (Ret wq fun r _ => r = .tuple #[.bool (isMinimalR n xss l).1, .int .i64 (isMinimalR n xss l).2]) := fun wq yxss zxss yl zl gxss gl => (fun w n hn u y xss h v z l h' => IsMinimal_c w u v y z xss l n hn h h') wq n hn yxss zxss xss gxss yl zl l gl
  generalize (isMinimalR n xss l).1 = res0 at cS cI
  generalize (isMinimalR n xss l).2 = res1 at cS cI
  have CS := Lib.hid cS; have CI := Lib.hid cI; clear cS cI
  go_enter Try.func4, Try.ntmps4
  have szxss := szInt64SS_c w _ _ xss 1048576 hxss (by omega) (by omega)
  go_wp2_with fail
  rcases Nat.lt_or_ge (1048576 : Int).toNat (bulk xss) with hbxss | hbxss
  · rw [szLeft_neg (by omega)] at szxss
    refine Calls.mono szxss ?_
    rintro e wx ⟨rfl, hdx⟩
    go_wp2_with fail
    go_ret
    exact ⟨_, rfl, rfl, hdx.below _⟩
  rw [szLeft_pos (by omega)] at szxss
  have lbxss : bulk xss ≤ 1048576 := by omega
  have lgxss : (0 : Int) ≤ 1048576 - (bulk xss : Int) := by omega
  have lhxss : 1048576 - (bulk xss : Int) ≤ 1048576 := by omega
  generalize (1048576 : Int) - (bulk xss : Int) = lxss at *
  refine Calls.mono szxss ?_
  rintro e w1 ⟨rfl, hd1⟩
  clear szxss
  have b1 : Below w.heap.size w w1 := hd1.below _
  have B1 : Below w.heap.size w w1 := b1
  have s1 : w.heap.size ≤ w1.heap.size := b1.size
  go_wp2_with fail
  refine Calls.mono (toInt64SS_c w1 _ _ xss (stable_rows.below hxss B1) lbxss) ?_
  rintro e w2 ⟨usxss, rfl, rsxss, bb2⟩
  have b2 : Below w1.heap.size w1 w2 := bb2
  have B2 : Below w.heap.size w w2 := B1.trans (b2.mono B1.size)
  have s2 : w1.heap.size ≤ w2.heap.size := b2.size
  go_wp2_with fail
  refine Calls.mono (toInt64S_c w2 _ _ l (stable_ints.below hl B2) hll) ?_
  rintro e w3 ⟨usl, rfl, rsl, bb3⟩
  have b3 : Below w2.heap.size w2 w3 := bb3
  have B3 : Below w.heap.size w w3 := B2.trans (b3.mono B2.size)
  have s3 : w2.heap.size ≤ w3.heap.size := b3.size
  replace rsxss := stable_rows.below rsxss b3
  go_wp2_with fail
  refine Calls.mono (CS.out w3 _ _ _ _ rsxss rsl) ?_
  rintro e w4 ⟨rr4, rfl, rfl, bb4⟩
  have b4 : Below w3.heap.size w3 w4 := bb4
  have B4 : Below w.heap.size w w4 := B3.trans (b4.mono B3.size)
  have s4 : w3.heap.size ≤ w4.heap.size := b4.size
  replace rsxss := stable_rows.below rsxss b4
  replace rsl := stable_ints.below rsl b4
  clear rsxss
  clear rsl
  go_wp2_with fail
  refine Calls.mono (toInt64SS_c w4 _ _ xss (stable_rows.below hxss B4) lbxss) ?_
  rintro e w5 ⟨uxxss, rfl, rxxss, bb5⟩
  have b5 : Below w4.heap.size w4 w5 := bb5
  have B5 : Below w.heap.size w w5 := B4.trans (b5.mono B4.size)
  have s5 : w4.heap.size ≤ w5.heap.size := b5.size
  go_wp2_with fail
  refine Calls.mono (toInt64S_c w5 _ _ l (stable_ints.below hl B5) hll) ?_
  rintro e w6 ⟨uxl, rfl, rxl, bb6⟩
  have b6 : Below w5.heap.size w5 w6 := bb6
  have B6 : Below w.heap.size w w6 := B5.trans (b6.mono B5.size)
  have s6 : w5.heap.size ≤ w6.heap.size := b6.size
  replace rxxss := stable_rows.below rxxss b6
  go_wp2_with fail
  refine Calls.mono (CI.out w6 _ _ _ _ rxxss rxl) ?_
  rintro e w7 ⟨rr7, rfl, rfl, bb7⟩
  have b7 : Below w6.heap.size w6 w7 := bb7
  have B7 : Below w.heap.size w w7 := B6.trans (b7.mono B6.size)
  have s7 : w6.heap.size ≤ w7.heap.size := b7.size
  replace rxxss := stable_rows.below rxxss b7
  replace rxl := stable_ints.below rxl b7
  go_wp2_with fail
  refine Calls.mono (toInt64SS_c w7 _ _ xss (stable_rows.below hxss B7) lbxss) ?_
  rintro e w8 ⟨ucxss, rfl, rcxss, bb8⟩
  have b8 : Below w7.heap.size w7 w8 := bb8
  have B8 : Below w.heap.size w w8 := B7.trans (b8.mono B7.size)
  have s8 : w7.heap.size ≤ w8.heap.size := b8.size
  replace rxxss := stable_rows.below rxxss b8
  replace rxl := stable_ints.below rxl b8
  go_wp2_with fail
  refine Calls.mono (Calls.vq (eqInt64SS_c w8 _ _ _ _ xss xss rxxss rcxss) (congrArg Value.bool (decide_eq_true rfl))) ?_
  rintro e w9 ⟨rfl, hd9⟩
  have b9 : Below w8.heap.size w8 w9 := hd9.below _
  have B9 : Below w.heap.size w w9 := B8.trans (b9.mono B8.size)
  have s9 : w8.heap.size ≤ w9.heap.size := b9.size
  replace rxxss := stable_rows.below rxxss b9
  replace rxl := stable_ints.below rxl b9
  replace rcxss := stable_rows.below rcxss b9
  clear rcxss
  go_wp2_with fail
  refine Calls.mono (toInt64S_c w9 _ _ l (stable_ints.below hl B9) hll) ?_
  rintro e w10 ⟨ucl, rfl, rcl, bb10⟩
  have b10 : Below w9.heap.size w9 w10 := bb10
  have B10 : Below w.heap.size w w10 := B9.trans (b10.mono B9.size)
  have s10 : w9.heap.size ≤ w10.heap.size := b10.size
  replace rxxss := stable_rows.below rxxss b10
  replace rxl := stable_ints.below rxl b10
  go_wp2_with fail
  refine Calls.mono (Calls.vq (eqInt64S_c w10 _ _ _ _ l l rxl rcl) (congrArg Value.bool (decide_eq_true rfl))) ?_
  rintro e w11 ⟨rfl, hd11⟩
  have b11 : Below w10.heap.size w10 w11 := hd11.below _
  have B11 : Below w.heap.size w w11 := B10.trans (b11.mono B10.size)
  have s11 : w10.heap.size ≤ w11.heap.size := b11.size
  replace rxxss := stable_rows.below rxxss b11
  replace rxl := stable_ints.below rxl b11
  replace rcl := stable_ints.below rcl b11
  clear rcl
  go_wp2_with fail
  go_ret
  exact ⟨_, rfl, rfl, B11⟩


/-! ### the row -/
theorem own : ownKnob Try.prog.godebug = none := by kernel_rfl
theorem laidOut : laidOutB Try.prog = true := by kernel_rfl
set_option maxRecDepth 100000 in
theorem lifted (os : Os) (started : os.Started) (H : Type) (enc : TypeId × Value → H) :
    ReturnsInHanded {} Try.checked os 4 .any (Rows.fnExactIsMinimalSpec.pre6 enc Try.prog Try.f4 Rows.fnExactIsMinimalRow.domain false) (Rows.fnExactIsMinimalSpec.post enc Try.prog Try.f4 false true false false) := by
  refine returnsInHanded_of_change (C := Try.checked) own started (by kernel_rfl) Try.func4
    (ChangeSpec.witness6 (enc := enc) (C := Try.checked) false ⟨#[], #[.int .i64 0, .slice none 0 0, .slice none 0 0], []⟩ 8 (by kernel_rfl) (by kernel_rfl) (by kernel_rfl) (by kernel_rfl)) ?_
  intro W base args ds gs before hval0 hW hcnd _
  have hval : ∀ (j : Nat) t v, Try.f4.params[j]? = some t → args[j]? = some v → Value.okWide Try.prog W .any base t v := hval0
  have hW' := hW
  obtain ⟨p, q, hA0, hV, rfl, hfz, hnd⟩ := hW
  have hA : DataW.TrodAll enc Try.prog W 0 (fun _ => true) true Try.f4.params.toList args.toList ds p := hA0
  rw [Try.params4] at hA hval
  obtain ⟨v0, vs0, d0, ds0, p0, q0, hargs, rfl, rfl, h0, r0⟩ := trodAll_cons hA
  obtain ⟨v1, vs1, d1, ds1, p1, q1, rfl, rfl, rfl, h1, r1⟩ := trodAll_cons r0
  obtain ⟨v2, vs2, d2, ds2, p2, q2, rfl, rfl, rfl, h2, r2⟩ := trodAll_cons r1
  obtain ⟨rfl, rfl, rfl⟩ := trodAll_nil r2
  obtain rfl : args = #[v0, v1, v2] := by cases args; simp_all
  obtain ⟨rfl, rfl⟩ := trodVars_none hV
  have k0 := h0
  have lt0 : ∀ x ∈ p0, x.block < W.heap.size := by obtain ⟨m, hm⟩ := k0; exact DataW.trod_lt m _ _ _ hm
  obtain ⟨a0, rfl, -, -, g0⟩ := open_int Try.underlying2 (hval 0 2 v0 rfl rfl) h0
  have w0 := wf_i64 g0
  have k1 := h1
  have lt1 : ∀ x ∈ p1, x.block < W.heap.size := by obtain ⟨m, hm⟩ := k1; exact DataW.trod_lt m _ _ _ hm
  obtain ⟨a1, len1, cap1, rfl⟩ := okWide_slice Try.underlying22 (hval 1 22 v1 rfl rfl)
  obtain ⟨x1, w1⟩ : ∃ xs, RowsR (.old W) W (.slice a1 len1 cap1) xs := by obtain ⟨fuel, hf⟩ := h1; exact open_RowsR Try.underlying22 Try.underlying23 Try.underlying2 (by kernel_rfl) (by kernel_rfl) hf
  have k2 := h2
  have lt2 : ∀ x ∈ p2, x.block < W.heap.size := by obtain ⟨m, hm⟩ := k2; exact DataW.trod_lt m _ _ _ hm
  obtain ⟨a2, len2, cap2, rfl⟩ := okWide_slice Try.underlying23 (hval 2 23 v2 rfl rfl)
  obtain ⟨x2, w2⟩ : ∃ xs, IntsR (.old W) W (.slice a2 len2 cap2) xs := by obtain ⟨fuel, hf⟩ := h2; exact open_IntsR Try.underlying23 Try.underlying2 (by kernel_rfl) hf
  clear hA0 hval0
  refine (walk W a0 w0 _ x1 w1 _ x2 w2).mono fun e W' hret => ?_
  obtain ⟨r, rfl, rfl, bel⟩ := hret
  exact ⟨_, rfl, _, _, _, [], _, [], hW', trodAll_mk1 (shut_bool Try.underlying4 _), (trodAll_cons_mk (Below.trod laidOut (by kernel_rfl) (of_decide_eq_true (by kernel_rfl)) k0 bel lt0) (trodAll_cons_mk (Below.trod laidOut (by kernel_rfl) (of_decide_eq_true (by kernel_rfl)) k1 bel lt1) (trodAll_cons_mk (Below.trod laidOut (by kernel_rfl) (of_decide_eq_true (by kernel_rfl)) k2 bel lt2) trodAll_mk0))), rfl, bel.frame _, fun h => by cases h⟩

theorem over : Rows.fnExactIsMinimalRow.holds Try.pinned (OpenSpec.ofChange Rows.fnExactIsMinimalSpec) :=
  OpenClaim.holds_of_wide 4 Try.f4 rfl rfl rfl rfl rfl rfl rfl ⟨rfl, rfl, rfl, rfl, rfl⟩ rfl rfl rfl rfl rfl (by kernel_rfl) Try.func4 (by kernel_rfl)
    (of_decide_eq_true (by kernel_rfl)) (by unfold Func.isWrapper; first | (rw [if_pos (by decide +kernel)]; kernel_rfl) | (rw [if_neg (by decide +kernel)]; exact ⟨rfl, rfl⟩))
    (fun os started H enc _ => lifted os started H enc)

theorem proved : Rows.FnExactIsMinimalSaid := over


end fnExactIsMinimal
end Go.Proofs.Ytoaoonmeoeifgaa
