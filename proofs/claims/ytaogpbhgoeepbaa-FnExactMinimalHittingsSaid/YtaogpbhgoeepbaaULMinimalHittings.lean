/- Proved: for every two numbers and every list of sets, laws.FnExactMinimalHittings returns true and changes nothing that was there; no condition. -/
import Derived.Test.YtaogpbhgoeepbaaRows
import Derived.Test.YtaogpbhgoeepbaaUOpen
import Derived.Test.YtaogpbhgoeepbaaUMinSpec
import Derived.Test.YtaogpbhgoeepbaaUMinImpl
import Derived.Test.YtaogpbhgoeepbaaULawRows
import Derived.Test.YtaogpbhgoeepbaaUMarkRows
import Derived.Test.YtaogpbhgoeepbaaUMarkInts
namespace Go.Proofs.Ytaogpbhgoeepbaa
open Go.ChangeShapes Go.WideShapes Go.ChangeAt Go.RowKit
set_option linter.unusedVariables false
namespace fnExactMinimalHittings

theorem offs_bound {xss : List (List Int)} {m : Nat} (h : ∀ r ∈ xss, r.length ≤ m) : offs xss xss.length ≤ xss.length * m := by
  unfold offs
  rw [List.take_length]
  induction xss with
  | nil => simp
  | cons a l ih =>
    rw [List.map_cons, List.sum_cons, List.length_cons, Nat.succ_mul]
    have h1 := h a (List.mem_cons_self ..)
    have h2 := ih (fun r hr => h r (List.mem_cons_of_mem _ hr))
    omega
theorem res_size (n : Int) (xss : List (List Int)) (most : Int) : (offs (minimalHits n xss most).1 (minimalHits n xss most).1.length : Int) ≤ 1048576 := by
  unfold minimalHits
  split
  · next hA =>
    split
    · next hB =>
      have hm : 0 ≤ most ∧ most ≤ 60 := by simpa [inB] using hB
      have h12 := (areSets_mem hA).2.1
      have h1 : (((allChoices n.toNat).filter (minimalB xss)).take most.toNat).length ≤ 60 := by
        have := List.length_take_le most.toNat ((allChoices n.toNat).filter (minimalB xss)); omega
      have h2 := offs_bound (xss := ((allChoices n.toNat).filter (minimalB xss)).take most.toNat) (m := 12) (fun r hr => by
        have := rises_length (mem_allChoices.1 (List.mem_filter.1 (List.mem_of_mem_take hr)).1); omega)
      simp only
      omega
    · simp [offs]
  · simp [offs]

set_option maxRecDepth 20000 in
set_option maxHeartbeats 2000000 in
theorem walk (w : World) (n : Int) (hn : I64 n) (vxss : Value) (xss : List (List Int)) (hxss : RowsR (.old w) w vxss xss) (most : Int) (hmost : I64 most) :
    Calls Try.prog 5 #[.int .i64 n, vxss, .int .i64 most] w (Ret w fun r _ => r = .bool true) := by
  obtain ⟨axss, nxss, cxss, rfl, shxss, -⟩ := SliceR.shape hxss
  clear shxss
  have cS : ∀ (wq : World) (yxss : Value) (zxss : Zone) (gxss : RowsR zxss wq yxss xss), Calls Try.prog 25 #[.int .i64 n, yxss, .int .i64 most] wq (Ret wq fun r w' => ∃ u0, r = .tuple #[u0, .int .i64 (minimalHits n xss most).2] ∧ RowsR (.new wq w') w' u0 (minimalHits n xss most).1) := fun wq yxss zxss gxss => (fun w n hn v z x h k hk => MinimalHittingsSpec_c w v z x n k hn hk h) wq n hn yxss zxss xss gxss most hmost
  have cI : ∀ (wq : World) (yxss : Value) (zxss : Zone) (gxss : RowsR zxss wq yxss xss), Calls Try.prog 26 #[.int .i64 n, yxss, .int .i64 most] wq (Ret wq fun r w' => ∃ u0, r = .tuple #[u0, .int .i64 (minimalHits n xss most).2] ∧ RowsR (.new wq w') w' u0 (minimalHits n xss most).1) := fun wq yxss zxss gxss => (fun w n hn v z x h k hk => MinimalHittings_c w v z x n k hn hk h) wq n hn yxss zxss xss gxss most hmost
  have LR0 : (offs ((minimalHits n xss most).1) ((minimalHits n xss most).1).length : Int) ≤ 1048576 := res_size _ _ _
  generalize (minimalHits n xss most).1 = res0 at cS cI LR0
  generalize (minimalHits n xss most).2 = res1 at cS cI LR0
  have CS := Lib.hid cS; have CI := Lib.hid cI; clear cS cI
  go_enter Try.func5, Try.ntmps5
  have szxss := szInt64SS_c w _ _ xss 1048576 hxss (by omega) (by omega)
  go_wp2_with fail
  rcases Nat.lt_or_ge (1048576 : Int).toNat (bulk xss) with hbxss | hbxss
  · rw [szLeft_neg (by omega)] at szxss
    refine Calls.mono szxss ?_
    rintro e wx ⟨rfl, hdx⟩
    go_wp2_with fail
    go_ret
    exact ⟨_, rfl, rfl, hdx.below _⟩
  rw [szLeft_pos (by omega)] at szxss
  have lbxss : bulk xss ≤ 1048576 := by omega
  have lgxss : (0 : Int) ≤ 1048576 - (bulk xss : Int) := by omega
  have lhxss : 1048576 - (bulk xss : Int) ≤ 1048576 := by omega
  generalize (1048576 : Int) - (bulk xss : Int) = lxss at *
  refine Calls.mono szxss ?_
  rintro e w1 ⟨rfl, hd1⟩
  clear szxss
  have b1 : Below w.heap.size w w1 := hd1.below _
  have B1 : Below w.heap.size w w1 := b1
  have s1 : w.heap.size ≤ w1.heap.size := b1.size
  go_wp2_with fail
  refine Calls.mono (toInt64SS_c w1 _ _ xss (stable_rows.below hxss B1) lbxss) ?_
  rintro e w2 ⟨usxss, rfl, rsxss, bb2⟩
  have b2 : Below w1.heap.size w1 w2 := bb2
  have B2 : Below w.heap.size w w2 := B1.trans (b2.mono B1.size)
  have s2 : w1.heap.size ≤ w2.heap.size := b2.size
  go_wp2_with fail
  refine Calls.mono (CS.out w2 _ _ rsxss) ?_
  rintro e w3 ⟨rr3, rfl, ⟨S0, rfl, rS0⟩, bb3⟩
  have b3 : Below w2.heap.size w2 w3 := bb3
  have B3 : Below w.heap.size w w3 := B2.trans (b3.mono B2.size)
  have s3 : w2.heap.size ≤ w3.heap.size := b3.size
  replace rsxss := stable_rows.below rsxss b3
  clear rsxss
  go_wp2_with fail
  refine Calls.mono (toInt64SS_c w3 _ _ xss (stable_rows.below hxss B3) lbxss) ?_
  rintro e w4 ⟨uxxss, rfl, rxxss, bb4⟩
  have b4 : Below w3.heap.size w3 w4 := bb4
  have B4 : Below w.heap.size w w4 := B3.trans (b4.mono B3.size)
  have s4 : w3.heap.size ≤ w4.heap.size := b4.size
  replace rS0 := stable_rows.below rS0 b4
  go_wp2_with fail
  refine Calls.mono (CI.out w4 _ _ rxxss) ?_
  rintro e w5 ⟨rr5, rfl, ⟨G0, rfl, rG0⟩, bb5⟩
  have b5 : Below w4.heap.size w4 w5 := bb5
  have B5 : Below w.heap.size w w5 := B4.trans (b5.mono B4.size)
  have s5 : w4.heap.size ≤ w5.heap.size := b5.size
  replace rS0 := stable_rows.below rS0 b5
  replace rxxss := stable_rows.below rxxss b5
  go_wp2_with fail
  refine Calls.mono (Calls.vq (eqInt64SS_c w5 _ _ _ _ res0 res0 rG0 rS0) (congrArg Value.bool (decide_eq_true rfl))) ?_
  rintro e w6 ⟨rfl, hd6⟩
  have b6 : Below w5.heap.size w5 w6 := hd6.below _
  have B6 : Below w.heap.size w w6 := B5.trans (b6.mono B5.size)
  have s6 : w5.heap.size ≤ w6.heap.size := b6.size
  replace rS0 := stable_rows.below rS0 b6
  replace rxxss := stable_rows.below rxxss b6
  replace rG0 := stable_rows.below rG0 b6
  go_wp2_with fail
  refine Calls.mono (toInt64SS_c w6 _ _ xss (stable_rows.below hxss B6) lbxss) ?_
  rintro e w7 ⟨ucxss, rfl, rcxss, bb7⟩
  have b7 : Below w6.heap.size w6 w7 := bb7
  have B7 : Below w.heap.size w w7 := B6.trans (b7.mono B6.size)
  have s7 : w6.heap.size ≤ w7.heap.size := b7.size
  replace rS0 := stable_rows.below rS0 b7
  replace rxxss := stable_rows.below rxxss b7
  replace rG0 := stable_rows.below rG0 b7
  go_wp2_with fail
  refine Calls.mono (Calls.vq (eqInt64SS_c w7 _ _ _ _ xss xss rxxss rcxss) (congrArg Value.bool (decide_eq_true rfl))) ?_
  rintro e w8 ⟨rfl, hd8⟩
  have b8 : Below w7.heap.size w7 w8 := hd8.below _
  have B8 : Below w.heap.size w w8 := B7.trans (b8.mono B7.size)
  have s8 : w7.heap.size ≤ w8.heap.size := b8.size
  replace rS0 := stable_rows.below rS0 b8
  replace rxxss := stable_rows.below rxxss b8
  replace rG0 := stable_rows.below rG0 b8
  replace rcxss := stable_rows.below rcxss b8
  clear rcxss
  have ofxss : offs xss xss.length ≤ 1048576 := by have := offs_all xss; omega
  go_wp2_with fail
  refine Calls.mono (markInt64SS_c w8 _ _ xss _ rxxss rfl (by omega) (by omega)) ?_
  rintro e w9 ⟨rfl, rmxxss, hw9⟩
  have hz9 : w9.heap.size = w8.heap.size := hw9.size
  have B9 : Below w.heap.size w w9 := B8.trans (hw9.below (by simp only [Zone.new]; omega))
  clear rxxss
  replace rS0 := stable_rows.within rS0 hw9 (fun k h1 h2 => by have q1 := h1.1; have q2 := h1.2; have q3 := h2.1; have q4 := h2.2; simp only [Zone.new] at q1 q2 q3 q4; omega)
  replace rG0 := stable_rows.within rG0 hw9 (fun k h1 h2 => by have q1 := h1.1; have q2 := h1.2; have q3 := h2.1; have q4 := h2.2; simp only [Zone.new] at q1 q2 q3 q4; omega)
  have s9 : w8.heap.size ≤ w9.heap.size := by omega
  clear hw9
  clear rmxxss
  have ck1 : (0 : Int) ≤ 1 + (offs xss xss.length : Int) ∧ 1 + (offs xss xss.length : Int) ≤ 1048577 := by omega
  obtain ⟨ck1a, ck1b⟩ := ck1
  generalize (1 : Int) + (offs xss xss.length : Int) = k1 at *
  go_wp2_with fail
  refine Calls.mono (Calls.vq (eqInt64SS_c w9 _ _ _ _ res0 res0 rG0 rS0) (congrArg Value.bool (decide_eq_true rfl))) ?_
  rintro e w10 ⟨rfl, hd10⟩
  have b10 : Below w9.heap.size w9 w10 := hd10.below _
  have B10 : Below w.heap.size w w10 := B9.trans (b10.mono B9.size)
  have s10 : w9.heap.size ≤ w10.heap.size := b10.size
  replace rS0 := stable_rows.below rS0 b10
  replace rG0 := stable_rows.below rG0 b10
  go_wp2_with fail
  refine Calls.mono (markInt64SS_c w10 _ _ res0 _ rG0 rfl (by omega) (by omega)) ?_
  rintro e w11 ⟨rfl, rmG0, hw11⟩
  have hz11 : w11.heap.size = w10.heap.size := hw11.size
  have B11 : Below w.heap.size w w11 := B10.trans (hw11.below (by simp only [Zone.new]; omega))
  clear rG0
  replace rS0 := stable_rows.within rS0 hw11 (fun k h1 h2 => by have q1 := h1.1; have q2 := h1.2; have q3 := h2.1; have q4 := h2.2; simp only [Zone.new] at q1 q2 q3 q4; omega)
  have s11 : w10.heap.size ≤ w11.heap.size := by omega
  clear hw11
  obtain ⟨m1, em1⟩ : ∃ t : Int, t = 1 + (offs res0 res0.length : Int) := ⟨_, rfl⟩
  rw [← em1]
  have gm1a : 0 ≤ m1 ∧ m1 ≤ 1048577 := by omega
  have Em1 := Lib.hid em1; clear em1; obtain ⟨gm1a, gm1b⟩ := gm1a
  go_wp2_with fail
  refine Calls.mono (Calls.vq (heldInt64SS_c w11 _ _ res0 _ rmG0 (by omega) (by have := Em1.out; omega)) (congrArg (Value.int .i64) Em1.out.symm)) ?_
  rintro e w12 ⟨rfl, hd12⟩
  have b12 : Below w11.heap.size w11 w12 := hd12.below _
  have B12 : Below w.heap.size w w12 := B11.trans (b12.mono B11.size)
  have s12 : w11.heap.size ≤ w12.heap.size := b12.size
  replace rS0 := stable_rows.below rS0 b12
  replace rmG0 := stable_rows.below rmG0 b12
  go_wp2_with fail
  refine Calls.mono (toInt64SS_c w12 _ _ xss (stable_rows.below hxss B12) lbxss) ?_
  rintro e w13 ⟨uyxss, rfl, ryxss, bb13⟩
  have b13 : Below w12.heap.size w12 w13 := bb13
  have B13 : Below w.heap.size w w13 := B12.trans (b13.mono B12.size)
  have s13 : w12.heap.size ≤ w13.heap.size := b13.size
  replace rS0 := stable_rows.below rS0 b13
  replace rmG0 := stable_rows.below rmG0 b13
  go_wp2_with fail
  refine Calls.mono (CI.out w13 _ _ ryxss) ?_
  rintro e w14 ⟨rr14, rfl, ⟨H0, rfl, rH0⟩, bb14⟩
  have b14 : Below w13.heap.size w13 w14 := bb14
  have B14 : Below w.heap.size w w14 := B13.trans (b14.mono B13.size)
  have s14 : w13.heap.size ≤ w14.heap.size := b14.size
  replace rS0 := stable_rows.below rS0 b14
  replace rmG0 := stable_rows.below rmG0 b14
  replace ryxss := stable_rows.below ryxss b14
  clear ryxss
  go_wp2_with fail
  refine Calls.mono (Calls.vq (eqInt64SS_c w14 _ _ _ _ res0 res0 rH0 rS0) (congrArg Value.bool (decide_eq_true rfl))) ?_
  rintro e w15 ⟨rfl, hd15⟩
  have b15 : Below w14.heap.size w14 w15 := hd15.below _
  have B15 : Below w.heap.size w w15 := B14.trans (b15.mono B14.size)
  have s15 : w14.heap.size ≤ w15.heap.size := b15.size
  replace rS0 := stable_rows.below rS0 b15
  replace rmG0 := stable_rows.below rmG0 b15
  replace rH0 := stable_rows.below rH0 b15
  go_wp2_with fail
  refine Calls.mono (Calls.vq (heldInt64SS_c w15 _ _ res0 _ rmG0 (by omega) (by have := Em1.out; omega)) (congrArg (Value.int .i64) Em1.out.symm)) ?_
  rintro e w16 ⟨rfl, hd16⟩
  have b16 : Below w15.heap.size w15 w16 := hd16.below _
  have B16 : Below w.heap.size w w16 := B15.trans (b16.mono B15.size)
  have s16 : w15.heap.size ≤ w16.heap.size := b16.size
  replace rS0 := stable_rows.below rS0 b16
  replace rmG0 := stable_rows.below rmG0 b16
  replace rH0 := stable_rows.below rH0 b16
  go_wp2_with fail
  go_ret
  exact ⟨_, rfl, rfl, B16⟩


/-! ### the row -/
theorem own : ownKnob Try.prog.godebug = none := by kernel_rfl
theorem laidOut : laidOutB Try.prog = true := by kernel_rfl
set_option maxRecDepth 100000 in
theorem lifted (os : Os) (started : os.Started) (H : Type) (enc : TypeId × Value → H) :
    ReturnsInHanded {} Try.checked os 5 .any (Rows.fnExactMinimalHittingsSpec.pre6 enc Try.prog Try.f5 Rows.fnExactMinimalHittingsRow.domain false) (Rows.fnExactMinimalHittingsSpec.post enc Try.prog Try.f5 false true false false) := by
  refine returnsInHanded_of_change (C := Try.checked) own started (by kernel_rfl) Try.func5
    (ChangeSpec.witness6 (enc := enc) (C := Try.checked) false ⟨#[], #[.int .i64 0, .slice none 0 0, .int .i64 0], []⟩ 8 (by kernel_rfl) (by kernel_rfl) (by kernel_rfl) (by kernel_rfl)) ?_
  intro W base args ds gs before hval0 hW hcnd _
  have hval : ∀ (j : Nat) t v, Try.f5.params[j]? = some t → args[j]? = some v → Value.okWide Try.prog W .any base t v := hval0
  have hW' := hW
  obtain ⟨p, q, hA0, hV, rfl, hfz, hnd⟩ := hW
  have hA : DataW.TrodAll enc Try.prog W 0 (fun _ => true) true Try.f5.params.toList args.toList ds p := hA0
  rw [Try.params5] at hA hval
  obtain ⟨v0, vs0, d0, ds0, p0, q0, hargs, rfl, rfl, h0, r0⟩ := trodAll_cons hA
  obtain ⟨v1, vs1, d1, ds1, p1, q1, rfl, rfl, rfl, h1, r1⟩ := trodAll_cons r0
  obtain ⟨v2, vs2, d2, ds2, p2, q2, rfl, rfl, rfl, h2, r2⟩ := trodAll_cons r1
  obtain ⟨rfl, rfl, rfl⟩ := trodAll_nil r2
  obtain rfl : args = #[v0, v1, v2] := by cases args; simp_all
  obtain ⟨rfl, rfl⟩ := trodVars_none hV
  have k0 := h0
  have lt0 : ∀ x ∈ p0, x.block < W.heap.size := by obtain ⟨m, hm⟩ := k0; exact DataW.trod_lt m _ _ _ hm
  obtain ⟨a0, rfl, -, -, g0⟩ := open_int Try.underlying2 (hval 0 2 v0 rfl rfl) h0
  have w0 := wf_i64 g0
  have k1 := h1
  have lt1 : ∀ x ∈ p1, x.block < W.heap.size := by obtain ⟨m, hm⟩ := k1; exact DataW.trod_lt m _ _ _ hm
  obtain ⟨a1, len1, cap1, rfl⟩ := okWide_slice Try.underlying22 (hval 1 22 v1 rfl rfl)
  obtain ⟨x1, w1⟩ : ∃ xs, RowsR (.old W) W (.slice a1 len1 cap1) xs := by obtain ⟨fuel, hf⟩ := h1; exact open_RowsR Try.underlying22 Try.underlying25 Try.underlying2 (by kernel_rfl) (by kernel_rfl) hf
  have k2 := h2
  have lt2 : ∀ x ∈ p2, x.block < W.heap.size := by obtain ⟨m, hm⟩ := k2; exact DataW.trod_lt m _ _ _ hm
  obtain ⟨a2, rfl, -, -, g2⟩ := open_int Try.underlying2 (hval 2 2 v2 rfl rfl) h2
  have w2 := wf_i64 g2
  clear hA0 hval0
  refine (walk W a0 w0 _ x1 w1 a2 w2).mono fun e W' hret => ?_
  obtain ⟨r, rfl, rfl, bel⟩ := hret
  exact ⟨_, rfl, _, _, _, [], _, [], hW', trodAll_mk1 (shut_bool Try.underlying4 _), (trodAll_cons_mk (Below.trod laidOut (by kernel_rfl) (of_decide_eq_true (by kernel_rfl)) k0 bel lt0) (trodAll_cons_mk (Below.trod laidOut (by kernel_rfl) (of_decide_eq_true (by kernel_rfl)) k1 bel lt1) (trodAll_cons_mk (Below.trod laidOut (by kernel_rfl) (of_decide_eq_true (by kernel_rfl)) k2 bel lt2) trodAll_mk0))), rfl, bel.frame _, fun h => by cases h⟩

theorem over : Rows.fnExactMinimalHittingsRow.holds Try.pinned (OpenSpec.ofChange Rows.fnExactMinimalHittingsSpec) :=
  OpenClaim.holds_of_wide 5 Try.f5 rfl rfl rfl rfl rfl rfl rfl ⟨rfl, rfl, rfl, rfl, rfl⟩ rfl rfl rfl rfl rfl (by kernel_rfl) Try.func5 (by kernel_rfl)
    (of_decide_eq_true (by kernel_rfl)) (by unfold Func.isWrapper; first | (rw [if_pos (by decide +kernel)]; kernel_rfl) | (rw [if_neg (by decide +kernel)]; exact ⟨rfl, rfl⟩))
    (fun os started H enc _ => lifted os started H enc)

theorem proved : Rows.FnExactMinimalHittingsSaid := over


end fnExactMinimalHittings
end Go.Proofs.Ytaogpbhgoeepbaa
