/- Proved: for every n and every list of lists, laws.FnExactDisjointBound returns true and changes nothing that was there; no condition. -/
import Derived.Test.YthipagefapkpdaaRows
import Derived.Test.YthipagefapkpdaaUOpen
import Derived.Test.YthipagefapkpdaaUHitting
import Derived.Test.YthipagefapkpdaaULawRows
namespace Go.Proofs.Ythipagefapkpdaa
open Go.ChangeShapes Go.WideShapes Go.ChangeAt Go.RowKit
set_option linter.unusedVariables false
namespace fnExactDisjointBound

set_option maxRecDepth 20000 in
set_option maxHeartbeats 2000000 in
theorem walk (w : World) (n : Int) (hn : I64 n) (vxss : Value) (xss : List (List Int)) (hxss : RowsR (.old w) w vxss xss) :
    Calls Try.prog 6 #[.int .i64 n, vxss] w (Ret w fun r _ => r = .bool true) := by
  obtain ⟨axss, nxss, cxss, rfl, shxss, -⟩ := SliceR.shape hxss
  clear shxss
  have cS : ∀ (wq : World) (yxss : Value) (zxss : Zone) (gxss : RowsR zxss wq yxss xss), Calls Try.prog 21 #[.int .i64 n, yxss] wq (Ret wq fun r _ => r = .tuple #[.int .i64 (disjointBound n xss).1, .int .i64 (disjointBound n xss).2]) := fun wq yxss zxss gxss => (fun w n hn u y xss h => DisjointBoundSpec_c w u y xss n hn h) wq n hn yxss zxss xss gxss
  have cI : ∀ (wq : World) (yxss : Value) (zxss : Zone) (gxss : RowsR zxss wq yxss xss), Calls Try.prog 22 #[.int .i64 n, yxss] wq (Ret wq fun r _ => r = .tuple #[.int .i64 (disjointBound n xss).1, .int .i64 (disjointBound n xss).2]) := fun wq yxss zxss gxss => (fun w n hn u y xss h => DisjointBound_c w u y xss n hn h) wq n hn yxss zxss xss gxss
  generalize (disjointBound n xss).1 = res0 at cS cI
  generalize (disjointBound n xss).2 = res1 at cS cI
  have CS := Lib.hid cS; have CI := Lib.hid cI; clear cS cI
  go_enter Try.func6, Try.ntmps6
  have szxss := szInt64SS_c w _ _ xss 1048576 hxss (by omega) (by omega)
  go_wp2_with fail
  rcases Nat.lt_or_ge (1048576 : Int).toNat (bulk xss) with hbxss | hbxss
  · rw [szLeft_neg (by omega)] at szxss
    refine Calls.mono szxss ?_
    rintro e wx ⟨rfl, hdx⟩
    go_wp2_with fail
    go_ret
    exact ⟨_, rfl, rfl, hdx.below _⟩
  rw [szLeft_pos (by omega)] at szxss
  have lbxss : bulk xss ≤ 1048576 := by omega
  have lgxss : (0 : Int) ≤ 1048576 - (bulk xss : Int) := by omega
  have lhxss : 1048576 - (bulk xss : Int) ≤ 1048576 := by omega
  generalize (1048576 : Int) - (bulk xss : Int) = lxss at *
  refine Calls.mono szxss ?_
  rintro e w1 ⟨rfl, hd1⟩
  clear szxss
  have b1 : Below w.heap.size w w1 := hd1.below _
  have B1 : Below w.heap.size w w1 := b1
  have s1 : w.heap.size ≤ w1.heap.size := b1.size
  go_wp2_with fail
  refine Calls.mono (toInt64SS_c w1 _ _ xss (stable_rows.below hxss B1) lbxss) ?_
  rintro e w2 ⟨usxss, rfl, rsxss, bb2⟩
  have b2 : Below w1.heap.size w1 w2 := bb2
  have B2 : Below w.heap.size w w2 := B1.trans (b2.mono B1.size)
  have s2 : w1.heap.size ≤ w2.heap.size := b2.size
  go_wp2_with fail
  refine Calls.mono (CS.out w2 _ _ rsxss) ?_
  rintro e w3 ⟨rr3, rfl, rfl, bb3⟩
  have b3 : Below w2.heap.size w2 w3 := bb3
  have B3 : Below w.heap.size w w3 := B2.trans (b3.mono B2.size)
  have s3 : w2.heap.size ≤ w3.heap.size := b3.size
  replace rsxss := stable_rows.below rsxss b3
  clear rsxss
  go_wp2_with fail
  refine Calls.mono (toInt64SS_c w3 _ _ xss (stable_rows.below hxss B3) lbxss) ?_
  rintro e w4 ⟨uxxss, rfl, rxxss, bb4⟩
  have b4 : Below w3.heap.size w3 w4 := bb4
  have B4 : Below w.heap.size w w4 := B3.trans (b4.mono B3.size)
  have s4 : w3.heap.size ≤ w4.heap.size := b4.size
  go_wp2_with fail
  refine Calls.mono (CI.out w4 _ _ rxxss) ?_
  rintro e w5 ⟨rr5, rfl, rfl, bb5⟩
  have b5 : Below w4.heap.size w4 w5 := bb5
  have B5 : Below w.heap.size w w5 := B4.trans (b5.mono B4.size)
  have s5 : w4.heap.size ≤ w5.heap.size := b5.size
  replace rxxss := stable_rows.below rxxss b5
  go_wp2_with fail
  refine Calls.mono (toInt64SS_c w5 _ _ xss (stable_rows.below hxss B5) lbxss) ?_
  rintro e w6 ⟨ucxss, rfl, rcxss, bb6⟩
  have b6 : Below w5.heap.size w5 w6 := bb6
  have B6 : Below w.heap.size w w6 := B5.trans (b6.mono B5.size)
  have s6 : w5.heap.size ≤ w6.heap.size := b6.size
  replace rxxss := stable_rows.below rxxss b6
  go_wp2_with fail
  refine Calls.mono (Calls.vq (eqInt64SS_c w6 _ _ _ _ xss xss rxxss rcxss) (congrArg Value.bool (decide_eq_true rfl))) ?_
  rintro e w7 ⟨rfl, hd7⟩
  have b7 : Below w6.heap.size w6 w7 := hd7.below _
  have B7 : Below w.heap.size w w7 := B6.trans (b7.mono B6.size)
  have s7 : w6.heap.size ≤ w7.heap.size := b7.size
  replace rxxss := stable_rows.below rxxss b7
  replace rcxss := stable_rows.below rcxss b7
  clear rcxss
  go_wp2_with fail
  go_ret
  exact ⟨_, rfl, rfl, B7⟩


/-! ### the row -/
theorem own : ownKnob Try.prog.godebug = none := by kernel_rfl
theorem laidOut : laidOutB Try.prog = true := by kernel_rfl
set_option maxRecDepth 100000 in
theorem lifted (os : Os) (started : os.Started) (H : Type) (enc : TypeId × Value → H) :
    ReturnsInHanded {} Try.checked os 6 .any (Rows.fnExactDisjointBoundSpec.pre6 enc Try.prog Try.f6 Rows.fnExactDisjointBoundRow.domain false) (Rows.fnExactDisjointBoundSpec.post enc Try.prog Try.f6 false true false false) := by
  refine returnsInHanded_of_change (C := Try.checked) own started (by kernel_rfl) Try.func6
    (ChangeSpec.witness6 (enc := enc) (C := Try.checked) false ⟨#[], #[.int .i64 0, .slice none 0 0], []⟩ 8 (by kernel_rfl) (by kernel_rfl) (by kernel_rfl) (by kernel_rfl)) ?_
  intro W base args ds gs before hval0 hW hcnd _
  have hval : ∀ (j : Nat) t v, Try.f6.params[j]? = some t → args[j]? = some v → Value.okWide Try.prog W .any base t v := hval0
  have hW' := hW
  obtain ⟨p, q, hA0, hV, rfl, hfz, hnd⟩ := hW
  have hA : DataW.TrodAll enc Try.prog W 0 (fun _ => true) true Try.f6.params.toList args.toList ds p := hA0
  rw [Try.params6] at hA hval
  obtain ⟨v0, vs0, d0, ds0, p0, q0, hargs, rfl, rfl, h0, r0⟩ := trodAll_cons hA
  obtain ⟨v1, vs1, d1, ds1, p1, q1, rfl, rfl, rfl, h1, r1⟩ := trodAll_cons r0
  obtain ⟨rfl, rfl, rfl⟩ := trodAll_nil r1
  obtain rfl : args = #[v0, v1] := by cases args; simp_all
  obtain ⟨rfl, rfl⟩ := trodVars_none hV
  have k0 := h0
  have lt0 : ∀ x ∈ p0, x.block < W.heap.size := by obtain ⟨m, hm⟩ := k0; exact DataW.trod_lt m _ _ _ hm
  obtain ⟨a0, rfl, -, -, g0⟩ := open_int Try.underlying2 (hval 0 2 v0 rfl rfl) h0
  have w0 := wf_i64 g0
  have k1 := h1
  have lt1 : ∀ x ∈ p1, x.block < W.heap.size := by obtain ⟨m, hm⟩ := k1; exact DataW.trod_lt m _ _ _ hm
  obtain ⟨a1, len1, cap1, rfl⟩ := okWide_slice Try.underlying25 (hval 1 25 v1 rfl rfl)
  obtain ⟨x1, w1⟩ : ∃ xs, RowsR (.old W) W (.slice a1 len1 cap1) xs := by obtain ⟨fuel, hf⟩ := h1; exact open_RowsR Try.underlying25 Try.underlying39 Try.underlying2 (by kernel_rfl) (by kernel_rfl) hf
  clear hA0 hval0
  refine (walk W a0 w0 _ x1 w1).mono fun e W' hret => ?_
  obtain ⟨r, rfl, rfl, bel⟩ := hret
  exact ⟨_, rfl, _, _, _, [], _, [], hW', trodAll_mk1 (shut_bool Try.underlying4 _), (trodAll_cons_mk (Below.trod laidOut (by kernel_rfl) (of_decide_eq_true (by kernel_rfl)) k0 bel lt0) (trodAll_cons_mk (Below.trod laidOut (by kernel_rfl) (of_decide_eq_true (by kernel_rfl)) k1 bel lt1) trodAll_mk0)), rfl, bel.frame _, fun h => by cases h⟩

theorem over : Rows.fnExactDisjointBoundRow.holds Try.pinned (OpenSpec.ofChange Rows.fnExactDisjointBoundSpec) :=
  OpenClaim.holds_of_wide 6 Try.f6 rfl rfl rfl rfl rfl rfl rfl ⟨rfl, rfl, rfl, rfl, rfl⟩ rfl rfl rfl rfl rfl (by kernel_rfl) Try.func6 (by kernel_rfl)
    (of_decide_eq_true (by kernel_rfl)) (by unfold Func.isWrapper; first | (rw [if_pos (by decide +kernel)]; kernel_rfl) | (rw [if_neg (by decide +kernel)]; exact ⟨rfl, rfl⟩))
    (fun os started H enc _ => lifted os started H enc)

theorem proved : Rows.FnExactDisjointBoundSaid := over


end fnExactDisjointBound
end Go.Proofs.Ythipagefapkpdaa
