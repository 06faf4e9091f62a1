/- Proved: for every n and every list of lists, laws.FnExactAreSets returns true and changes nothing that was there; no condition. -/
import Derived.Test.YthipagefapkpdaaRows
import Derived.Test.YthipagefapkpdaaUOpen
import Derived.Test.YthipagefapkpdaaUSets
import Derived.Test.YthipagefapkpdaaULawRows
namespace Go.Proofs.Ythipagefapkpdaa
open Go.ChangeShapes Go.WideShapes Go.ChangeAt Go.RowKit
set_option linter.unusedVariables false
namespace fnExactAreSets

theorem walk (w : World) (n : Int) (hn : I64 n) (v : Value) (xs : List (List Int)) (h : RowsR (.old w) w v xs) :
    Calls Try.prog 4 #[.int .i64 n, v] w (Ret w fun r _ => r = .bool true) := by
  have hsz := szInt64SS_c w v _ xs 1048576 h (by omega) (by omega)
  by_cases hb : bulk xs ≤ 1048576
  · rw [szLeft_pos (by omega)] at hsz
    have hge : (0 : Int) ≤ 1048576 - (bulk xs : Int) := by omega
    generalize (1048576 : Int) - (bulk xs : Int) = l at *
    go_enter Try.func4, Try.ntmps4
    go_wp2_with fail
    refine Calls.mono hsz ?_
    rintro e w1 ⟨rfl, hd1⟩
    have b1 := hd1.below w.heap.size
    have h1 := stable_rows.drew h hd1
    clear hsz
    go_wp2_with fail
    refine Calls.mono (toInt64SS_c w1 v _ xs h1 hb) ?_
    rintro e w2 ⟨u2, rfl, r2, b2⟩
    go_wp2_with fail
    refine Calls.mono (AreSetsSpec_c w2 u2 _ xs n hn r2) ?_
    rintro e w3 ⟨rfl, hd3⟩
    have b3 := (b1.trans (b2.mono b1.size)).trans (hd3.below _)
    have h3 := stable_rows.below h b3
    go_wp2_with fail
    refine Calls.mono (toInt64SS_c w3 v _ xs h3 hb) ?_
    rintro e w4 ⟨u4, rfl, r4, b4⟩
    go_wp2_with fail
    refine Calls.mono (AreSets_c w4 u4 _ xs n hn r4) ?_
    rintro e w5 ⟨u5, rfl, rfl, b5⟩
    have b5' := (b3.trans (b4.mono b3.size)).trans (b5.mono (by have := b3.size; have := b4.size; omega))
    have h5 := stable_rows.below h b5'
    have r5 := stable_rows.below r4 b5
    go_wp2_with fail
    refine Calls.mono (toInt64SS_c w5 v _ xs h5 hb) ?_
    rintro e w6 ⟨u6, rfl, r6, b6⟩
    have he := eqInt64SS_c w6 u4 u6 _ _ xs xs (stable_rows.below r5 b6) r6
    rw [decide_eq_true rfl] at he
    go_wp2_with fail
    refine Calls.mono he ?_
    rintro e w7 ⟨rfl, hd7⟩
    go_wp2_with fail
    go_ret
    exact ⟨_, rfl, rfl, (b5'.trans (b6.mono b5'.size)).trans (hd7.below _)⟩
  · rw [szLeft_neg (by omega)] at hsz
    go_enter Try.func4, Try.ntmps4
    go_wp2_with fail
    refine Calls.mono hsz ?_
    rintro e w1 ⟨rfl, hd1⟩
    clear hsz
    go_wp2_with fail
    go_ret
    exact ⟨_, rfl, rfl, hd1.below _⟩


/-! ### the row -/
theorem own : ownKnob Try.prog.godebug = none := by kernel_rfl
theorem laidOut : laidOutB Try.prog = true := by kernel_rfl
set_option maxRecDepth 100000 in
theorem lifted (os : Os) (started : os.Started) (H : Type) (enc : TypeId × Value → H) :
    ReturnsInHanded {} Try.checked os 4 .any (Rows.fnExactAreSetsSpec.pre6 enc Try.prog Try.f4 Rows.fnExactAreSetsRow.domain false) (Rows.fnExactAreSetsSpec.post enc Try.prog Try.f4 false true false false) := by
  refine returnsInHanded_of_change (C := Try.checked) own started (by kernel_rfl) Try.func4
    (ChangeSpec.witness6 (enc := enc) (C := Try.checked) false ⟨#[], #[.int .i64 0, .slice none 0 0], []⟩ 8 (by kernel_rfl) (by kernel_rfl) (by kernel_rfl) (by kernel_rfl)) ?_
  intro W base args ds gs before hval0 hW hcnd _
  have hval : ∀ (j : Nat) t v, Try.f4.params[j]? = some t → args[j]? = some v → Value.okWide Try.prog W .any base t v := hval0
  have hW' := hW
  obtain ⟨p, q, hA0, hV, rfl, hfz, hnd⟩ := hW
  have hA : DataW.TrodAll enc Try.prog W 0 (fun _ => true) true Try.f4.params.toList args.toList ds p := hA0
  rw [Try.params4] at hA hval
  obtain ⟨v0, vs0, d0, ds0, p0, q0, hargs, rfl, rfl, h0, r0⟩ := trodAll_cons hA
  obtain ⟨v1, vs1, d1, ds1, p1, q1, rfl, rfl, rfl, h1, r1⟩ := trodAll_cons r0
  obtain ⟨rfl, rfl, rfl⟩ := trodAll_nil r1
  obtain rfl : args = #[v0, v1] := by cases args; simp_all
  obtain ⟨rfl, rfl⟩ := trodVars_none hV
  have k0 := h0
  have lt0 : ∀ x ∈ p0, x.block < W.heap.size := by obtain ⟨m, hm⟩ := k0; exact DataW.trod_lt m _ _ _ hm
  obtain ⟨a0, rfl, -, -, g0⟩ := open_int Try.underlying2 (hval 0 2 v0 rfl rfl) h0
  have w0 := wf_i64 g0
  have k1 := h1
  have lt1 : ∀ x ∈ p1, x.block < W.heap.size := by obtain ⟨m, hm⟩ := k1; exact DataW.trod_lt m _ _ _ hm
  obtain ⟨a1, len1, cap1, rfl⟩ := okWide_slice Try.underlying25 (hval 1 25 v1 rfl rfl)
  obtain ⟨x1, w1⟩ : ∃ xs, RowsR (.old W) W (.slice a1 len1 cap1) xs := by obtain ⟨fuel, hf⟩ := h1; exact open_RowsR Try.underlying25 Try.underlying39 Try.underlying2 (by kernel_rfl) (by kernel_rfl) hf
  clear hA0 hval0
  refine (walk W a0 w0 _ x1 w1).mono fun e W' hret => ?_
  obtain ⟨r, rfl, rfl, bel⟩ := hret
  exact ⟨_, rfl, _, _, _, [], _, [], hW', trodAll_mk1 (shut_bool Try.underlying4 _), (trodAll_cons_mk (Below.trod laidOut (by kernel_rfl) (of_decide_eq_true (by kernel_rfl)) k0 bel lt0) (trodAll_cons_mk (Below.trod laidOut (by kernel_rfl) (of_decide_eq_true (by kernel_rfl)) k1 bel lt1) trodAll_mk0)), rfl, bel.frame _, fun h => by cases h⟩

theorem over : Rows.fnExactAreSetsRow.holds Try.pinned (OpenSpec.ofChange Rows.fnExactAreSetsSpec) :=
  OpenClaim.holds_of_wide 4 Try.f4 rfl rfl rfl rfl rfl rfl rfl ⟨rfl, rfl, rfl, rfl, rfl⟩ rfl rfl rfl rfl rfl (by kernel_rfl) Try.func4 (by kernel_rfl)
    (of_decide_eq_true (by kernel_rfl)) (by unfold Func.isWrapper; first | (rw [if_pos (by decide +kernel)]; kernel_rfl) | (rw [if_neg (by decide +kernel)]; exact ⟨rfl, rfl⟩))
    (fun os started H enc _ => lifted os started H enc)

theorem proved : Rows.FnExactAreSetsSaid := over

end fnExactAreSets
end Go.Proofs.Ythipagefapkpdaa
