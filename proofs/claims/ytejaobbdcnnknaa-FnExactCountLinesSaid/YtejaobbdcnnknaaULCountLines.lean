/- Proved: for every text, laws.FnExactCountLines returns true and changes nothing that was there; no condition. -/
import Derived.Test.YtejaobbdcnnknaaRows
import Derived.ChangeMaps5
import Derived.Test.YtejaobbdcnnknaaUOpen
import Derived.Test.YtejaobbdcnnknaaULinesImpl
namespace Go.Proofs.Ytejaobbdcnnknaa
open Go.ChangeShapes Go.WideShapes Go.ChangeAt Go.RowKit
set_option linter.unusedVariables false
namespace fnExactCountLines

set_option maxRecDepth 20000 in
set_option maxHeartbeats 2000000 in
theorem walk (w : World) (T : ByteArray) (hT : T.size ≤ maxLen) :
    Calls Try.prog 3 #[.string T] w (Ret w fun r _ => r = .bool true) := by
  rcases Nat.lt_or_ge 1048576 T.size with hlT | hlT
  · go_enter Try.func3, Try.ntmps3
    go_wp2_with fail
    go_ret
    exact ⟨_, rfl, rfl, Below.refl _ _⟩
  have cS : ∀ (wq : World)  , Calls Try.prog 4 #[.string T] wq (Ret wq fun r _ => r = .tuple #[.int .i64 (countL T.data.toList).1, .int .i64 (countL T.data.toList).2]) := fun wq   => (fun w T hT => CountLinesSpec_c w T hT) wq T hT
  have cI : ∀ (wq : World)  , Calls Try.prog 5 #[.string T] wq (Ret wq fun r _ => r = .tuple #[.int .i64 (countL T.data.toList).1, .int .i64 (countL T.data.toList).2]) := fun wq   => (fun w T hT => CountLines_c w T hT) wq T hT
  generalize (countL T.data.toList).1 = res0 at cS cI
  generalize (countL T.data.toList).2 = res1 at cS cI
  have CS := Lib.hid cS; have CI := Lib.hid cI; clear cS cI
  go_enter Try.func3, Try.ntmps3
  go_wp2_with fail
  refine Calls.mono (CS.out w ) ?_
  rintro e w1 ⟨rr1, rfl, rfl, bb1⟩
  have b1 : Below w.heap.size w w1 := bb1
  have B1 : Below w.heap.size w w1 := b1
  have s1 : w.heap.size ≤ w1.heap.size := b1.size
  go_wp2_with fail
  refine Calls.mono (CI.out w1 ) ?_
  rintro e w2 ⟨rr2, rfl, rfl, bb2⟩
  have b2 : Below w1.heap.size w1 w2 := bb2
  have B2 : Below w.heap.size w w2 := B1.trans (b2.mono B1.size)
  have s2 : w1.heap.size ≤ w2.heap.size := b2.size
  go_wp2_with fail
  go_ret
  exact ⟨_, rfl, rfl, B2⟩


/-! ### the row -/
theorem own : ownKnob Try.prog.godebug = none := by kernel_rfl
theorem laidOut : laidOutB Try.prog = true := by kernel_rfl
set_option maxRecDepth 100000 in
theorem lifted (os : Os) (started : os.Started) (H : Type) (enc : TypeId × Value → H) :
    ReturnsInHanded {} Try.checked os 3 .any (Rows.fnExactCountLinesSpec.pre6 enc Try.prog Try.f3 Rows.fnExactCountLinesRow.domain false) (Rows.fnExactCountLinesSpec.post enc Try.prog Try.f3 false true false false) := by
  refine returnsInHanded_of_change (C := Try.checked) own started (by kernel_rfl) Try.func3
    (ChangeSpec.witness6 (enc := enc) (C := Try.checked) false ⟨#[], #[.string ByteArray.empty], []⟩ 8 (by kernel_rfl) (by kernel_rfl) (by kernel_rfl) (by kernel_rfl)) ?_
  intro W base args ds gs before hval0 hW hcnd _
  have hval : ∀ (j : Nat) t v, Try.f3.params[j]? = some t → args[j]? = some v → Value.okWide Try.prog W .any base t v := hval0
  have hW' := hW
  obtain ⟨p, q, hA0, hV, rfl, hfz, hnd⟩ := hW
  have hA : DataW.TrodAll enc Try.prog W 0 (fun _ => true) true Try.f3.params.toList args.toList ds p := hA0
  rw [Try.params3] at hA hval
  obtain ⟨v0, vs0, d0, ds0, p0, q0, hargs, rfl, rfl, h0, r0⟩ := trodAll_cons hA
  obtain ⟨rfl, rfl, rfl⟩ := trodAll_nil r0
  obtain rfl : args = #[v0] := by cases args; simp_all
  obtain ⟨rfl, rfl⟩ := trodVars_none hV
  have k0 := h0
  have lt0 : ∀ x ∈ p0, x.block < W.heap.size := by obtain ⟨m, hm⟩ := k0; exact DataW.trod_lt m _ _ _ hm
  obtain ⟨a0, rfl, -, -, w0⟩ := Go.ChangeMaps.open_string Try.underlying9 (hval 0 9 v0 rfl rfl) h0
  clear hA0 hval0
  refine (walk W a0 w0).mono fun e W' hret => ?_
  obtain ⟨r, rfl, rfl, bel⟩ := hret
  exact ⟨_, rfl, _, _, _, [], _, [], hW', trodAll_mk1 (shut_bool Try.underlying4 _), (trodAll_cons_mk (Below.trod laidOut (by kernel_rfl) (of_decide_eq_true (by kernel_rfl)) k0 bel lt0) trodAll_mk0), rfl, bel.frame _, fun h => by cases h⟩

theorem over : Rows.fnExactCountLinesRow.holds Try.pinned (OpenSpec.ofChange Rows.fnExactCountLinesSpec) :=
  OpenClaim.holds_of_wide 3 Try.f3 rfl rfl rfl rfl rfl rfl rfl ⟨rfl, rfl, rfl, rfl, rfl⟩ rfl rfl rfl rfl rfl (by kernel_rfl) Try.func3 (by kernel_rfl)
    (of_decide_eq_true (by kernel_rfl)) (by unfold Func.isWrapper; first | (rw [if_pos (by decide +kernel)]; kernel_rfl) | (rw [if_neg (by decide +kernel)]; exact ⟨rfl, rfl⟩))
    (fun os started H enc _ => lifted os started H enc)

theorem proved : Rows.FnExactCountLinesSaid := over


end fnExactCountLines
end Go.Proofs.Ytejaobbdcnnknaa
