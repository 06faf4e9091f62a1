/- Proved: whether a list are cuts of a maker, as the program tells it. -/
import Derived.Test.YtnndaboaeijbkaaDoorChecked
import Derived.Test.YtnndaboaeijbkaaDoorUCuts
namespace Go.Proofs.YtnndaboaeijbkaaDoor
open Go.ChangeShapes Go.WideShapes Go.ChangeAt Go.RowKit
set_option linter.unusedVariables false

set_option maxRecDepth 20000 in
set_option maxHeartbeats 1000000 in
theorem areCuts_c (w : World) (mk : MK) (hd8 : 2 ≤ mk.d ∧ mk.d ≤ 8) (v : Value) (z : Zone) (xs : List Int) (h : IntsR z w v xs) :
    Calls Tryd.prog 83 #[mk.v, v] w (Ret w fun r _ => r = .bool (cutsOk mk xs)) := by
  obtain ⟨c, d, s, m, l⟩ := mk
  unfold MK.v cutsOk
  simp only at hd8 ⊢
  have h' := stable_ints.ext h (Ext.alloc w (.cells #[.int .i64 c, .int .i64 d, .int .i64 s, .int .i64 m, .int .i64 l] 25))
  have hcall := allWithin_c _ _ _ xs 0 (d - 1) h'
  obtain ⟨a, n, cap, rfl, hn, hmax, -⟩ := IntsR.shape h'
  clear h h'
  have Hn := Lib.hid hn
  clear hn
  have e0 : Ext w (w.alloc (.cells #[.int .i64 c, .int .i64 d, .int .i64 s, .int .i64 m, .int .i64 l] 25)) := Ext.alloc _ _
  have c0 : (w.alloc (.cells #[.int .i64 c, .int .i64 d, .int .i64 s, .int .i64 m, .int .i64 l] 25)).cell? ⟨w.heap.size, 0, none⟩ = some (.int .i64 c) := by go_simp
  have c1 : (w.alloc (.cells #[.int .i64 c, .int .i64 d, .int .i64 s, .int .i64 m, .int .i64 l] 25)).cell? ⟨w.heap.size, 1, none⟩ = some (.int .i64 d) := by go_simp
  by_cases hc : (n : Int) = c
  · have HE : Hid (decide ((xs.length : Int) = c) = true) := by show _ = _; rw [← Hn.out]; exact decide_eq_true hc
    have hb : ((n : Int) == c) = true := beq_iff_eq.2 hc
    generalize hq : allB xs 0 (d - 1) = q at *
    clear hc hq
    go_enter Tryd.func83, Tryd.ntmps83
    go_wp2_with fail
    refine Calls.mono hcall ?_
    rintro e w2 hr
    obtain ⟨rfl, -, e2⟩ := retq_ext hr
    clear hr hcall
    go_wp2_with fail
    go_ret
    exact ⟨.bool q, rfl, congrArg Value.bool (by rw [HE.out, Bool.and_true]), e0.trans e2⟩
  · have HE : Hid (decide ((xs.length : Int) = c) = false) := by show _ = _; rw [← Hn.out]; exact decide_eq_false hc
    have hb : ((n : Int) == c) = false := beq_eq_false_iff_ne.2 hc
    clear hc hcall
    go_enter Tryd.func83, Tryd.ntmps83
    go_wp2_with fail
    go_ret
    exact ⟨.bool false, rfl, congrArg Value.bool (by rw [HE.out, Bool.and_false]), e0⟩
end Go.Proofs.YtnndaboaeijbkaaDoor
