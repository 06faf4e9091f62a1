/- Proved: whether a list are cuts of a maker, as the reference tells it. -/
import Derived.Test.YtnndaboaeijbkaaDoorChecked
import Derived.Test.YtnndaboaeijbkaaDoorUMaker
import Derived.Test.YtnndaboaeijbkaaDoorUTable
namespace Go.Proofs.YtnndaboaeijbkaaDoor
open Go.ChangeShapes Go.WideShapes Go.ChangeAt Go.RowKit
set_option linter.unusedVariables false

/-- as many depths as there are chambers -/
def cutsOk (mk : MK) (l : List Int) : Bool := allB l 0 (mk.d - 1) && decide ((l.length : Int) = mk.c)

set_option maxRecDepth 20000 in
set_option maxHeartbeats 1000000 in
theorem l02Cuts_c (w : World) (mk : MK) (hd8 : 2 ≤ mk.d ∧ mk.d ≤ 8) (v : Value) (z : Zone) (xs : List Int) (h : IntsR z w v xs) :
    Calls Tryd.prog 45 #[mk.v, v] w (Ret w fun r _ => r = .bool (cutsOk mk xs)) := by
  obtain ⟨c, d, s, m, l⟩ := mk
  unfold MK.v cutsOk
  simp only at hd8 ⊢
  have h' := stable_ints.ext h (Ext.alloc w (.cells #[.int .i64 c, .int .i64 d, .int .i64 s, .int .i64 m, .int .i64 l] 25))
  obtain ⟨a, n, cap, rfl, hn, hmax, -, -, -, hel⟩ := IntsR.shape h'
  clear h h'
  have Hn := Lib.hid hn
  have Hel := Lib.hid hel
  clear hn hel
  go_enter Tryd.func45, Tryd.ntmps45
  go_wp2_with fail
  have e0 : Ext w (w.alloc (.cells #[.int .i64 c, .int .i64 d, .int .i64 s, .int .i64 m, .int .i64 l] 25)) := Ext.alloc _ _
  have c0 : (w.alloc (.cells #[.int .i64 c, .int .i64 d, .int .i64 s, .int .i64 m, .int .i64 l] 25)).cell? ⟨w.heap.size, 0, none⟩ = some (.int .i64 c) := by go_simp
  have c1 : (w.alloc (.cells #[.int .i64 c, .int .i64 d, .int .i64 s, .int .i64 m, .int .i64 l] 25)).cell? ⟨w.heap.size, 1, none⟩ = some (.int .i64 d) := by go_simp
  generalize w.alloc (.cells #[.int .i64 c, .int .i64 d, .int .i64 s, .int .i64 m, .int .i64 l] 25) = w0 at *
  have hwr : IntKind.i64.wrap (d - 1) = d - 1 := IntWalk.i64_in _ (by omega)
  go_loopw [5] (fun t wr => ∃ i : Nat, i ≤ n ∧ t = .int .i64 i ∧ (∀ j, j < i → inB (xs.getD j 0) 0 (d - 1) = true) ∧ Drew w0 wr) (fun t _ => n - (intOf t).toNat)
  case atStart => exact ⟨0, Nat.zero_le _, rfl, by simp, Drew.refl _⟩
  case round =>
    obtain ⟨i, hi, rfl, hall, hd⟩ := hrel
    have Hall := Lib.hid hall
    clear hall
    have c0' := (hd.cell _).trans c0
    have c1' := (hd.cell _).trans c1
    by_cases hlt : i < n
    · obtain ⟨b, off, rfl, hc, hx, -⟩ := Hel.out i hlt
      replace hc := (hd.cell _).trans hc
      have Hgo : Hid (inB (xs.getD i 0) 0 (d - 1) = true → ∀ j, j < i + 1 → inB (xs.getD j 0) 0 (d - 1) = true) := fun h j hj => by
        by_cases e : j = i
        · rw [e]; exact h
        · exact Hall.out j (by omega)
      have Hno : Hid (inB (xs.getD i 0) 0 (d - 1) = false → allB xs 0 (d - 1) = false) := fun h => allB_bad i (by have := Hn.out; omega) h
      generalize xs.getD i 0 = x at *
      cases hq : inB x 0 (d - 1) with
      | true =>
        have HQ := Lib.hid (congrArg Value.bool hq)
        have HG := Lib.hid (Hgo.out hq)
        clear hq Hgo Hno Hall
        go_wp2_with fail
        go_quiet ((go_at_call 35; exact RetQ.quiet (Calls.vq (l01In_c _ _ _ _) HQ.out)))
        go_wp2_with fail
        go_roundw
        case rel => exact ⟨i + 1, by omega, by go_num, HG.out, hd.drewN _⟩
        case measure => simp [intOf]; omega
      | false =>
        have HQ := Lib.hid (congrArg Value.bool hq)
        have HN := Lib.hid (Hno.out hq)
        clear hq Hgo Hno Hall
        go_wp2_with fail
        go_quiet ((go_at_call 35; exact RetQ.quiet (Calls.vq (l01In_c _ _ _ _) HQ.out)))
        go_wp2_with fail
        go_ret
        exact ⟨.bool false, rfl, congrArg Value.bool (by rw [HN.out]; rfl), e0.trans (Ext.ofDrew (hd.drewN _))⟩
    · have hin : i = n := by omega
      have HA : Hid (allB xs 0 (d - 1) = true) := allB_good (fun j hj => Hall.out j (by have := Hn.out; omega))
      have HE : Hid (decide ((xs.length : Int) = c) = ((n : Int) == c)) := by
        show _ = _
        rw [← Hn.out]
        by_cases e : (n : Int) = c
        · rw [decide_eq_true e, beq_iff_eq.2 e]
        · rw [decide_eq_false e, beq_eq_false_iff_ne.2 e]
      go_wp2_with fail
      go_ret
      exact ⟨.bool ((n : Int) == c), rfl, congrArg Value.bool (by rw [HA.out, HE.out]; rfl), e0.trans (Ext.ofDrew hd)⟩
end Go.Proofs.YtnndaboaeijbkaaDoor
