/- Proved: slices.Index and slices.Contains for lists of integers. -/
import Derived.Test.YtnndaboaeijbkaaDoorChecked
import Derived.Test.YtnndaboaeijbkaaDoorUHasList
import Derived.Test.YtnndaboaeijbkaaDoorUFirstIdx
namespace Go.Proofs.YtnndaboaeijbkaaDoor
open Go.ChangeShapes Go.WideShapes Go.ChangeAt Go.RowKit
set_option linter.unusedVariables false

set_option maxHeartbeats 400000 in
theorem Index_c (w : World) (v : Value) (z : Zone) (xs : List Int) (x : Int) (h : IntsR z w v xs) (hx : I64 x) :
    Calls Tryd.prog 84 #[v, .int .i64 x] w (RetQ w (.int .i64 (idxR (fun y => y == x) xs))) := by
  obtain ⟨a, len, cap, rfl, hlen, hmax, -, -, -, hel⟩ := IntsR.shape h
  have Hlen := Lib.hid hlen; clear hlen h
  have Hel := Lib.hid hel; clear hel
  unfold I64 at hx
  obtain ⟨n1, n2⟩ := hx
  go_enter Tryd.func84, Tryd.ntmps84
  go_wp2
  go_loop [8] (fun t => ∃ i : Nat, i ≤ len ∧ t = .int .i64 i ∧ (∀ j, j < i → xs.getD j 0 ≠ x)) (fun t => len - (intOf t).toNat)
  case atStart => exact ⟨0, Nat.zero_le _, rfl, by simp⟩
  case round =>
    obtain ⟨i, hi, rfl, hall⟩ := hrel
    have Hall := Lib.hid hall; clear hall
    by_cases hlt : i < len
    · obtain ⟨b, off, rfl, hc, ⟨hx1, hx2⟩, -⟩ := Hel.out i hlt
      have Hgo : Hid (xs.getD i 0 ≠ x → ∀ j, j < i + 1 → xs.getD j 0 ≠ x) := fun h j hj => by
        by_cases e : j = i
        · rw [e]; exact h
        · exact Hall.out j (by omega)
      have Hyes : Hid (xs.getD i 0 = x → idxR (fun y => y == x) xs = i) := fun h => by
        have hl := Hlen.out
        refine idxR_at _ xs i (by omega) ?_ (fun j hj hji => ?_)
        · have : xs[i]'(by omega) = x := by simpa [show i < xs.length by omega] using h
          simpa using this
        · have := Hall.out j hji
          simpa [hj] using this
      generalize xs.getD i 0 = y at *
      by_cases hyx : y = x
      · have HH := Lib.hid (Hyes.out hyx)
        have hb : (x == y) = true := by simpa using Eq.symm hyx
        clear Hyes hyx
        go_wp2
        go_ret
        exact ⟨ret_int HH.out.symm, Drew.refl _⟩
      · have HH := Lib.hid (Hgo.out hyx)
        have hb : (x == y) = false := by simpa using fun h => hyx (Eq.symm h)
        clear Hgo hyx
        go_wp2
        go_round
        case rel => exact ⟨i + 1, by omega, by go_num, HH.out⟩
        case measure => simp [intOf]; omega
    · go_wp2
      go_ret
      refine ⟨ret_int (idxR_none _ xs (fun j hj => ?_)).symm, Drew.refl _⟩
      have := Hall.out j (by have := Hlen.out; omega)
      simpa [hj] using this

theorem Contains_c (w : World) (v : Value) (z : Zone) (xs : List Int) (x : Int) (h : IntsR z w v xs) (hx : I64 x) :
    Calls Tryd.prog 73 #[v, .int .i64 x] w (RetQ w (.bool (has xs x))) := by
  have hc := Index_c w v z xs x h hx
  have H : Hid (decide (0 ≤ idxR (fun y => y == x) xs) = has xs x) := idxR_any _ xs
  clear h hx
  generalize idxR (fun y => y == x) xs = k at *
  go_enter Tryd.func73, Tryd.ntmps73
  go_wp2_with fail
  refine Calls.mono hc ?_
  rintro e w2 ⟨rfl, hd⟩
  clear hc
  go_wp2_with fail
  go_ret
  exact ⟨ret_bool H.out, hd⟩
end Go.Proofs.YtnndaboaeijbkaaDoor
