/- Proved: spec.l01Has for lists of integers. -/
import Derived.Test.YtnndaboaeijbkaaDoorChecked
import Derived.Test.YtnndaboaeijbkaaDoorUBase
namespace Go.Proofs.YtnndaboaeijbkaaDoor
open Go.ChangeShapes Go.WideShapes Go.ChangeAt Go.RowKit
set_option linter.unusedVariables false

def has (xs : List Int) (x : Int) : Bool := xs.any fun y => y == x
theorem has_at {xs : List Int} {x : Int} (k : Nat) (h : k < xs.length) (hx : xs.getD k 0 = x) : has xs x = true := by
  unfold has; rw [List.any_eq_true]; exact ⟨xs[k], List.getElem_mem h, by have : xs[k] = x := by simpa [h] using hx
                                                                          simp [this]⟩
theorem has_no {xs : List Int} {x : Int} (h : ∀ k, k < xs.length → xs.getD k 0 ≠ x) : has xs x = false := by
  unfold has; rw [List.any_eq_false]; intro y hy
  obtain ⟨i, hi, rfl⟩ := List.getElem_of_mem hy
  have := h i hi
  simpa [hi] using this
theorem has_iff {xs : List Int} {x : Int} : has xs x = true ↔ x ∈ xs := by simp [has]

set_option maxHeartbeats 400000 in
theorem Has_c (w : World) (v : Value) (z : Zone) (xs : List Int) (x : Int) (h : IntsR z w v xs) (hx : I64 x) :
    Calls Tryd.prog 56 #[v, .int .i64 x] w (RetQ w (.bool (has xs x))) := by
  obtain ⟨a, len, cap, rfl, hlen, hmax, -, -, -, hel⟩ := IntsR.shape h
  have Hlen := Lib.hid hlen; clear hlen h
  have Hel := Lib.hid hel; clear hel
  unfold I64 at hx
  obtain ⟨n1, n2⟩ := hx
  go_enter Tryd.func56, Tryd.ntmps56
  go_wp2
  go_loop [5] (fun t => ∃ i : Nat, i ≤ len ∧ t = .int .i64 i ∧ ∀ j, j < i → xs.getD j 0 ≠ x) (fun t => len - (intOf t).toNat)
  case atStart => exact ⟨0, Nat.zero_le _, rfl, by simp⟩
  case round =>
    obtain ⟨i, hi, rfl, hall⟩ := hrel
    have Hall := Lib.hid hall; clear hall
    by_cases hlt : i < len
    · obtain ⟨b, off, rfl, hc, ⟨hx1, hx2⟩, -⟩ := Hel.out i hlt
      have Hgo : Hid (xs.getD i 0 ≠ x → ∀ j, j < i + 1 → xs.getD j 0 ≠ x) := fun h j hj => by
        by_cases e : j = i
        · rw [e]; exact h
        · exact Hall.out j (by omega)
      have Hyes : Hid (xs.getD i 0 = x → has xs x = true) := fun h => has_at i (by have := Hlen.out; omega) h
      generalize xs.getD i 0 = y at *
      by_cases hyx : y = x
      · have HH := Lib.hid (Hyes.out hyx)
        have hb : (y == x) = true := by simpa using hyx
        clear Hyes hyx
        go_wp2
        go_ret
        exact ⟨ret_bool' HH.out, Drew.refl _⟩
      · have HH := Lib.hid (Hgo.out hyx)
        have hb : (y == x) = false := by simpa using hyx
        clear Hgo hyx
        go_wp2
        go_round
        case rel => exact ⟨i + 1, by omega, by go_num, HH.out⟩
        case measure => simp [intOf]; omega
    · go_wp2
      go_ret
      exact ⟨ret_bool' (has_no (fun j hj => Hall.out j (by have := Hlen.out; omega))), Drew.refl _⟩
end Go.Proofs.YtnndaboaeijbkaaDoor
