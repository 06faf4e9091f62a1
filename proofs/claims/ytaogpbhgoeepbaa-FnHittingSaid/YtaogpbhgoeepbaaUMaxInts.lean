/- Proved: slices.Max at a list of numbers. -/
import Derived.Test.YtaogpbhgoeepbaaChecked
import Derived.Test.YtaogpbhgoeepbaaUHas
namespace Go.Proofs.Ytaogpbhgoeepbaa
open Go.ChangeShapes Go.WideShapes Go.ChangeAt Go.RowKit
set_option linter.unusedVariables false

def maxAt (xs : List Int) (k : Nat) : Int := (xs.take k).foldl max (xs.getD 0 0)
theorem maxAt_one {xs : List Int} (h : 0 < xs.length) : maxAt xs 1 = xs.getD 0 0 := by
  cases xs with
  | nil => simp at h
  | cons a l => simp [maxAt]
theorem maxAt_succ {xs : List Int} {k : Nat} (h : k < xs.length) : maxAt xs (k+1) = max (maxAt xs k) (xs.getD k 0) := by
  unfold maxAt; rw [List.take_add_one, List.getElem?_eq_getElem h, List.foldl_append]; simp [h]

set_option maxHeartbeats 400000 in
theorem MaxInts_c (w : World) (v : Value) (z : Zone) (xs : List Int) (h : IntsR z w v xs) (hx : 0 < xs.length) :
    Calls Try.prog 69 #[v] w (RetQ w (.int .i64 (maxAt xs xs.length))) := by
  obtain ⟨a, len, cap, rfl, hlen, hmax, -, -, -, hel⟩ := IntsR.shape h
  have hpos : 0 < len := by omega
  have H1 := Lib.hid (maxAt_one hx)
  have Hlen := Lib.hid hlen; clear hlen h hx
  have Hel := Lib.hid hel; clear hel
  obtain ⟨b0, off0, rfl, hc0, -, -⟩ := Hel.out 0 hpos
  rw [Nat.add_zero] at hc0
  go_enter Try.func69, Try.ntmps69
  go_wp2
  go_loop [3, 4] (fun m t => ∃ i : Nat, 1 ≤ i ∧ i ≤ len ∧ t = .int .i64 i ∧ m = .int .i64 (maxAt xs i)) (fun _ t => len - (intOf t).toNat)
  case atStart => exact ⟨1, by omega, hpos, rfl, by rw [H1.out, List.getD_eq_getElem?_getD]⟩
  case round =>
    obtain ⟨i, hi1, hi, rfl, rfl⟩ := hrel
    by_cases hlt : i < len
    · obtain ⟨b, off, e, hc, ⟨hx1, hx2⟩, -⟩ := Hel.out i hlt
      injection e with e; injection e with e1 e2 _
      subst e1; subst e2
      have HS := Lib.hid (maxAt_succ (xs := xs) (k := i) (by rw [← Hlen.out]; exact hlt))
      generalize xs.getD i 0 = y at *
      generalize maxAt xs i = m at *
      go_wp2
      go_round
      case rel => exact ⟨i + 1, by omega, by omega, by go_num, by rw [HS.out]; first | rfl | (go_num; done) | skip⟩
      case measure => simp [intOf]; omega
    · obtain rfl : i = len := by omega
      go_wp2
      go_ret
      exact ⟨ret_int (by rw [Hlen.out]), Drew.refl _⟩
end Go.Proofs.Ytaogpbhgoeepbaa
