/- Proved: the sum of a list, in the laws. -/
import Derived.Test.YtegmognpofcfiaaGreatChecked
import Derived.Test.YtegmognpofcfiaaGreatUPkA
namespace Go.Proofs.YtegmognpofcfiaaGreat
open Go.ChangeShapes Go.WideShapes Go.ChangeAt Go.RowKit
set_option linter.unusedVariables false

theorem take_succ_sum {xs : List Int} {k : Nat} (h : k < xs.length) : (xs.take (k + 1)).sum = (xs.take k).sum + xs.getD k 0 := by
  rw [List.take_add_one, List.sum_append]
  simp [h]
set_option maxRecDepth 20000 in
set_option maxHeartbeats 1000000 in
theorem sum_c (w : World) (v : Value) (z : Zone) (xs : List Int) (h : IntsR z w v xs) (hb : ∀ k, k ≤ xs.length → I64 (xs.take k).sum) :
    Calls Tryz.prog 21 #[v] w (RetQ w (.int .i64 xs.sum)) := by
  obtain ⟨a, len, cap, rfl, hlen, hmax, -, -, -, hel⟩ := IntsR.shape h
  have Hlen := Lib.hid hlen
  have HB := Lib.hid hb
  have HS : Hid (∀ k, k < xs.length → (xs.take (k + 1)).sum = (xs.take k).sum + xs.getD k 0) := fun k hk => take_succ_sum hk
  have HEl := Lib.hid hel
  clear hlen h hb hel
  go_enter Tryz.func21, Tryz.ntmps21
  go_wp2_with fail
  go_loopw [3, 4] (fun s t wr => ∃ k : Nat, k ≤ len ∧ s = .int .i64 (xs.take k).sum ∧ t = .int .i64 k ∧ Drew w wr) (fun _ t _ => len - (intOf t).toNat)
  case atStart => exact ⟨0, Nat.zero_le _, by simp, rfl, Drew.refl _⟩
  case round =>
    obtain ⟨k, hk, rfl, rfl, hd⟩ := hrel
    by_cases hlt : k < len
    · obtain ⟨b, off, rfl, hc, hi, -⟩ := HEl.out k hlt
      replace hc := (hd.cell ⟨b, off + k, none⟩).trans hc
      have hs := HS.out k (by rw [← Hlen.out]; exact hlt)
      have hI := HB.out (k + 1) (by rw [← Hlen.out]; exact hlt)
      rw [hs] at hI
      have hw : IntKind.i64.wrap ((xs.take k).sum + xs.getD k 0) = (xs.take k).sum + xs.getD k 0 := IntWalk.i64_in _ hI
      have HSm := Lib.hid hs
      clear hs
      generalize (xs.take k).sum = s0 at *
      generalize xs.getD k 0 = x0 at *
      go_wp2_with fail
      go_roundw
      case rel => exact ⟨k + 1, hlt, by rw [HSm.out], by go_num, hd⟩
      case measure => simp [intOf]; omega
    · have hkn : k = xs.length := by rw [← Hlen.out]; omega
      subst hkn
      go_wp2_with fail
      go_ret
      exact ⟨by rw [List.take_length]; rfl, hd⟩
end Go.Proofs.YtegmognpofcfiaaGreat
