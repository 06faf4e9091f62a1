/- Proved: the laws' own helpers that mark a list of integers and look whether it is marked. -/
import Derived.Test.YtgagjibjnaappaaChecked
import Derived.Test.YtgagjibjnaappaaULawInts
namespace Go.Proofs.Ytgagjibjnaappaa
open Go.ChangeShapes Go.WideShapes Go.ChangeAt Go.RowKit
set_option linter.unusedVariables false

/-! ### marks -/
def marks (k : Int) (n : Nat) : List Int := (List.range n).map fun (i : Nat) => k + (i : Int)
theorem marks_length (k : Int) (n : Nat) : (marks k n).length = n := by simp [marks]
theorem marks_get (k : Int) (n i : Nat) (h : i < n) : (marks k n)[i]? = some (k + i) := by simp [marks, h]
theorem marks_set (k : Int) (xs : List Int) (i : Nat) (h : i < xs.length) : (marks k i ++ xs.drop i).set i (k + i) = marks k (i+1) ++ xs.drop (i+1) := by
  rw [List.set_append_right _ _ (by simp [marks]), marks_length, Nat.sub_self]
  rw [List.drop_eq_getElem_cons h, List.set_cons_zero]
  simp [marks, List.range_succ]
/-- what markInt64S leaves -/
def MarkPost (w : World) (z : Zone) (v : Value) (k : Int) (n : Nat) (e : Ending) (w' : World) : Prop := e = .returned (.int .i64 (k + n)) ∧ IntsR z w' v (marks k n) ∧ Within z w w'

set_option maxHeartbeats 400000 in
theorem markInt64S_c (w : World) (v : Value) (z : Zone) (xs : List Int) (k0 : Int) (h : IntsR z w v xs) (ho : z.own = true) (h0 : 0 ≤ k0) (h1 : k0 + xs.length ≤ 4611686018427387904) :
    Calls Try.prog 27 #[v, .int .i64 k0] w (MarkPost w z v k0 xs.length) := by
  obtain ⟨a, n, cap, rfl, hn, hmax, -, -, -, -⟩ := IntsR.shape h
  have Hn := Lib.hid hn
  rw [← hn] at h1
  rw [← hn]
  clear hn
  have H := Lib.hid h; clear h
  have Ho := Lib.hid ho; clear ho
  go_enter Try.func27, Try.ntmps27
  go_wp2
  go_loopw [1, 5] (fun s t wr => ∃ i : Nat, i ≤ n ∧ t = .int .i64 i ∧ s = .int .i64 (k0 + i) ∧ IntsR z wr (.slice a n cap) (marks k0 i ++ xs.drop i) ∧ Within z w wr) (fun _ t _ => n - (intOf t).toNat)
  case atStart => exact ⟨0, Nat.zero_le _, rfl, by simp, by simpa [marks] using H.out, Within.refl _ _⟩
  case round =>
    obtain ⟨i, hi, rfl, rfl, hr, hw⟩ := hrel
    by_cases hlt : i < n
    · have hn := Hn.out
      have hsh := SliceR.shape hr
      obtain ⟨a', n', cap', he, hn', -, -, -, -, hel⟩ := hsh
      injection he with e1 e2 e3
      subst e1; subst e3
      obtain ⟨b, off, rfl, hb1, hb2, hfz, u, y, hc, -, -, -⟩ := hel i (by rw [← hn', ← e2]; exact hlt)
      have hf := hfz Ho.out
      have Hst := Lib.hid (SliceR.store stable_int hr Ho.out i hlt (.int .i64 (k0 + i)) (k0 + i) (fun _ _ => ⟨rfl, by unfold I64; omega⟩))
      have hw' : Within z w (wr.setCell ⟨b, off + i, none⟩ (.int .i64 (k0 + i))) := hw.setCell hb1 _
      have He : Hid ((marks k0 i ++ xs.drop i).set i (k0 + i) = marks k0 (i+1) ++ xs.drop (i+1)) := marks_set k0 xs i (by omega)
      clear hel hfz hn hn' e2 hr hb1 hb2
      go_wp2
      go_roundw
      case rel => exact ⟨i + 1, by omega, by go_num, by go_num, by rw [← He.out]; exact Hst.out, hw'⟩
      case measure => simp [intOf]; omega
    · have hin : i = n := by omega
      go_wp2
      go_ret
      subst hin
      refine ⟨rfl, ?_, hw⟩
      have := Hn.out
      rw [List.drop_of_length_le (by omega), List.append_nil] at hr
      exact hr

set_option maxHeartbeats 400000 in
theorem heldInt64S_c (w : World) (v : Value) (z : Zone) (n : Nat) (k0 : Int) (h : IntsR z w v (marks k0 n)) (h0 : 0 ≤ k0) (h1 : k0 + n ≤ 4611686018427387904) :
    Calls Try.prog 28 #[v, .int .i64 k0] w (RetQ w (.int .i64 (k0 + n))) := by
  obtain ⟨a, n', cap, rfl, hn, hmax, -, -, -, hel⟩ := IntsR.shape h
  rw [marks_length] at hn
  subst hn
  clear h
  have Hel := Lib.hid hel; clear hel
  go_enter Try.func28, Try.ntmps28
  go_wp2
  go_loopw [1, 5] (fun s t wr => ∃ i : Nat, i ≤ n' ∧ t = .int .i64 i ∧ s = .int .i64 (k0 + i) ∧ Drew w wr) (fun _ t _ => n' - (intOf t).toNat)
  case atStart => exact ⟨0, Nat.zero_le _, rfl, by simp, Drew.refl _⟩
  case round =>
    obtain ⟨i, hi, rfl, rfl, hd⟩ := hrel
    by_cases hlt : i < n'
    · obtain ⟨b, off, rfl, hc, -, -⟩ := Hel.out i hlt
      have hx : (marks k0 n').getD i 0 = k0 + i := by simp [marks, hlt]
      rw [hx] at hc
      clear hx
      replace hc := (hd.cell _).trans hc
      go_wp2
      all_goals
        go_roundw
        case rel => exact ⟨i + 1, by omega, by go_num, by go_num, hd⟩
        case measure => simp [intOf]; omega
    · have hin : i = n' := by omega
      go_wp2
      go_ret
      subst hin
      exact ⟨rfl, hd⟩
end Go.Proofs.Ytgagjibjnaappaa
