/- Proved: the comparison of MinimalHittings' sort. -/
import Derived.Test.YtaogpbhgoeepbaaChecked
import Derived.Test.YtaogpbhgoeepbaaUMembers
import Derived.Test.YtaogpbhgoeepbaaUMinimalsLaw
namespace Go.Proofs.Ytaogpbhgoeepbaa
open Go.ChangeShapes Go.WideShapes Go.ChangeAt Go.RowKit
set_option linter.unusedVariables false

def cmpR (a b : List Int) : Int := if a.length = b.length then cmpL a b else (a.length : Int) - b.length
theorem cmpR_less (a b : List Int) : decide (cmpR a b < 0) = lessL a b := by
  rw [Bool.eq_iff_iff, decide_eq_true_iff, lessL_iff]
  unfold cmpR
  split <;> omega
theorem lessL_ntrans {a b c : List Int} (h1 : lessL a b = false) (h2 : lessL b c = false) : lessL a c = false := by
  rw [Bool.eq_false_iff]
  intro h
  cases hba : lessL b a with
  | true => rw [lessL_trans hba h] at h2; cases h2
  | false =>
    have := lessL_total a b h1 hba
    subst this
    rw [h] at h2; cases h2

set_option maxHeartbeats 400000 in
theorem cmpRows_c (w : World) (u v : Value) (y z : Zone) (xs ys : List Int) (h : IntsR y w u xs) (h' : IntsR z w v ys) :
    Calls Try.prog 78 #[u, v] w (RetQ w (.int .i64 (cmpR xs ys))) := by
  have hcall := CompareInts_c w u v y z xs ys h h'
  obtain ⟨a, n, cap, rfl, hn, hm, -⟩ := IntsR.shape h
  obtain ⟨a', n', cap', rfl, hn', hm', -⟩ := IntsR.shape h'
  by_cases hl : n = n'
  · have HH : Hid (cmpR xs ys = cmpL xs ys) := by show _ = _; unfold cmpR; rw [if_pos (by omega)]
    have d1 : ((n : Int) != (n' : Int)) = false := by simp; omega
    clear hn hn' h h'
    subst hl
    go_enter Try.func78, Try.ntmps78
    go_wp2_with fail
    refine Calls.mono hcall ?_
    rintro e w1 ⟨rfl, d⟩
    go_wp2_with fail
    go_ret
    exact ⟨ret_int HH.out.symm, d⟩
  · have HH : Hid (cmpR xs ys = (n : Int) - n') := by show _ = _; unfold cmpR; rw [if_neg (by omega)]; omega
    have d1 : ((n : Int) != (n' : Int)) = true := by simp; omega
    clear hn hn' h h' hcall
    go_enter Try.func78, Try.ntmps78
    go_wp2_with fail
    go_ret
    exact ⟨ret_int HH.out.symm, Drew.refl _⟩
end Go.Proofs.Ytaogpbhgoeepbaa
