/- Proved: the first rule that cuts do not keep, as the reference tells it. -/
import Derived.Test.YtejaobbdcnnknaaDoorChecked
import Derived.Test.YtejaobbdcnnknaaDoorUKeyLaw
import Derived.Test.YtejaobbdcnnknaaDoorUAbs
namespace Go.Proofs.YtejaobbdcnnknaaDoor
open Go.ChangeShapes Go.WideShapes Go.ChangeAt Go.RowKit
set_option linter.unusedVariables false

def runBefore (l : List Int) : Nat → Nat
  | 0 => 0
  | i+1 => runAt l i
theorem runBefore_le (l : List Int) (i : Nat) : runBefore l i ≤ i := by
  cases i with
  | zero => exact Nat.le_refl _
  | succ i => exact (runAt_pos l i).2
theorem farAt_zero (s : Int) (l : List Int) : farAt s l 0 = false := rfl
theorem farAt_pos {s : Int} {l : List Int} {i : Nat} (h : 0 < i) : farAt s l i = decide (s < ((l.getD i 0 - l.getD (i-1) 0).natAbs : Int)) := by
  unfold farAt; rw [decide_eq_true h]; rfl
theorem keyFault_len {mk : MK} {l : List Int} (h : (l.length : Int) ≠ mk.c) : keyFault mk l = 1 := by unfold keyFault; rw [if_pos h]
theorem keyFault_cuts {mk : MK} {l : List Int} (h : (l.length : Int) = mk.c) (h2 : cutsOk mk l = false) : keyFault mk l = 2 := by
  unfold keyFault; rw [if_neg (by omega), if_pos h2]
theorem keyFault_far {mk : MK} {l : List Int} (h : (l.length : Int) = mk.c) (h2 : cutsOk mk l = true) (h3 : farTo mk.s l l.length = true) : keyFault mk l = 3 := by
  unfold keyFault; rw [if_neg (by omega), if_neg (by rw [h2]; decide), if_pos h3]
theorem keyFault_run {mk : MK} {l : List Int} (h : (l.length : Int) = mk.c) (h2 : cutsOk mk l = true) (h3 : farTo mk.s l l.length = false) (h4 : mk.m < (mostTo l l.length : Int)) : keyFault mk l = 4 := by
  unfold keyFault; rw [if_neg (by omega), if_neg (by rw [h2]; decide), if_neg (by rw [h3]; decide), if_pos h4]
theorem keyFault_kinds {mk : MK} {l : List Int} (h : (l.length : Int) = mk.c) (h2 : cutsOk mk l = true) (h3 : farTo mk.s l l.length = false) (h4 : ¬ mk.m < (mostTo l l.length : Int)) : keyFault mk l = if (kinds l : Int) < mk.l then 5 else 0 := by
  unfold keyFault; rw [if_neg (by omega), if_neg (by rw [h2]; decide), if_neg (by rw [h3]; decide), if_neg h4]
theorem cuts_in {mk : MK} {l : List Int} (h : cutsOk mk l = true) (i : Nat) (hi : i < l.length) : 0 ≤ l.getD i 0 ∧ l.getD i 0 ≤ mk.d - 1 := by
  unfold cutsOk at h
  obtain ⟨h1, -⟩ := Bool.and_eq_true_iff.1 h
  have := (List.all_eq_true.1 h1) _ (List.getElem_mem hi)
  have e : l.getD i 0 = l[i] := by simp [hi]
  rw [e]; exact inB_iff.1 this
end Go.Proofs.YtejaobbdcnnknaaDoor
