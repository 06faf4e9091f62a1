/- Proved: the code of a system, a design, a further row and a key, program and reference. -/
import Derived.Test.YtkeikjedbfomnaaGreatDoorChecked
import Derived.Test.YtkeikjedbfomnaaGreatDoorUPkD
import Derived.Test.YtkeikjedbfomnaaGreatDoorUPkC
namespace Go.Proofs.YtkeikjedbfomnaaGreatDoor
open Go.ChangeShapes Go.WideShapes Go.ChangeAt Go.RowKit
set_option linter.unusedVariables false

def rowOk (t : List (List Int)) (row : List Int) : Bool := decide (row.length = doorsOf t) && allB row 0 1
def rowCode (mk : MK) (t cuts : List (List Int)) (row : List Int) (keys : List (List Int)) : Int := if designCode mk t cuts ≠ 0 then designCode mk t cuts else if (rowOk t row && areKeysB mk keys) = false then 2 else if t.length = 10 then 3 else 0
theorem rowCode_bad {mk : MK} {t cuts : List (List Int)} {row : List Int} {keys : List (List Int)} (h : designCode mk t cuts ≠ 0) : rowCode mk t cuts row keys = designCode mk t cuts := by unfold rowCode; rw [if_pos h]
theorem rowCode_range {mk : MK} {t cuts : List (List Int)} {row : List Int} {keys : List (List Int)} (h : designCode mk t cuts = 0) (h2 : (rowOk t row && areKeysB mk keys) = false) : rowCode mk t cuts row keys = 2 := by unfold rowCode; rw [if_neg (by omega), if_pos h2]
theorem rowCode_ok {mk : MK} {t cuts : List (List Int)} {row : List Int} {keys : List (List Int)} (h : designCode mk t cuts = 0) (h2 : (rowOk t row && areKeysB mk keys) = true) : rowCode mk t cuts row keys = if t.length = 10 then 3 else 0 := by unfold rowCode; rw [if_neg (by omega), if_neg (by rw [h2]; decide)]
structure RowCodeOk (mk : MK) (t cuts : List (List Int)) (rr : List Int) (ks : List (List Int)) : Prop extends DesignOk mk t cuts where
  row_len : rr.length = doorsOf t
  row_bit : allB rr 0 1 = true
  row_keys : ∀ r ∈ ks, KeyOk mk r
  lt10 : t.length < 10
theorem rowCode_zero {mk : MK} {t cuts : List (List Int)} {row : List Int} {keys : List (List Int)} (h : rowCode mk t cuts row keys = 0) : RowCodeOk mk t cuts row keys := by
  by_cases h1 : designCode mk t cuts = 0
  · cases h2 : (rowOk t row && areKeysB mk keys) with
    | false => rw [rowCode_range h1 h2] at h; omega
    | true =>
      rw [rowCode_ok h1 h2] at h
      obtain ⟨h3, h4⟩ := Bool.and_eq_true_iff.1 h2
      unfold rowOk at h3
      obtain ⟨h5, h6⟩ := Bool.and_eq_true_iff.1 h3
      have hd := designCode_zero h1
      have := hd.len
      exact ⟨hd, of_decide_eq_true h5, h6, keysOk h4, by split at h <;> omega⟩
  · rw [rowCode_bad h1] at h; exact absurd h h1
/-- one list in a row of its own -/
theorem rows_one {w w1 : World} {z : Zone} {a : Option Addr} {n c : Nat} {xs : List Int} {e : TypeId} (h : IntsR z w (.slice a n c) xs) (hw : w.alloc (.cells #[.slice a n c] e) = w1) : Ext w w1 ∧ RowsR ⟨0, w1.heap.size, false⟩ w1 (.slice (some ⟨w.heap.size, 0, none⟩) 1 1) [xs] := by
  subst hw
  have := SliceR.one (e := e) stable_ints (u := (a, n, c)) (IntsR.free h) (Nat.le_refl _) (Nat.le_refl _) (Nat.zero_le _)
  refine ⟨Ext.alloc _ _, ?_⟩
  simp only [World.size_alloc]
  exact this
end Go.Proofs.YtkeikjedbfomnaaGreatDoor
