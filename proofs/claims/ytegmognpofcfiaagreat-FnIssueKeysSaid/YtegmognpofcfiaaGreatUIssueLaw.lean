/- Proved: the keys that can be issued (plain). -/
import Derived.Test.YtegmognpofcfiaaGreatUCandLaw
import Derived.Test.YtegmognpofcfiaaGreatUCanSpec
namespace Go.Proofs.YtegmognpofcfiaaGreat
open Go.ChangeShapes Go.WideShapes Go.ChangeAt Go.RowKit
set_option linter.unusedVariables false

def issueKeys (mk : MK) (t cuts : List (List Int)) (row : List Int) (most : Int) : List (List Int) × Int :=
  if designCode mk t cuts ≠ 0 then ([], 1) else if inB most 0 300 = false then ([], 2) else if rowCode mk t cuts row [] ≠ 0 then ([], rowCode mk t cuts row []) else (candL mk (stays mk (t ++ [row]) cuts) most, 0)
theorem designCode_val (mk : MK) (t cuts : List (List Int)) : designCode mk t cuts = 0 ∨ designCode mk t cuts = 1 := by
  unfold designCode; split <;> simp
theorem rowCode_val {mk : MK} {t cuts : List (List Int)} {row : List Int} {keys : List (List Int)} (h : designCode mk t cuts = 0) : rowCode mk t cuts row keys ≠ 1 := by
  cases h2 : (rowOk t row && areKeysB mk keys) with
  | false => rw [rowCode_range h h2]; decide
  | true =>
    rw [rowCode_ok h h2]
    split <;> decide
theorem issueKeys_bad {mk : MK} {t cuts : List (List Int)} {row : List Int} {most : Int} (h : designCode mk t cuts ≠ 0) : issueKeys mk t cuts row most = ([], 1) := by unfold issueKeys; rw [if_pos h]
theorem issueKeys_most {mk : MK} {t cuts : List (List Int)} {row : List Int} {most : Int} (h : designCode mk t cuts = 0) (h2 : inB most 0 300 = false) : issueKeys mk t cuts row most = ([], 2) := by unfold issueKeys; rw [if_neg (by omega), if_pos h2]
theorem issueKeys_row {mk : MK} {t cuts : List (List Int)} {row : List Int} {most : Int} (h : designCode mk t cuts = 0) (h2 : inB most 0 300 = true) (h3 : rowCode mk t cuts row [] ≠ 0) : issueKeys mk t cuts row most = ([], rowCode mk t cuts row []) := by unfold issueKeys; rw [if_neg (by omega), if_neg (by rw [h2]; decide), if_pos h3]
theorem issueKeys_ok {mk : MK} {t cuts : List (List Int)} {row : List Int} {most : Int} (h : designCode mk t cuts = 0) (h2 : inB most 0 300 = true) (h3 : rowCode mk t cuts row [] = 0) : issueKeys mk t cuts row most = (candL mk (stays mk (t ++ [row]) cuts) most, 0) := by unfold issueKeys; rw [if_neg (by omega), if_neg (by rw [h2]; decide), if_neg (by omega)]
theorem filter_congr' {p q : List Int → Bool} {L : List (List Int)} (h : ∀ k ∈ L, p k = q k) : L.filter p = L.filter q := List.filter_congr h
theorem candL_congr {mk : MK} {p q : List Int → Bool} {most : Int} (h : ∀ k ∈ allK mk, p k = q k) : candL mk p most = candL mk q most := by
  unfold candL; rw [List.filter_congr h]
theorem designOk_mk {mk : MK} {t cuts : List (List Int)} (h : DesignOk mk t cuts) : MkOk mk := mkOk (sysMaker h.sys)
/-- what the reference asks of a key -/
theorem cand_stays {mk : MK} {t cuts : List (List Int)} {row : List Int} {keys : List (List Int)} (h : rowCode mk t cuts row keys = 0) (k : List Int) (hk : k ∈ allK mk) : decide (faults mk (t ++ [row]) (cuts ++ [k]) = 0) = stays mk (t ++ [row]) cuts k :=
  stays_law (rowCode_zero h).toDesignOk (rowCode_design h) (allK_key (designOk_mk (rowCode_zero h).toDesignOk) hk)
theorem candL_len {mk : MK} {p : List Int → Bool} {most : Int} : ∀ r ∈ candL mk p most, r.length = mk.c.toNat := fun r hr => (allK_mem (List.mem_filter.1 (List.mem_of_mem_take hr)).1).1
theorem rowCode_front {mk : MK} {t cuts : List (List Int)} {row : List Int} {keys : List (List Int)} (h : rowCode mk t cuts row keys = 0) : PartOk mk (t ++ [row]) cuts := partOk_front (rowCode_zero h)
end Go.Proofs.YtegmognpofcfiaaGreat
