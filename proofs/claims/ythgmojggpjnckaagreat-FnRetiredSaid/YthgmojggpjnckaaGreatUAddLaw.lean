/- Proved: what AddDoor computes. -/
import Derived.Test.YthgmojggpjnckaaGreatUDropLaw
namespace Go.Proofs.YthgmojggpjnckaaGreat
open Go.ChangeShapes Go.WideShapes Go.ChangeAt Go.RowKit
set_option linter.unusedVariables false

def entB (m : Nat) (ps : List Int) : Bool := decide (ps.length = m) && allB ps 0 1
def addRow (col : List Int) (j : Nat) (r : List Int) : List Int := r ++ [col.getD j 0]
def addCol (t : List (List Int)) (col : List Int) : List (List Int) := mapI (addRow col) t t.length
def addDoor (mk : MK) (t cuts : List (List Int)) (col : List Int) : (MK × List (List Int)) × Int :=
  if designCode mk t cuts ≠ 0 then ((noSys, []), designCode mk t cuts) else if entB t.length col = false then ((noSys, []), 2) else if doorsOf t = 12 then ((noSys, []), 3) else if isDesign mk (addCol t col) cuts = false then ((noSys, []), 5) else ((mk, addCol t col), 0)
theorem addDoor_bad {mk : MK} {t cuts : List (List Int)} {col : List Int} (h : designCode mk t cuts ≠ 0) : addDoor mk t cuts col = ((noSys, []), designCode mk t cuts) := by unfold addDoor; rw [if_pos h]
theorem addDoor_range {mk : MK} {t cuts : List (List Int)} {col : List Int} (h : designCode mk t cuts = 0) (h2 : entB t.length col = false) : addDoor mk t cuts col = ((noSys, []), 2) := by unfold addDoor; rw [if_neg (by omega), if_pos h2]
theorem addDoor_most {mk : MK} {t cuts : List (List Int)} {col : List Int} (h : designCode mk t cuts = 0) (h2 : entB t.length col = true) (h3 : doorsOf t = 12) : addDoor mk t cuts col = ((noSys, []), 3) := by unfold addDoor; rw [if_neg (by omega), if_neg (by rw [h2]; decide), if_pos h3]
theorem addDoor_state {mk : MK} {t cuts : List (List Int)} {col : List Int} (h : designCode mk t cuts = 0) (h2 : entB t.length col = true) (h3 : doorsOf t ≠ 12) (h4 : isDesign mk (addCol t col) cuts = false) : addDoor mk t cuts col = ((noSys, []), 5) := by unfold addDoor; rw [if_neg (by omega), if_neg (by rw [h2]; decide), if_neg h3, if_pos h4]
theorem addDoor_ok {mk : MK} {t cuts : List (List Int)} {col : List Int} (h : designCode mk t cuts = 0) (h2 : entB t.length col = true) (h3 : doorsOf t ≠ 12) (h4 : isDesign mk (addCol t col) cuts = true) : addDoor mk t cuts col = ((mk, addCol t col), 0) := by unfold addDoor; rw [if_neg (by omega), if_neg (by rw [h2]; decide), if_neg h3, if_neg (by rw [h4]; decide)]
theorem entB_len {m : Nat} {ps : List Int} (h : entB m ps = true) : ps.length = m := of_decide_eq_true (Bool.and_eq_true_iff.1 h).1
end Go.Proofs.YthgmojggpjnckaaGreat
