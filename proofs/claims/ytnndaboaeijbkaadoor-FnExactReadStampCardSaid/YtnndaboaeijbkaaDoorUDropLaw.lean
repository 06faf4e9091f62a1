/- Proved: what DropDoor computes, and the reference's check of a pair. -/
import Derived.Test.YtnndaboaeijbkaaDoorChecked
import Derived.Test.YtnndaboaeijbkaaDoorUDesign
import Derived.Test.YtnndaboaeijbkaaDoorUSysRes
import Derived.Test.YtnndaboaeijbkaaDoorUReplace
namespace Go.Proofs.YtnndaboaeijbkaaDoor
open Go.ChangeShapes Go.WideShapes Go.ChangeAt Go.RowKit
set_option linter.unusedVariables false

def delAt (d : Nat) (r : List Int) : List Int := r.take d ++ r.drop (d + 1)
def dropDoor (mk : MK) (t cuts : List (List Int)) (d : Int) : (MK × List (List Int)) × Int :=
  if designCode mk t cuts ≠ 0 then ((noSys, []), designCode mk t cuts) else if inB d 0 ((doorsOf t : Int) - 1) = false then ((noSys, []), 2) else if doorsOf t = 1 then ((noSys, []), 5) else ((mk, mapI (fun _ r => delAt d.toNat r) t t.length), 0)
theorem dropDoor_bad {mk : MK} {t cuts : List (List Int)} {d : Int} (h : designCode mk t cuts ≠ 0) : dropDoor mk t cuts d = ((noSys, []), designCode mk t cuts) := by unfold dropDoor; rw [if_pos h]
theorem dropDoor_range {mk : MK} {t cuts : List (List Int)} {d : Int} (h : designCode mk t cuts = 0) (h2 : inB d 0 ((doorsOf t : Int) - 1) = false) : dropDoor mk t cuts d = ((noSys, []), 2) := by unfold dropDoor; rw [if_neg (by omega), if_pos h2]
theorem dropDoor_one {mk : MK} {t cuts : List (List Int)} {d : Int} (h : designCode mk t cuts = 0) (h2 : inB d 0 ((doorsOf t : Int) - 1) = true) (h3 : doorsOf t = 1) : dropDoor mk t cuts d = ((noSys, []), 5) := by unfold dropDoor; rw [if_neg (by omega), if_neg (by rw [h2]; decide), if_pos h3]
theorem dropDoor_ok {mk : MK} {t cuts : List (List Int)} {d : Int} (h : designCode mk t cuts = 0) (h2 : inB d 0 ((doorsOf t : Int) - 1) = true) (h3 : doorsOf t ≠ 1) : dropDoor mk t cuts d = ((mk, mapI (fun _ r => delAt d.toNat r) t t.length), 0) := by unfold dropDoor; rw [if_neg (by omega), if_neg (by rw [h2]; decide), if_neg h3]
def pairB (t : List (List Int)) (k d : Int) : Bool := inB k 0 ((t.length : Int) - 1) && inB d 0 ((doorsOf t : Int) - 1)
end Go.Proofs.YtnndaboaeijbkaaDoor
