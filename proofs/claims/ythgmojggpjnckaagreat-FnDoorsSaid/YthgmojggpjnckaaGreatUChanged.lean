/- Proved: the doors that a further key changes, program and reference. -/
import Derived.Test.YthgmojggpjnckaaGreatChecked
import Derived.Test.YthgmojggpjnckaaGreatUPkF1
import Derived.Test.YthgmojggpjnckaaGreatUPkA
import Derived.Test.YthgmojggpjnckaaGreatUPkC
import Derived.Test.YthgmojggpjnckaaGreatUPkD
namespace Go.Proofs.YthgmojggpjnckaaGreat
open Go.ChangeShapes Go.WideShapes Go.ChangeAt Go.RowKit
set_option linter.unusedVariables false

def changeP (ls : List (List (List Int))) (rr key : List Int) (d : Int) : Bool := rr.getD d.toNat 0 == 1 && !opensB (ls.getD d.toNat []) key
def changedB (ls : List (List (List Int))) (rr key : List Int) (n : Nat) : List Int := upto (changeP ls rr key) n
def changedOf (mk : MK) (t cuts : List (List Int)) (rr key : List Int) : List Int × Int := if rowCode mk t cuts rr [key] = 0 then (changedB (locks mk t cuts) rr key (doorsOf t), 0) else ([], rowCode mk t cuts rr [key])
theorem changedOf_bad {mk : MK} {t cuts : List (List Int)} {rr key : List Int} (h : rowCode mk t cuts rr [key] ≠ 0) : changedOf mk t cuts rr key = ([], rowCode mk t cuts rr [key]) := by unfold changedOf; rw [if_neg h]
theorem changedOf_ok {mk : MK} {t cuts : List (List Int)} {rr key : List Int} (h : rowCode mk t cuts rr [key] = 0) : changedOf mk t cuts rr key = (changedB (locks mk t cuts) rr key (doorsOf t), 0) := by unfold changedOf; rw [if_pos h]
theorem changedOf_length (mk : MK) (t cuts : List (List Int)) (rr key : List Int) : ((changedOf mk t cuts rr key).1.length : Int) ≤ 1048576 := by
  by_cases h : rowCode mk t cuts rr [key] = 0
  · rw [changedOf_ok h]
    have h1 := upto_length (changeP (locks mk t cuts) rr key) (doorsOf t)
    have := (rowCode_zero h).doors
    show ((changedB _ _ _ _).length : Int) ≤ _
    unfold changedB
    omega
  · rw [changedOf_bad h]; simp

theorem changed_i64 {ls : List (List (List Int))} {rr key : List Int} {n : Nat} (h : n ≤ 12) : ∀ x ∈ changedB ls rr key n, I64 x := upto_i64 (by omega)
end Go.Proofs.YthgmojggpjnckaaGreat
