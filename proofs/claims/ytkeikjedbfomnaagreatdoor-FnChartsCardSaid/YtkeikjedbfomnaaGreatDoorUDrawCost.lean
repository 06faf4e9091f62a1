/- Proved: the draw of a system, a design and prices: DrawCostOf. -/
import Derived.Test.YtkeikjedbfomnaaGreatDoorChecked
import Derived.Deep.RegionLaw
import Derived.Deep.RegionHeld3
import Derived.Deep.Cut
import Derived.Test.YtkeikjedbfomnaaGreatDoorUDrawDesign
namespace Go.Proofs.YtkeikjedbfomnaaGreatDoor
open Go.ChangeShapes Go.WideShapes Go.ChangeAt Go.RowKit
set_option linter.unusedVariables false

theorem ext_put6 {w w' : World} {B : Nat} (h : Ext w w') (hB : w.heap.size ≤ B) (u0 u1 u2 u3 u4 u5 : Value) : Ext w ((((((w'.setCell ⟨B, 0, none⟩ u0).setCell ⟨B, 1, none⟩ u1).setCell ⟨B, 2, none⟩ u2).setCell ⟨B, 3, none⟩ u3).setCell ⟨B, 4, none⟩ u4).setCell ⟨B, 5, none⟩ u5) :=
  Below.setCell (Below.setCell (Below.setCell (Below.setCell (Below.setCell (Below.setCell h (p := ⟨B, 0, none⟩) hB _) (p := ⟨B, 1, none⟩) hB _) (p := ⟨B, 2, none⟩) hB _) (p := ⟨B, 3, none⟩) hB _) (p := ⟨B, 4, none⟩) hB _) (p := ⟨B, 5, none⟩) hB _
theorem ints_put6 {L B : Nat} {b : Bool} {w' : World} {v : Value} {t : List Int} (h : IntsR ⟨L, w'.heap.size, b⟩ w' v t) (hB : B < L) (u0 u1 u2 u3 u4 u5 : Value) :
    IntsR ⟨B, ((((((w'.setCell ⟨B, 0, none⟩ u0).setCell ⟨B, 1, none⟩ u1).setCell ⟨B, 2, none⟩ u2).setCell ⟨B, 3, none⟩ u3).setCell ⟨B, 4, none⟩ u4).setCell ⟨B, 5, none⟩ u5).heap.size, false⟩ ((((((w'.setCell ⟨B, 0, none⟩ u0).setCell ⟨B, 1, none⟩ u1).setCell ⟨B, 2, none⟩ u2).setCell ⟨B, 3, none⟩ u3).setCell ⟨B, 4, none⟩ u4).setCell ⟨B, 5, none⟩ u5) v t := by
  rw [put6_size]
  exact stable_ints.sub (stable_ints.keep h (fun k hk _ => put6_other (by have := hk.1; simp only at this; omega) _ _ _ _ _ _)) ⟨fun k hk => ⟨by have := hk.1; simp only at this ⊢; omega, hk.2⟩, fun h => by cases h⟩
/-- a system, cuts and a list that a draw hands back -/
def SysCutsIntsD (w : World) (r : Value) (w' : World) : Prop := ∃ (mk : MK) (v : Value) (t : List (List Int)) (u : Value) (cuts : List (List Int)) (p : Value) (ps : List Int), r = .tuple #[sysV mk v, u, p] ∧ RowsR ⟨w.heap.size, w'.heap.size, false⟩ w' v t ∧ RowsR ⟨w.heap.size, w'.heap.size, false⟩ w' u cuts ∧ IntsR ⟨w.heap.size, w'.heap.size, false⟩ w' p ps
end Go.Proofs.YtkeikjedbfomnaaGreatDoor
