/- Proved: whether cuts are a design of a system, program and reference. -/
import Derived.Test.YtnndaboaeijbkaaDoorChecked
import Derived.Test.YtnndaboaeijbkaaDoorUFaultsImpl
namespace Go.Proofs.YtnndaboaeijbkaaDoor
open Go.ChangeShapes Go.WideShapes Go.ChangeAt Go.RowKit
set_option linter.unusedVariables false

structure DesignOk (mk : MK) (t cuts : List (List Int)) : Prop extends PartOk mk t cuts where
  eq : cuts.length = t.length
  sys : isSystem mk t = true
  keys : areKeysB mk cuts = true
theorem sysCode_zero {mk : MK} {t cuts : List (List Int)} (h : sysCode mk t cuts = 0) : DesignOk mk t cuts ∧ isDesign mk t cuts = decide (faults mk t cuts = 0) := by
  unfold sysCode at h
  cases h1 : isSystem mk t with
  | false => rw [h1, if_pos rfl] at h; omega
  | true =>
    rw [h1, if_neg (by decide)] at h
    cases h2 : (decide (cuts.length = t.length) && areKeysB mk cuts) with
    | false => rw [h2, if_pos rfl] at h; omega
    | true =>
      obtain ⟨h3, h4⟩ := Bool.and_eq_true_iff.1 h2
      have h3 := of_decide_eq_true h3
      exact ⟨⟨⟨sysOk h1, by omega, keysOk h4⟩, h3, h1, h4⟩, by unfold isDesign; rw [h1, h2]; rfl⟩
theorem sysCode_bad {mk : MK} {t cuts : List (List Int)} (h : sysCode mk t cuts ≠ 0) : isDesign mk t cuts = false := by
  unfold sysCode at h
  unfold isDesign
  cases h1 : isSystem mk t with
  | false => rfl
  | true =>
    rw [h1, if_neg (by decide)] at h
    cases h2 : (decide (cuts.length = t.length) && areKeysB mk cuts) with
    | false => rfl
    | true => rw [h2, if_neg (by decide)] at h; exact absurd rfl h
theorem designOk {mk : MK} {t cuts : List (List Int)} (h : isDesign mk t cuts = true) : DesignOk mk t cuts := by
  by_cases e : sysCode mk t cuts = 0
  · exact (sysCode_zero e).1
  · rw [sysCode_bad e] at h; cases h

def designCode (mk : MK) (t cuts : List (List Int)) : Int := if isDesign mk t cuts = true then 0 else 1
theorem designCode_zero {mk : MK} {t cuts : List (List Int)} (h : designCode mk t cuts = 0) : DesignOk mk t cuts := by
  unfold designCode at h
  cases e : isDesign mk t cuts with
  | true => exact designOk e
  | false => rw [e, if_neg (by decide)] at h; omega
end Go.Proofs.YtnndaboaeijbkaaDoor
