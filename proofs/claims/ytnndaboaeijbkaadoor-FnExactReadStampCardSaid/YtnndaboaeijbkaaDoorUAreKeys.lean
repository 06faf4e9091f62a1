/- Proved: whether lists are keys of a maker, and the code of a system and its cuts, program and reference. -/
import Derived.Test.YtnndaboaeijbkaaDoorChecked
import Derived.Deep.RegionHeld3
import Derived.Test.YtnndaboaeijbkaaDoorUKeyImpl
import Derived.Test.YtnndaboaeijbkaaDoorUIsSystem
import Derived.Test.YtnndaboaeijbkaaDoorUFuncsRows
namespace Go.Proofs.YtnndaboaeijbkaaDoor
open Go.ChangeShapes Go.WideShapes Go.ChangeAt Go.RowKit
set_option linter.unusedVariables false

/-- a maker by value lies in block b -/
def MkAt (w : World) (b : Nat) (mk : MK) : Prop := w.cell? ⟨b, 0, none⟩ = some (.int .i64 mk.c) ∧ w.cell? ⟨b, 1, none⟩ = some (.int .i64 mk.d) ∧ w.cell? ⟨b, 2, none⟩ = some (.int .i64 mk.s) ∧ w.cell? ⟨b, 3, none⟩ = some (.int .i64 mk.m) ∧ w.cell? ⟨b, 4, none⟩ = some (.int .i64 mk.l)
theorem mk_box {w w0 : World} {mk : MK} {t : TypeId} (h : w.alloc (.cells #[.int .i64 mk.c, .int .i64 mk.d, .int .i64 mk.s, .int .i64 mk.m, .int .i64 mk.l] t) = w0) : Ext w w0 ∧ MkAt w0 w.heap.size mk := by
  subst h
  exact ⟨Ext.alloc _ _, by simp, by simp, by simp, by simp, by simp⟩
theorem MkAt.ext {w w' : World} {b : Nat} {mk : MK} (h : MkAt w b mk) (e : Ext w w') : MkAt w' b mk := ⟨e.cell h.1, e.cell h.2.1, e.cell h.2.2.1, e.cell h.2.2.2.1, e.cell h.2.2.2.2⟩

/-- the code of a system and its cuts -/
def sysCode (mk : MK) (t cuts : List (List Int)) : Int := if isSystem mk t = false then 1 else if (decide (cuts.length = t.length) && areKeysB mk cuts) = false then 2 else 0
theorem sysCode_no {mk : MK} {t cuts : List (List Int)} (h : isSystem mk t = false) : sysCode mk t cuts = 1 := by unfold sysCode; rw [if_pos h]
theorem sysCode_len {mk : MK} {t cuts : List (List Int)} (h : isSystem mk t = true) (h2 : cuts.length ≠ t.length) : sysCode mk t cuts = 2 := by unfold sysCode; rw [if_neg (by rw [h]; decide), decide_eq_false h2, Bool.false_and, if_pos rfl]
theorem sysCode_key {mk : MK} {t cuts : List (List Int)} (h : isSystem mk t = true) (h2 : cuts.length = t.length) : sysCode mk t cuts = if areKeysB mk cuts = true then 0 else 2 := by
  unfold sysCode; rw [if_neg (by rw [h]; decide), decide_eq_true h2, Bool.true_and]
  cases areKeysB mk cuts <;> rfl
theorem sysMaker {mk : MK} {t : List (List Int)} (h : isSystem mk t = true) : isMaker mk = true := by
  unfold isSystem at h; exact (Bool.and_eq_true_iff.1 h).1
end Go.Proofs.YtnndaboaeijbkaaDoor
