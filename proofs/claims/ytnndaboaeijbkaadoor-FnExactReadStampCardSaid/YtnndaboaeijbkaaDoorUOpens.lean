/- Proved: whether cuts open a lock, program and reference. -/
import Derived.Test.YtnndaboaeijbkaaDoorChecked
import Derived.Test.YtnndaboaeijbkaaDoorUSys
namespace Go.Proofs.YtnndaboaeijbkaaDoor
open Go.ChangeShapes Go.WideShapes Go.ChangeAt Go.RowKit
set_option linter.unusedVariables false

theorem opensB_no {l : List (List Int)} {xs : List Int} (i : Nat) (hi : i < xs.length) (h : has (l.getD i []) (xs.getD i 0) = false) : opensB l xs = false := by
  unfold opensB; rw [List.all_eq_false]; exact ⟨i, List.mem_range.2 hi, by rw [h]; decide⟩
theorem opensB_yes {l : List (List Int)} {xs : List Int} (h : ∀ i, i < xs.length → has (l.getD i []) (xs.getD i 0) = true) : opensB l xs = true := by
  unfold opensB; rw [List.all_eq_true]; intro i hi; exact h i (List.mem_range.1 hi)
/-- element k of a list, in any later world -/
theorem ints_at {w : World} {a : Option Addr} {n cap : Nat} {z : Zone} {t : List Int} (h : IntsR z w (.slice a n cap) t) {k : Nat} (hk : k < n) :
    ∃ b off, a = some ⟨b, off, none⟩ ∧ I64 (t.getD k 0) ∧ ∀ w', Ext w w' → w'.cell? ⟨b, off + k, none⟩ = some (.int .i64 (t.getD k 0)) := by
  obtain ⟨a', n', c', he, hn, hmax, -, -, -, hel⟩ := IntsR.shape h
  injection he with e1 e2 e3
  subst e1; subst e2; subst e3
  obtain ⟨b, off, rfl, hc, hi, -⟩ := hel k hk
  exact ⟨b, off, rfl, hi, fun w' e => e.cell hc⟩
end Go.Proofs.YtnndaboaeijbkaaDoor
