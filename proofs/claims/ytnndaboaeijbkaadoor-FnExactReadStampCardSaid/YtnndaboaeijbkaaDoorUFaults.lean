/- Proved: the false openings of a system, program and reference. -/
import Derived.Test.YtnndaboaeijbkaaDoorChecked
import Derived.Deep.RegionHeld3
import Derived.Test.YtnndaboaeijbkaaDoorUPkC
import Derived.Test.YtnndaboaeijbkaaDoorUOpens
namespace Go.Proofs.YtnndaboaeijbkaaDoor
open Go.ChangeShapes Go.WideShapes Go.ChangeAt Go.RowKit
set_option linter.unusedVariables false

/-- lock k of a list of locks, in any later world -/
theorem locks_at {w : World} {a : Option Addr} {n cap : Nat} {z : Zone} {ls : List (List (List Int))} (h : LocksR z w (.slice a n cap) ls) {k : Nat} (hk : k < n) :
    ∃ b off, a = some ⟨b, off, none⟩ ∧ ∃ a1 n1 c1, n1 = (ls.getD k []).length ∧ (∀ w', Ext w w' → w'.cell? ⟨b, off + k, none⟩ = some (.slice a1 n1 c1)) ∧ ∃ y : Zone, y.Sub ⟨z.lo, z.hi, false⟩ ∧ ∀ w', Ext w w' → RowsR y w' (.slice a1 n1 c1) (ls.getD k []) := by
  obtain ⟨a', n', c', he, hn, -, hel⟩ := SliceR.elem stable_rows h
  injection he with e1 e2 e3
  subst e1; subst e2; subst e3
  obtain ⟨b, off, rfl, hb, u, hc, hu⟩ := hel k (by omega)
  have e0 : ls[k]'(by omega) = ls.getD k [] := by simp [show k < ls.length by omega]
  rw [e0] at hu
  obtain ⟨a1, n1, c1, rfl, hn1, -⟩ := SliceR.shape hu
  exact ⟨b, off, rfl, a1, n1, c1, hn1, fun w' e => e.cell hc, _, Zone.Sub.refl _, fun w' e => stable_rows.ext hu e⟩
theorem locks_len (mk : MK) (t cuts : List (List Int)) : (locks mk t cuts).length = doorsOf t := locksTo_len mk t cuts _
theorem lock_len {mk : MK} {t cuts : List (List Int)} {d : Nat} (h : d < doorsOf t) : ((locks mk t cuts).getD d []).length = mk.c.toNat := by
  unfold locks locksTo
  simp [h, hull, hullTo_len]
/-- a list with so many elements -/
def LenP (n : Nat) (r : Value) (_ : World) : Prop := ∃ a m cap, r = .slice a m cap ∧ m = n ∧ m ≤ 1000000
end Go.Proofs.YtnndaboaeijbkaaDoor
