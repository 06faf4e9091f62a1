/- Proved: what RetireKey computes. -/
import Derived.Test.YthgmojggpjnckaaGreatUDropLaw
import Derived.Test.YthgmojggpjnckaaGreatUDeleteRows
namespace Go.Proofs.YthgmojggpjnckaaGreat
open Go.ChangeShapes Go.WideShapes Go.ChangeAt Go.RowKit
set_option linter.unusedVariables false

abbrev SysRows : Type := (MK × List (List Int)) × (List (List Int) × Int)
def noRes (c : Int) : SysRows := ((noSys, []), ([], c))
def retireKey (mk : MK) (t cuts : List (List Int)) (k : Int) : SysRows :=
  if designCode mk t cuts ≠ 0 then noRes (designCode mk t cuts) else if inB k 0 ((cuts.length : Int) - 1) = false then noRes 2 else if isSystem mk (rmAt k.toNat t) = false then noRes 5 else ((mk, rmAt k.toNat t), (rmAt k.toNat cuts, 0))
theorem retire_bad {mk : MK} {t cuts : List (List Int)} {d : Int} (h : designCode mk t cuts ≠ 0) : retireKey mk t cuts d = noRes (designCode mk t cuts) := by unfold retireKey; rw [if_pos h]
theorem retire_range {mk : MK} {t cuts : List (List Int)} {d : Int} (h : designCode mk t cuts = 0) (h2 : inB d 0 ((cuts.length : Int) - 1) = false) : retireKey mk t cuts d = noRes 2 := by unfold retireKey; rw [if_neg (by omega), if_pos h2]
theorem retire_state {mk : MK} {t cuts : List (List Int)} {d : Nat} (h : designCode mk t cuts = 0) (h2 : inB d 0 ((cuts.length : Int) - 1) = true) (h3 : isSystem mk (rmAt d t) = false) : retireKey mk t cuts d = noRes 5 := by unfold retireKey; rw [if_neg (by omega), if_neg (by rw [h2]; decide), Int.toNat_natCast, if_pos h3]
theorem retire_ok {mk : MK} {t cuts : List (List Int)} {d : Nat} (h : designCode mk t cuts = 0) (h2 : inB d 0 ((cuts.length : Int) - 1) = true) (h3 : isSystem mk (rmAt d t) = true) : retireKey mk t cuts d = ((mk, rmAt d t), (rmAt d cuts, 0)) := by unfold retireKey; rw [if_neg (by omega), if_neg (by rw [h2]; decide), Int.toNat_natCast, if_neg (by rw [h3]; decide)]
/-- a system, a list of lists and a code: the first lies before the second -/
def SysRes2 (w : World) (x : SysRows) (r : Value) (w' : World) : Prop := ∃ u0 u1 m, r = .tuple #[sysV x.1.1 u0, u1, .int .i64 x.2.2] ∧ (w.heap.size ≤ m ∧ m ≤ w'.heap.size) ∧ RowsR ⟨w.heap.size, m, true⟩ w' u0 x.1.2 ∧ RowsR ⟨m, w'.heap.size, true⟩ w' u1 x.2.1
theorem SysRes2.bad {w w' : World} {x : SysRows} {c : Int} (h : x = noRes c) (hs : w.heap.size ≤ w'.heap.size) : SysRes2 w x (.tuple #[sysV noSys (.slice none 0 0), .slice none 0 0, .int .i64 c]) w' := by
  subst h; exact ⟨_, _, _, rfl, ⟨Nat.le_refl _, hs⟩, SliceR.nil _ _ _, SliceR.nil _ _ _⟩
theorem DesignOk.rowLen {mk : MK} {t cuts : List (List Int)} (ok : DesignOk mk t cuts) {k : Nat} (hk : k < cuts.length) : (cuts.getD k []).length ≤ 6 := by
  have hm : cuts.getD k [] ∈ cuts := by simp [List.getD_eq_getElem?_getD, hk]
  have := (ok.key _ hm).len
  have := ok.mk1
  omega
end Go.Proofs.YthgmojggpjnckaaGreat
