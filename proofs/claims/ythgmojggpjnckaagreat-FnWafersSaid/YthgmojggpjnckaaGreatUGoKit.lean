/- Proved: lists in fewer blocks; a copy of a list of rows. -/
import Derived.Test.YthgmojggpjnckaaGreatChecked
import Derived.Test.YthgmojggpjnckaaGreatUPkF2
import Derived.Test.YthgmojggpjnckaaGreatUPkC
namespace Go.Proofs.YthgmojggpjnckaaGreat
open Go.ChangeShapes Go.WideShapes Go.ChangeAt Go.RowKit
set_option linter.unusedVariables false

/-- what reads E reads it in the blocks that are there -/
def Shrinks {α : Type} (E : Repr α) : Prop := ∀ z w u x, E z w u x → E ⟨z.lo, min z.hi w.heap.size, false⟩ w u x
theorem shrinks_int : Shrinks IntR := fun _ _ _ _ h => h
theorem shrinks_slice {α : Type} {E : Repr α} (hE : Shrinks E) : Shrinks (SliceR E) := by
  rintro z w u x ⟨a, cap, rfl, h1, h2, h3, h4⟩
  refine ⟨a, cap, rfl, h1, h2, h3, fun ad had hp => ?_⟩
  obtain ⟨k1, k2, k3, k4, Z, k5, k6, k7⟩ := h4 ad had hp
  refine ⟨k1, ⟨k2.1, by have := k2.2; show ad.block < min z.hi w.heap.size; omega⟩, k3, (fun h => by cases h), fun i => ⟨(Z i).lo, min (Z i).hi w.heap.size, false⟩, fun i hi => ⟨fun k hk => ?_, fun h => by cases h⟩, (fun h => by cases h), fun i hi => ?_⟩
  · have q1 := hk.1
    have q2 := hk.2
    simp only at q1 q2
    have q3 := (k5 i hi).1 k ⟨q1, by show k < (Z i).hi; omega⟩
    exact ⟨q3.1, by have := q3.2; show k < min z.hi w.heap.size; omega⟩
  · obtain ⟨u, c1, c2⟩ := k7 i hi
    exact ⟨u, c1, hE _ _ _ _ c2⟩
theorem shrinks_ints : Shrinks IntsR := shrinks_slice shrinks_int
theorem shrinks_rows : Shrinks RowsR := shrinks_slice shrinks_ints
theorem shrinks_locks : Shrinks LocksR := shrinks_slice shrinks_rows

set_option maxRecDepth 20000 in
set_option maxHeartbeats 400000 in
/-- slices.Clone of a list of rows: a row of its own, the rows where they lie -/
theorem CloneRows_c (w : World) (u : Value) (A : Nat → Prop) (cuts : List (List Int)) (hc : RowsA A w u cuts) (hn1 : cuts.length ≤ 1000) :
    Calls Tryz.prog 169 #[u] w (Ret w fun r w' => OwnA false A IntsR 41 w.heap.size w' r cuts) := by
  obtain ⟨a, n, cap, rfl, hn, -, -, -, hnone, -⟩ := SliceR.shape hc.rows
  have hq := fun (wq : World) => Lib.run_eql_slice_nil (P := Tryz.prog) wq 30 41 a n cap 0 0 Tryz.underlying30
  have Hn := Lib.hid hn
  have HC := Lib.hid hc
  rw [← hn] at hn1
  clear hn hc
  cases a with
  | none =>
    obtain ⟨rfl, rfl⟩ := hnone rfl
    have hx : cuts = [] := List.eq_nil_of_length_eq_zero Hn.out.symm
    subst hx
    go_enter Tryz.func169, Tryz.ntmps169
    go_wp2_with fail
    go_ret
    exact ⟨_, rfl, OwnA.none, Below.refl _ _⟩
  | some ad =>
    clear hnone
    go_enter Tryz.func169, Tryz.ntmps169
    go_wp2_with (at_builtin; (refine wpList_append_of rfl _ _ 30 rfl rfl rfl (fun ty => run_aliasA 30 ty Tryz.underlying30 Tryz.infoInts HC.out hn1 rfl rfl) ?_; intro v6 w6 h6))
    go_ret
    exact ⟨_, rfl, h6.1, h6.2⟩
end Go.Proofs.YthgmojggpjnckaaGreat
