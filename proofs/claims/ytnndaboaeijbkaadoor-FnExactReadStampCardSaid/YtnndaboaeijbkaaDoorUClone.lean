/- Proved: slices.Clone of a list of integers: a copy of the call's own. -/
import Derived.Test.YtnndaboaeijbkaaDoorChecked
import Derived.Test.YtnndaboaeijbkaaDoorUBase2
namespace Go.Proofs.YtnndaboaeijbkaaDoor
open Go.ChangeShapes Go.WideShapes Go.ChangeAt Go.RowKit
set_option linter.unusedVariables false

set_option maxHeartbeats 400000 in
theorem Clone_c (w : World) (v : Value) (z : Zone) (xs : List Int) (h : IntsR z w v xs) (hn : xs.length ≤ 1099511627776) :
    Calls Tryd.prog 58 #[v] w (Ret w fun r w' => OwnP (Value.int .i64) 2 w.heap.size w' r xs) := by
  obtain ⟨a, n, cap, rfl, hn', -, -, -, hnone, -⟩ := SliceR.shape h
  have hq := fun (wq : World) => Lib.run_eql_slice_nil (P := Tryd.prog) wq 28 2 a n cap 0 0 Tryd.underlying28
  have Hn := Lib.hid hn'; clear hn'
  cases a with
  | none =>
    obtain ⟨rfl, rfl⟩ := hnone rfl
    have hx : xs = [] := List.eq_nil_of_length_eq_zero Hn.out.symm
    subst hx
    clear Hn
    go_enter Tryd.func58, Tryd.ntmps58
    go_wp2_with fail
    go_ret
    exact ⟨_, rfl, OwnP.none, Below.refl _ _⟩
  | some ad =>
    clear hnone
    go_enter Tryd.func58, Tryd.ntmps58
    go_wp2_with (at_builtin; (refine wpList_appendR (f := Value.int .i64) (e := 2) (B := w.heap.size) (xs := []) (ys := xs) rfl _ _ 28 rfl 0 8 Tryd.underlying28 Tryd.infoI64 rfl (fun _ => rfl) rfl (OwnP.empty (Nat.le_refl _)) (E := IntR) (fun h => h.1) rfl (stable_ints.below h ((Below.refl _ _).alloc (Nat.le_refl _) _)) (by simpa using hn) (by omega) (by simp) ?_); intro v4 w4 hown4 hg4)
    go_ret
    exact ⟨_, rfl, by simpa using hown4, ((Below.refl _ _).alloc (Nat.le_refl _) _).grown hg4 (by simp) (fun j hj => ((OwnP.empty (f := Value.int .i64) (e := 2) (Nat.le_refl w.heap.size)).block j hj).1)⟩

set_option maxHeartbeats 400000 in
theorem l01Own_c (w : World) (v : Value) (z : Zone) (xs : List Int) (h : IntsR z w v xs) (hn : xs.length ≤ 1099511627776) :
    Calls Tryd.prog 41 #[v] w (Ret w fun r w' => OwnP (Value.int .i64) 2 w.heap.size w' r xs) := by
  obtain ⟨a, n, cap, rfl, hn', -, -, -, hnone, -⟩ := SliceR.shape h
  have Hn := Lib.hid hn'; clear hn' hnone
  go_enter Tryd.func41, Tryd.ntmps41
  go_wp2_with (at_builtin; (refine wpList_appendR (f := Value.int .i64) (e := 2) (B := w.heap.size) (xs := []) (ys := xs) rfl _ _ 28 rfl 0 8 Tryd.underlying28 Tryd.infoI64 rfl (fun _ => rfl) rfl (OwnP.empty (Nat.le_refl _)) (E := IntR) (fun h => h.1) rfl (stable_ints.below h ((Below.refl _ _).alloc (Nat.le_refl _) _)) (by simpa using hn) (by omega) (by simp) ?_); intro v4 w4 hown4 hg4)
  go_ret
  exact ⟨_, rfl, by simpa using hown4, ((Below.refl _ _).alloc (Nat.le_refl _) _).grown hg4 (by simp) (fun j hj => ((OwnP.empty (f := Value.int .i64) (e := 2) (Nat.le_refl w.heap.size)).block j hj).1)⟩
end Go.Proofs.YtnndaboaeijbkaaDoor
