/- Proved: a list of ones. -/
import Derived.Test.YthgmojggpjnckaaGreatChecked
import Derived.Test.YthgmojggpjnckaaGreatUPkDa
import Derived.Test.YthgmojggpjnckaaGreatUPkE
import Derived.Test.YthgmojggpjnckaaGreatUPkA
namespace Go.Proofs.YthgmojggpjnckaaGreat
open Go.ChangeShapes Go.WideShapes Go.ChangeAt Go.RowKit
set_option linter.unusedVariables false

set_option maxRecDepth 20000 in
set_option maxHeartbeats 1000000 in
theorem l24Ones_c (w : World) (N : Nat) (hN : N ≤ 1048576) :
    Calls Tryz.prog 74 #[.int .i64 (N : Nat)] w (Ret w fun r w' => OwnP (Value.int .i64) 2 w.heap.size w' r (List.replicate N 1)) := by
  go_enter Tryz.func74, Tryz.ntmps74
  go_wp2_with fail
  generalize hw0 : World.alloc _ _ = w0
  have o0 : OwnP (Value.int .i64) 2 w.heap.size w0 (.slice (some ⟨w.heap.size, 0, none⟩) 0 0) [] := by rw [← hw0]; exact OwnP.empty (Nat.le_refl _)
  have b0 : Ext w w0 := by rw [← hw0]; exact Ext.alloc _ _
  clear hw0
  go_loopw [0, 3] (fun s o wr => ∃ k : Nat, k ≤ N ∧ s = .int .i64 (k : Nat) ∧ OwnP (Value.int .i64) 2 w.heap.size wr o (List.replicate (N - k) 1) ∧ Ext w wr) (fun s _ _ => (intOf s).toNat)
  case atStart => exact ⟨N, Nat.le_refl _, rfl, by rw [Nat.sub_self]; exact o0, b0⟩
  case round =>
    obtain ⟨k, hk, rfl, hown, hb⟩ := hrel
    clear o0 b0
    obtain ⟨a1, n1, c1, rfl, hn1, -⟩ := OwnP.shape hown
    have Hown := Lib.hid hown
    clear hown hn1
    cases k with
    | zero =>
      go_wp2_with fail
      go_ret
      exact ⟨_, rfl, by simpa using Hown.out, hb⟩
    | succ k =>
      have hgt : decide (0 < ((k + 1 : Nat) : Int)) = true := decide_eq_true (by omega)
      have hrep : List.replicate (N - (k + 1)) (1 : Int) ++ [1] = List.replicate (N - k) 1 := by
        rw [← List.replicate_succ']
        congr 1; omega
      have Hrep := Lib.hid hrep
      have hll : (List.replicate (N - (k + 1)) (1 : Int)).length + 1 ≤ 1099511627776 := by rw [List.length_replicate]; omega
      have Hll := Lib.hid hll
      clear hrep hll
      generalize List.replicate (N - (k + 1)) (1 : Int) = pre at *
      go_wp2_with (at_builtin; (refine wpList_appendR (f := Value.int .i64) (e := 2) (B := w.heap.size) (xs := pre) (ys := [(1 : Int)]) rfl _ _ 41 rfl 0 8 Tryz.underlying41 Tryz.infoI64 rfl (fun _ => rfl) rfl (OwnP.ext Hown.out (Ext.alloc _ _)) (E := IntR) (fun h => h.1) rfl (ints_one _ (1 : Int) _ (by unfold I64; omega)) (by have := Hll.out; rw [List.length_singleton]; omega) (by omega) (Nat.le_trans hb.size (Ext.alloc _ _).size) ?_); intro v4 w4 hown4 hg4)
      have hown5 : OwnP (Value.int .i64) 2 w.heap.size w4 v4 (List.replicate (N - k) 1) := by rw [← Hrep.out]; exact hown4
      have o6 : OwnP (Value.int .i64) 2 w.heap.size (wr.alloc (.cells #[.int .i64 1] 2)) (.slice a1 n1 c1) pre := OwnP.ext Hown.out (Ext.alloc _ _)
      have e4 : Ext w w4 := (hb.trans (Ext.alloc _ _)).grown hg4 (Nat.le_trans hb.size (Ext.alloc _ _).size) (fun j hj => (o6.block j hj).1)
      have hwk : IntKind.i64.wrap ((k : Int) + 1 - 1) = (k : Int) := by rw [IntWalk.i64_in _ (by omega)]; omega
      go_wp2_with fail
      go_roundw
      case rel => exact ⟨k, by omega, by go_num, hown5, e4⟩
      case measure => simp [intOf] <;> omega
end Go.Proofs.YthgmojggpjnckaaGreat
