/- Proved: allWithin and IsTable: program and reference compute the same, for every list of lists. -/
import Derived.Test.YtnndaboaeijbkaaDoorChecked
import Derived.Test.YtnndaboaeijbkaaDoorUWithin
import Derived.Test.YtnndaboaeijbkaaDoorURising
namespace Go.Proofs.YtnndaboaeijbkaaDoor
open Go.ChangeShapes Go.WideShapes Go.ChangeAt Go.RowKit
set_option linter.unusedVariables false

def allB (xs : List Int) (lo hi : Int) : Bool := xs.all fun x => inB x lo hi
theorem allB_bad {xs : List Int} {lo hi : Int} (k : Nat) (h : k < xs.length) (hx : inB (xs.getD k 0) lo hi = false) : allB xs lo hi = false := by
  unfold allB; rw [List.all_eq_false]; exact ⟨xs[k], List.getElem_mem h, by simpa [h] using hx⟩
theorem allB_good {xs : List Int} {lo hi : Int} (h : ∀ k, k < xs.length → inB (xs.getD k 0) lo hi = true) : allB xs lo hi = true := by
  unfold allB; rw [List.all_eq_true]; intro y hy
  obtain ⟨i, hi, rfl⟩ := List.getElem_of_mem hy
  have := h i hi
  simpa [hi] using this

set_option maxHeartbeats 400000 in
theorem allWithin_c (w : World) (v : Value) (z : Zone) (xs : List Int) (lo hi : Int) (h : IntsR z w v xs) :
    Calls Tryd.prog 92 #[v, .int .i64 lo, .int .i64 hi] w (RetQ w (.bool (allB xs lo hi))) := by
  obtain ⟨a, len, cap, rfl, hlen, hmax, -, -, -, hel⟩ := IntsR.shape h
  have Hlen := Lib.hid hlen; clear hlen h
  have Hel := Lib.hid hel; clear hel
  go_enter Tryd.func92, Tryd.ntmps92
  go_wp2
  go_loopw [11] (fun t wr => ∃ i : Nat, i ≤ len ∧ t = .int .i64 i ∧ (∀ j, j < i → inB (xs.getD j 0) lo hi = true) ∧ Drew w wr) (fun t _ => len - (intOf t).toNat)
  case atStart => exact ⟨0, Nat.zero_le _, rfl, by simp, Drew.refl _⟩
  case round =>
    obtain ⟨i, hil, rfl, hall, hd⟩ := hrel
    have Hall := Lib.hid hall; clear hall
    by_cases hlt : i < len
    · obtain ⟨b, off, rfl, hc, hx, -⟩ := Hel.out i hlt
      replace hc := (hd.cell _).trans hc
      have Hgo : Hid (inB (xs.getD i 0) lo hi = true → ∀ j, j < i + 1 → inB (xs.getD j 0) lo hi = true) := fun h j hj => by
        by_cases e : j = i
        · rw [e]; exact h
        · exact Hall.out j (by omega)
      have Hno : Hid (inB (xs.getD i 0) lo hi = false → allB xs lo hi = false) := fun h => allB_bad i (by have := Hlen.out; omega) h
      generalize xs.getD i 0 = x at *
      have hcall := within_c wr x lo hi
      generalize inB x lo hi = q at *
      go_wp2_with fail
      refine Calls.mono hcall ?_
      rintro e w2 ⟨rfl, hd2⟩
      clear hcall
      cases q with
      | true =>
        go_wp2
        go_roundw
        case rel => exact ⟨i + 1, by omega, by go_num, Hgo.out (by simp), hd.trans hd2⟩
        case measure => simp [intOf]; omega
      | false =>
        go_wp2
        go_ret
        exact ⟨ret_bool' (Hno.out (by simp)), hd.trans hd2⟩
    · go_wp2
      go_ret
      exact ⟨ret_bool' (allB_good (fun j hj => Hall.out j (by have := Hlen.out; omega))), hd⟩

def tabRow (m : Nat) (r : List Int) : Bool := decide (r.length = m) && (decide (1 ≤ r.length ∧ r.length ≤ 12) && allB r 0 1)
def isTable (t : List (List Int)) : Bool := t.all (tabRow (t.getD 0 []).length) && decide (1 ≤ t.length ∧ t.length ≤ 10)
theorem isTable_bad {t : List (List Int)} (k : Nat) (hk : k < t.length) (h : tabRow (t.getD 0 []).length t[k] = false) : isTable t = false := by
  have : t.all (tabRow (t.getD 0 []).length) = false := by rw [List.all_eq_false]; exact ⟨_, List.getElem_mem hk, by rw [h]; simp⟩
  unfold isTable; rw [this]; rfl
theorem isTable_good {t : List (List Int)} (h : ∀ k (hk : k < t.length), tabRow (t.getD 0 []).length t[k] = true) : isTable t = decide (1 ≤ t.length ∧ t.length ≤ 10) := by
  have : t.all (tabRow (t.getD 0 []).length) = true := by
    rw [List.all_eq_true]; intro y hy
    obtain ⟨i, hi, rfl⟩ := List.getElem_of_mem hy
    exact h i hi
  unfold isTable; rw [this]; rfl
theorem tabRow_len {m : Nat} {r : List Int} (h : r.length ≠ m) : tabRow m r = false := by unfold tabRow; rw [decide_eq_false h]; rfl
theorem tabRow_many {m : Nat} {r : List Int} (h : ¬ (1 ≤ r.length ∧ r.length ≤ 12)) : tabRow m r = false := by unfold tabRow; rw [decide_eq_false h]; simp
theorem tabRow_in {m : Nat} {r : List Int} (h : r.length = m) (h' : 1 ≤ r.length ∧ r.length ≤ 12) : tabRow m r = allB r 0 1 := by unfold tabRow; rw [decide_eq_true h, decide_eq_true h']; rfl

/-! ### the reference's -/
end Go.Proofs.YtnndaboaeijbkaaDoor
