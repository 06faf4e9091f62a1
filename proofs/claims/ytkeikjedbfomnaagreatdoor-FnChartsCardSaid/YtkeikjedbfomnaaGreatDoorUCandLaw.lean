/- Proved: the keys with which a system stays open, in order (plain). -/
import Derived.Test.YtkeikjedbfomnaaGreatDoorUKeyEnum
import Derived.Test.YtkeikjedbfomnaaGreatDoorUKeyBegins
import Derived.Test.YtkeikjedbfomnaaGreatDoorUKeyFirst
import Derived.Test.YtkeikjedbfomnaaGreatDoorUPkB
import Derived.Test.YtkeikjedbfomnaaGreatDoorUCanLaw
namespace Go.Proofs.YtkeikjedbfomnaaGreatDoor
open Go.ChangeShapes Go.WideShapes Go.ChangeAt Go.RowKit
set_option linter.unusedVariables false

theorem keysR_length {mk : MK} {D : Nat} : ∀ (r : Nat) {pre : List Int}, (keysR mk D r pre).length ≤ D ^ r
  | 0, pre => by
    rw [keysR_zero]
    split
    · split <;> simp
    · simp
  | r + 1, pre => by
    rw [keysR_succ]
    split
    · unfold sweep
      rw [List.drop_zero, List.length_flatMap]
      have : ∀ (l : List Nat), (l.map fun (x : Nat) => (keysR mk D r (pre ++ [(x : Int)])).length).sum ≤ l.length * D ^ r := by
        intro l
        induction l with
        | nil => simp
        | cons a l ih =>
          rw [List.map_cons, List.sum_cons, List.length_cons, Nat.succ_mul]
          have := keysR_length (mk := mk) (D := D) r (pre := pre ++ [(a : Int)])
          omega
      have h := this (List.range D)
      rw [List.length_range] at h
      rw [Nat.pow_succ, Nat.mul_comm]
      exact h
    · simp
theorem allK_length {mk : MK} (ok : MkOk mk) : (allK mk).length ≤ 262144 := by
  have h := keysR_length (mk := mk) (D := mk.d.toNat) mk.c.toNat (pre := [])
  have h8 : mk.d.toNat ≤ 8 := by have := ok.d8; omega
  have h6 : mk.c.toNat ≤ 6 := by have := ok.c6; omega
  have h1 : mk.d.toNat ^ mk.c.toNat ≤ 8 ^ 6 := Nat.le_trans (Nat.pow_le_pow_left h8 _) (Nat.pow_le_pow_right (by decide) h6)
  exact Nat.le_trans h h1
theorem allK_mem {mk : MK} {k : List Int} (h : k ∈ allK mk) : k.length = mk.c.toNat ∧ ∀ x ∈ k, 0 ≤ x ∧ x < mk.d.toNat := by
  obtain ⟨A, B, h⟩ := List.append_of_mem h
  exact (allK_next h).2
theorem allK_key {mk : MK} (ok : MkOk mk) {k : List Int} (h : k ∈ allK mk) : KeyOk mk k := by
  obtain ⟨h1, h2⟩ := allK_mem h
  have hd := ok.d8
  have hc := ok.c6
  refine cutsOk_iff ?_
  unfold cutsOk
  rw [Bool.and_eq_true, decide_eq_true_iff]
  refine ⟨?_, by omega⟩
  unfold allB
  rw [List.all_eq_true]
  intro x hx
  have := h2 x hx
  unfold inB
  rw [Bool.and_eq_true, decide_eq_true_iff, decide_eq_true_iff]
  omega
/-- the first so many of the keys with a property -/
def candL (mk : MK) (p : List Int → Bool) (most : Int) : List (List Int) := ((allK mk).filter p).take most.toNat
theorem candL_done {mk : MK} {p : List Int → Bool} {most : Int} {A : List (List Int)} (h : allK mk = A) (hl : ((A.filter p).length : Int) ≤ most) : candL mk p most = A.filter p := by
  unfold candL; rw [h, List.take_of_length_le (by omega)]
theorem candL_full {mk : MK} {p : List Int → Bool} {most : Int} {A B : List (List Int)} (h : allK mk = A ++ B) (hl : ((A.filter p).length : Int) = most) : candL mk p most = A.filter p := by
  unfold candL; rw [h, List.filter_append, List.take_left' (by omega)]
theorem filter_snoc_yes {p : List Int → Bool} {A : List (List Int)} {k : List Int} (h : p k = true) : (A ++ [k]).filter p = A.filter p ++ [k] := by rw [List.filter_append]; simp [h]
theorem filter_snoc_no {p : List Int → Bool} {A : List (List Int)} {k : List Int} (h : p k = false) : (A ++ [k]).filter p = A.filter p := by rw [List.filter_append]; simp [h]
end Go.Proofs.YtkeikjedbfomnaaGreatDoor
