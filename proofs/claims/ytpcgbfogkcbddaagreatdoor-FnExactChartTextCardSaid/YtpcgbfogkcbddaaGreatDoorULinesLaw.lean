/- Proved: the lines of a text, and how many there are (plain). -/
import Derived.Test.YtpcgbfogkcbddaaGreatDoorUPkA
namespace Go.Proofs.YtpcgbfogkcbddaaGreatDoor
open Go.ChangeShapes Go.WideShapes Go.ChangeAt Go.RowKit
set_option linter.unusedVariables false

theorem list_snoc_ind {α : Type} {P : List α → Prop} (h0 : P []) (h1 : ∀ l c, P l → P (l ++ [c])) (l : List α) : P l := by
  have h : ∀ l : List α, P l.reverse := by
    intro l
    induction l with
    | nil => exact h0
    | cons a l ih => rw [List.reverse_cons]; exact h1 _ _ ih
  have := h l.reverse
  rwa [List.reverse_reverse] at this
/-- one byte of a text, with the lines that are closed and the open one -/
def lineStep (b : UInt8) (p : List (List UInt8) × List UInt8) (c : UInt8) : List (List UInt8) × List UInt8 := if c = b then (p.1 ++ [p.2], []) else (p.1, p.2 ++ [c])
def linesTo (b : UInt8) (l : List UInt8) : List (List UInt8) × List UInt8 := l.foldl (lineStep b) ([], [])
def splitL (b : UInt8) (l : List UInt8) : List (List UInt8) := (linesTo b l).1 ++ [(linesTo b l).2]
theorem linesTo_snoc (b : UInt8) (l : List UInt8) (c : UInt8) : linesTo b (l ++ [c]) = lineStep b (linesTo b l) c := by unfold linesTo; rw [List.foldl_append]; rfl
theorem linesTo_count (b : UInt8) : ∀ l : List UInt8, (linesTo b l).1.length = l.count b := by
  intro l
  induction l using list_snoc_ind with
  | h0 => rfl
  | h1 l c ih =>
    rw [linesTo_snoc, List.count_append]
    unfold lineStep
    by_cases h : c = b
    · subst h
      rw [if_pos rfl]; simp [ih]
    · rw [if_neg h]
      have : List.count b [c] = 0 := by simp [h]
      simp only [ih, this, Nat.add_zero]
theorem linesTo_last (b : UInt8) (l : List UInt8) : (linesTo b l).2 = [] ↔ l = [] ∨ ∃ l', l = l' ++ [b] := by
  induction l using list_snoc_ind with
  | h0 => simp [linesTo]
  | h1 l c ih =>
    rw [linesTo_snoc]
    unfold lineStep
    by_cases h : c = b
    · subst h
      rw [if_pos rfl]
      simp only [true_iff]
      exact .inr ⟨l, rfl⟩
    · rw [if_neg h]
      constructor
      · intro q; exact absurd q (by simp)
      · rintro (q | ⟨l', q⟩)
        · exact absurd q (by simp)
        · have := (List.append_inj' q rfl).2
          injection this with this _
          exact absurd this h
/-- the open line is what stands behind the closed ones -/
def joinL (b : UInt8) (D : List (List UInt8)) : List UInt8 := D.flatMap fun d => d ++ [b]
theorem linesTo_join (b : UInt8) : ∀ l : List UInt8, l = joinL b (linesTo b l).1 ++ (linesTo b l).2 := by
  intro l
  induction l using list_snoc_ind with
  | h0 => rfl
  | h1 l c ih =>
    rw [linesTo_snoc]
    unfold lineStep
    by_cases h : c = b
    · subst h
      rw [if_pos rfl]
      simp only [List.append_nil]
      unfold joinL at ih ⊢
      rw [List.flatMap_append]
      conv => lhs; rw [ih]
      simp
    · rw [if_neg h]
      simp only
      rw [← List.append_assoc, ← ih]
/-- where the open line begins -/
def lineFrom (b : UInt8) (l : List UInt8) : Nat := (joinL b (linesTo b l).1).length
theorem lineFrom_le (b : UInt8) (l : List UInt8) : lineFrom b l ≤ l.length := by
  have h := congrArg List.length (linesTo_join b l)
  rw [List.length_append] at h
  unfold lineFrom; omega
theorem lineFrom_drop (b : UInt8) (l : List UInt8) : l.drop (lineFrom b l) = (linesTo b l).2 := by
  have h : ∀ A B : List UInt8, l = A ++ B → l.drop A.length = B := fun A B e => by rw [e, List.drop_left]
  exact h _ _ (linesTo_join b l)
theorem lineFrom_snoc (b : UInt8) (l : List UInt8) (c : UInt8) : lineFrom b (l ++ [c]) = if c = b then l.length + 1 else lineFrom b l := by
  unfold lineFrom
  rw [linesTo_snoc]
  unfold lineStep
  by_cases h : c = b
  · subst h
    rw [if_pos rfl, if_pos rfl]
    have := congrArg List.length (linesTo_join c l)
    unfold joinL at this ⊢
    rw [List.flatMap_append, List.length_append]
    rw [List.length_append] at this
    simp only [List.flatMap_cons, List.flatMap_nil, List.append_nil, List.length_append, List.length_singleton]
    omega
  · rw [if_neg h, if_neg h]
/-- what CountLines answers -/
def countL (l : List UInt8) : Int × Int := if 240 < l.length then (0, 3) else if (linesTo 10 l).2 = [] then (((l.count 10 : Nat) : Int), 0) else (0, 6)
theorem countL_big {l : List UInt8} (h : 240 < l.length) : countL l = (0, 3) := by unfold countL; rw [if_pos h]
theorem countL_ok {l : List UInt8} (h : l.length ≤ 240) (h2 : (linesTo 10 l).2 = []) : countL l = (((l.count 10 : Nat) : Int), 0) := by unfold countL; rw [if_neg (by omega), if_pos h2]
theorem countL_bad {l : List UInt8} (h : l.length ≤ 240) (h2 : (linesTo 10 l).2 ≠ []) : countL l = (0, 6) := by unfold countL; rw [if_neg (by omega), if_neg h2]
end Go.Proofs.YtpcgbfogkcbddaaGreatDoor
