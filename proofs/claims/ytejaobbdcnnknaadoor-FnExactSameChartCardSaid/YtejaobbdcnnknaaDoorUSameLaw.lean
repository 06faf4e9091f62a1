/- Proved: the first line in which two texts differ (plain). -/
import Derived.Test.YtejaobbdcnnknaaDoorULinesImpl
namespace Go.Proofs.YtejaobbdcnnknaaDoor
open Go.ChangeShapes Go.WideShapes Go.ChangeAt Go.RowKit
set_option linter.unusedVariables false

/-- how many first lines are alike -/
def cp : List (List UInt8) → List (List UInt8) → Nat
  | a :: A, b :: B => if a = b then cp A B + 1 else 0
  | _, _ => 0
theorem cp_cons (a : List UInt8) (A : List (List UInt8)) (b : List UInt8) (B : List (List UInt8)) : cp (a :: A) (b :: B) = if a = b then cp A B + 1 else 0 := rfl
theorem cp_le : ∀ (A B : List (List UInt8)), cp A B ≤ A.length ∧ cp A B ≤ B.length
  | [], B => by simp [cp]
  | a :: A, [] => by simp [cp]
  | a :: A, b :: B => by
    have := cp_le A B
    unfold cp
    split <;> simp only [List.length_cons] <;> omega
theorem cp_same : ∀ (A B : List (List UInt8)) {i : Nat}, i < cp A B → A.getD i [] = B.getD i []
  | [], B, i, h => by simp [cp] at h
  | a :: A, [], i, h => by simp [cp] at h
  | a :: A, b :: B, i, h => by
    unfold cp at h
    split at h
    · rename_i e
      cases i with
      | zero => simpa using e
      | succ i => simpa using cp_same A B (by omega : i < cp A B)
    · omega
theorem cp_diff : ∀ (A B : List (List UInt8)), cp A B < A.length → cp A B < B.length → A.getD (cp A B) [] ≠ B.getD (cp A B) []
  | [], B, h, _ => by simp at h
  | a :: A, [], _, h => by simp at h
  | a :: A, b :: B, h1, h2 => by
    by_cases e : a = b
    · have hc : cp (a :: A) (b :: B) = cp A B + 1 := by rw [cp_cons, if_pos e]
      rw [hc] at h1 h2 ⊢
      simp only [List.length_cons] at h1 h2
      simpa using cp_diff A B (by omega) (by omega)
    · have hc : cp (a :: A) (b :: B) = 0 := by rw [cp_cons, if_neg e]
      rw [hc]; simpa using e
theorem cp_full : ∀ (A B : List (List UInt8)), cp A B = A.length → cp A B = B.length → A = B
  | [], [], _, _ => rfl
  | [], b :: B, _, h => by simp [cp] at h
  | a :: A, [], h, _ => by simp [cp] at h
  | a :: A, b :: B, h1, h2 => by
    by_cases e : a = b
    · have hc : cp (a :: A) (b :: B) = cp A B + 1 := by rw [cp_cons, if_pos e]
      rw [hc] at h1 h2
      simp only [List.length_cons] at h1 h2
      rw [e, cp_full A B (by omega) (by omega)]
    · have hc : cp (a :: A) (b :: B) = 0 := by rw [cp_cons, if_neg e]
      rw [hc] at h1; simp at h1
theorem cp_self (A : List (List UInt8)) : cp A A = A.length := by
  induction A with
  | nil => rfl
  | cons a A ih => rw [cp_cons, if_pos rfl, ih]; rfl
/-- the closed lines of a text -/
def lns (l : List UInt8) : List (List UInt8) := (linesTo 10 l).1
def sameC (la lb : List UInt8) : Int × Int :=
  if codeL la ≠ 0 ∨ codeL lb ≠ 0 then (0, if codeL la = 3 ∨ codeL lb = 3 then 3 else 6) else if lns la = lns lb then (0, 0) else (((cp (lns la) (lns lb) : Nat) : Int) + 1, 0)
theorem sameC_lim {la lb : List UInt8} (h : codeL la = 3 ∨ codeL lb = 3) : sameC la lb = (0, 3) := by
  unfold sameC
  rw [if_pos (by rcases h with h | h <;> omega), if_pos h]
theorem sameC_syn {la lb : List UInt8} (h : codeL la ≠ 0 ∨ codeL lb ≠ 0) (h2 : ¬ (codeL la = 3 ∨ codeL lb = 3)) : sameC la lb = (0, 6) := by
  unfold sameC
  rw [if_pos h, if_neg h2]
theorem sameC_eq {la lb : List UInt8} (h : codeL la = 0) (h2 : codeL lb = 0) (h3 : lns la = lns lb) : sameC la lb = (0, 0) := by
  unfold sameC
  rw [if_neg (by omega), if_pos h3]
theorem sameC_ne {la lb : List UInt8} (h : codeL la = 0) (h2 : codeL lb = 0) (h3 : lns la ≠ lns lb) : sameC la lb = (((cp (lns la) (lns lb) : Nat) : Int) + 1, 0) := by
  unfold sameC
  rw [if_neg (by omega), if_neg h3]
theorem codeL_val (l : List UInt8) : codeL l = 0 ∨ codeL l = 3 ∨ codeL l = 6 := by
  unfold codeL
  split
  · exact .inr (.inl rfl)
  · split
    · exact .inl rfl
    · exact .inr (.inr rfl)
theorem codeL_three {l : List UInt8} : codeL l = 3 ↔ 240 < l.length := by
  unfold codeL
  split
  · simp; assumption
  · split <;> simp <;> omega
theorem codeL_open {l : List UInt8} (h : codeL l = 0) : (linesTo 10 l).2 = [] := by
  unfold codeL at h
  split at h
  · omega
  · split at h
    · assumption
    · omega
theorem lns_inj {la lb : List UInt8} (h : codeL la = 0) (h2 : codeL lb = 0) (h3 : lns la = lns lb) : la = lb := by
  have e1 := linesTo_join 10 la
  have e2 := linesTo_join 10 lb
  rw [codeL_open h, List.append_nil] at e1
  rw [codeL_open h2, List.append_nil] at e2
  unfold lns at h3
  rw [e1, e2, h3]
theorem strOf_inj {a b : List UInt8} (h : strOf a = strOf b) : a = b := by
  have := congrArg (fun s : ByteArray => s.data.toList) h
  simpa [strOf] using this
theorem count_code {l : List UInt8} (h : codeL l = 0) : l.count 10 ≤ 240 := by
  have h1 := List.count_le_length (a := (10 : UInt8)) (l := l)
  have h2 : ¬ 240 < l.length := fun q => by have := codeL_three.2 q; omega
  omega
end Go.Proofs.YtejaobbdcnnknaaDoor
