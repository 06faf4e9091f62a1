/- Proved: the key that changes the fewest doors (plain). -/
import Derived.Test.YtblmccofkochoaaGreatUIssueLaw
import Derived.Test.YtblmccofkochoaaGreatUChanged
import Derived.Test.YtblmccofkochoaaGreatUEachLaw
namespace Go.Proofs.YtblmccofkochoaaGreat
open Go.ChangeShapes Go.WideShapes Go.ChangeAt Go.RowKit
set_option linter.unusedVariables false

def easStep (f : List Int → Nat) (s : Option (List Int)) (k : List Int) : Option (List Int) := match s with
  | none => some k
  | some b => if f k < f b then some k else some b
def easL (f : List Int → Nat) (L : List (List Int)) : Option (List Int) := L.foldl (easStep f) none
theorem easL_snoc (f : List Int → Nat) (L : List (List Int)) (k : List Int) : easL f (L ++ [k]) = easStep f (easL f L) k := by unfold easL; rw [List.foldl_append]; rfl
theorem easL_none {f : List Int → Nat} : ∀ {L : List (List Int)}, easL f L = none ↔ L = [] := by
  intro L
  constructor
  · intro h
    rcases List.eq_nil_or_concat L with e | ⟨L', k, e⟩
    · exact e
    · rw [e, List.concat_eq_append, easL_snoc] at h
      unfold easStep at h
      split at h
      · cases h
      · split at h <;> cases h
  · rintro rfl; rfl
theorem visits_all {σ : Type} {step : σ → List Int → σ} : ∀ (L : List (List Int)) (s : σ), (visits step (fun _ _ => true) s L).1 = L.foldl step s
  | [], s => rfl
  | k :: L, s => by
    have e1 : visits step (fun _ _ => true) s (k :: L) = visits step (fun _ _ => true) (step s k) L := rfl
    rw [e1, visits_all L]; rfl
/-- how many doors a key changes -/
def changes (mk : MK) (t cuts : List (List Int)) (row key : List Int) : Nat := (changedB (locks mk t cuts) row key (doorsOf t)).length
def easiest (mk : MK) (t cuts : List (List Int)) (row : List Int) : List Int × Int × Int :=
  if rowCode mk t cuts row [] ≠ 0 then ([], 0, rowCode mk t cuts row []) else match easL (changes mk t cuts row) ((allK mk).filter (stays mk (t ++ [row]) cuts)) with
  | none => ([], 0, 4)
  | some b => (b, (changes mk t cuts row b : Int), 0)
theorem easiest_bad {mk : MK} {t cuts : List (List Int)} {row : List Int} (h : rowCode mk t cuts row [] ≠ 0) : easiest mk t cuts row = ([], 0, rowCode mk t cuts row []) := by unfold easiest; rw [if_pos h]
theorem easiest_none {mk : MK} {t cuts : List (List Int)} {row : List Int} (h : rowCode mk t cuts row [] = 0) (h2 : easL (changes mk t cuts row) ((allK mk).filter (stays mk (t ++ [row]) cuts)) = none) : easiest mk t cuts row = ([], 0, 4) := by unfold easiest; rw [if_neg (by omega), h2]
theorem easiest_some {mk : MK} {t cuts : List (List Int)} {row b : List Int} (h : rowCode mk t cuts row [] = 0) (h2 : easL (changes mk t cuts row) ((allK mk).filter (stays mk (t ++ [row]) cuts)) = some b) : easiest mk t cuts row = (b, (changes mk t cuts row b : Int), 0) := by unfold easiest; rw [if_neg (by omega), h2]
theorem changes_le (mk : MK) (t cuts : List (List Int)) (row key : List Int) : changes mk t cuts row key ≤ doorsOf t := upto_length _ _
theorem easFold_mem {f : List Int → Nat} : ∀ (L : List (List Int)) (s : Option (List Int)) {b : List Int}, L.foldl (easStep f) s = some b → s = some b ∨ b ∈ L
  | [], s, b, h => .inl h
  | k :: L, s, b, h => by
    rw [List.foldl_cons] at h
    rcases easFold_mem L _ h with h | h
    · unfold easStep at h
      split at h
      · injection h with h; exact .inr (by rw [h]; exact List.mem_cons_self ..)
      · split at h
        · injection h with h; exact .inr (by rw [h]; exact List.mem_cons_self ..)
        · exact .inl h
    · exact .inr (List.mem_cons_of_mem _ h)
theorem easL_mem {f : List Int → Nat} {L : List (List Int)} {b : List Int} (h : easL f L = some b) : b ∈ L := (easFold_mem L none h).elim (fun h => by cases h) id
/-- all candidates -/
theorem candL_all {mk : MK} (ok : MkOk mk) {p : List Int → Bool} : candL mk p 1000000 = (allK mk).filter p := by
  unfold candL
  rw [List.take_of_length_le]
  have h1 := List.length_filter_le p (allK mk)
  have h2 := allK_length ok
  have : (1000000 : Int).toNat = 1000000 := rfl
  omega
end Go.Proofs.YtblmccofkochoaaGreat
