/- Proved: the minimal lists in order: those of the choices are those of the sets, sorted. -/
import Derived.Test.YtaogpbhgoeepbaaULeastLaw
namespace Go.Proofs.Ytaogpbhgoeepbaa
open Go.ChangeShapes Go.WideShapes Go.ChangeAt Go.RowKit
set_option linter.unusedVariables false

/-- one list that is sorted strictly is known by its elements -/
theorem lessL_ext : ∀ {a b : List (List Int)}, a.Pairwise (fun x y => lessL x y = true) → b.Pairwise (fun x y => lessL x y = true) → (∀ x, x ∈ a ↔ x ∈ b) → a = b
  | [], [], _, _, _ => rfl
  | [], y :: b, _, _, h => absurd ((h y).2 (by simp)) (by simp)
  | x :: a, [], _, _, h => absurd ((h x).1 (by simp)) (by simp)
  | x :: a, y :: b, ha, hb, h => by
    obtain ⟨a1, a2⟩ := List.pairwise_cons.1 ha
    obtain ⟨b1, b2⟩ := List.pairwise_cons.1 hb
    have hxy : x = y := by
      rcases List.mem_cons.1 ((h x).1 (by simp)) with e | e
      · exact e
      · rcases List.mem_cons.1 ((h y).2 (by simp)) with e' | e'
        · exact e'.symm
        · have h1 := lessL_trans (a1 y e') (b1 x e)
          rw [lessL_irrefl] at h1; cases h1
    subst hxy
    rw [lessL_ext a2 b2]
    intro z
    have hz := h z
    simp only [List.mem_cons] at hz
    constructor
    · intro hm
      rcases hz.1 (.inr hm) with e | e
      · subst e; have := a1 z hm; rw [lessL_irrefl] at this; cases this
      · exact e
    · intro hm
      rcases hz.2 (.inr hm) with e | e
      · subst e; have := b1 z hm; rw [lessL_irrefl] at this; cases this
      · exact e
/-- whatever list is sorted (no later one is less), without a list twice, and holds the chosen of the sets: it is the chosen of the choices -/
theorem sorted_choices {p : List Int → Bool} {n : Nat} {s : List (List Int)} (hp : s.Perm ((allSets n).filter p)) (hs : s.Pairwise (fun a b => lessL b a = false)) (hn : ((allSets n).filter p).Nodup) (htot : ∀ a b, lessL a b = false → lessL b a = false → a = b) : s = (allChoices n).filter p := by
  refine lessL_ext ?_ ((allChoices_sorted n).filter p) (fun x => ?_)
  · have h2 : s.Pairwise (· ≠ ·) := (hp.nodup_iff).2 hn
    refine (hs.and h2).imp ?_
    rintro a b ⟨e1, e2⟩
    cases h : lessL a b with
    | true => rfl
    | false => exact absurd (htot a b h e1) e2
  · rw [hp.mem_iff, List.mem_filter, List.mem_filter, mem_allSets, mem_allChoices]
theorem cmpL_eq : ∀ {a b : List Int}, cmpL a b = 0 → a = b := by
  intro a
  induction a with
  | nil => intro b h; cases b with
    | nil => rfl
    | cons y b => simp [cmpL] at h
  | cons x a ih => intro b h; cases b with
    | nil => simp [cmpL] at h
    | cons y b =>
      unfold cmpL at h
      by_cases h1 : x < y
      · simp [h1] at h
      · by_cases h2 : y < x
        · simp [h1, h2] at h
        · simp [h1, h2] at h
          rw [ih h]; congr 1; omega
theorem cmpL_neg : ∀ a b : List Int, cmpL b a = - cmpL a b
  | [], [] => by simp [cmpL]
  | [], _ :: _ => by simp [cmpL]
  | _ :: _, [] => by simp [cmpL]
  | x :: a, y :: b => by
    simp only [cmpL]
    have := cmpL_neg a b
    by_cases h1 : x < y
    · rw [if_pos h1, if_neg (by omega), if_pos h1]; rfl
    · by_cases h2 : y < x
      · rw [if_pos h2, if_neg h1, if_pos h2]
      · rw [if_neg h2, if_neg h1, if_neg h1, if_neg h2, this]
theorem lessL_total (a b : List Int) (h1 : lessL a b = false) (h2 : lessL b a = false) : a = b := by
  have g1 : ¬ (a.length < b.length ∨ (a.length = b.length ∧ cmpL a b < 0)) := fun h => by rw [lessL_iff.2 h] at h1; cases h1
  have g2 : ¬ (b.length < a.length ∨ (b.length = a.length ∧ cmpL b a < 0)) := fun h => by rw [lessL_iff.2 h] at h2; cases h2
  have e : a.length = b.length := by omega
  refine cmpL_eq ?_
  have h3 := cmpL_neg a b
  have h4 : ¬ cmpL a b < 0 := fun h => g1 (.inr ⟨e, h⟩)
  have h5 : ¬ cmpL b a < 0 := fun h => g2 (.inr ⟨e.symm, h⟩)
  omega
/-- the sets of n bits differ -/
theorem bitsL_inj {n s t : Nat} (hs : s < 2 ^ n) (ht : t < 2 ^ n) (h : bitsL n s = bitsL n t) : s = t := by
  refine Nat.eq_of_testBit_eq (fun i => ?_)
  by_cases hi : i < n
  · have e : (i : Int) ∈ bitsL n s ↔ (i : Int) ∈ bitsL n t := by rw [h]
    unfold bitsL at e
    rw [upto_mem, upto_mem] at e
    simp only [Int.toNat_natCast] at e
    rw [Bool.eq_iff_iff]
    constructor
    · intro hh; exact (e.1 ⟨by omega, by omega, hh⟩).2.2
    · intro hh; exact (e.2 ⟨by omega, by omega, hh⟩).2.2
  · have hle : 2 ^ n ≤ 2 ^ i := Nat.pow_le_pow_right (by omega) (by omega)
    rw [Nat.testBit_lt_two_pow (by omega), Nat.testBit_lt_two_pow (by omega)]
theorem allSets_nodup (n : Nat) : (allSets n).Nodup := by
  unfold allSets List.Nodup
  rw [List.pairwise_map]
  refine List.pairwise_lt_range.imp_of_mem (fun {a b} ha hb h e => ?_)
  have := bitsL_inj (List.mem_range.1 ha) (List.mem_range.1 hb) e
  omega
theorem sorted_choices' {p : List Int → Bool} {n : Nat} {s : List (List Int)} (hp : s.Perm ((allSets n).filter p)) (hs : s.Pairwise (fun a b => lessL b a = false)) : s = (allChoices n).filter p :=
  sorted_choices hp hs ((allSets_nodup n).filter _) lessL_total
end Go.Proofs.Ytaogpbhgoeepbaa
