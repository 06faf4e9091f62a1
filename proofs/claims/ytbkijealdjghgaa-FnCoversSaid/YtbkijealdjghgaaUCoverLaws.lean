/- Proved: the least keys open all the doors; without any one of them some door stays shut (plain). -/
import Derived.Test.YtbkijealdjghgaaULeastKeys
import Derived.Test.YtbkijealdjghgaaURiseLaw
namespace Go.Proofs.Ytbkijealdjghgaa
open Go.ChangeShapes Go.WideShapes Go.ChangeAt Go.RowKit
set_option linter.unusedVariables false

theorem openFor_has {t : List (List Int)} {ks : List Int} {d : Int} (hT : isTable t = true) (hr : rising ks t.length = true) (h0 : 0 ≤ d) (h1 : d < ((t.getD 0 []).length : Int)) : has (openFor t ks).1 d = openAny t ks d := by
  rw [openFor_ok hT hr]
  cases h : openAny t ks d with
  | true => exact has_iff.2 (upto_mem.2 ⟨h0, h1, h⟩)
  | false =>
    cases e : has (upto (openAny t ks) (t.getD 0 []).length) d with
    | false => rfl
    | true => have := (upto_mem.1 (has_iff.1 e)).2.2; rw [h] at this; cases this

theorem covers {t : List (List Int)} {doors : List Int} (h : (leastKeys t doors).2 = 0) :
    (leastKeys t doors).1.length ≤ 10 ∧ (openFor t (leastKeys t doors).1).2 = 0 ∧ (∀ d ∈ doors, has (openFor t (leastKeys t doors).1).1 d = true) ∧
    ∀ i, i < (leastKeys t doors).1.length → (openFor t ((leastKeys t doors).1.eraseIdx i)).2 = 0 ∧ ∃ d ∈ doors, has (openFor t ((leastKeys t doors).1.eraseIdx i)).1 d = false := by
  cases hT : isTable t with
  | false => rw [leastKeys_no hT] at h; exact absurd h (by decide)
  | true =>
    cases hR : rising doors (t.getD 0 []).length with
    | false => rw [leastKeys_bad hT hR] at h; exact absurd h (by decide)
    | true =>
      rw [leastKeys_ok hT hR] at h ⊢
      unfold leastO' at h ⊢
      have hb := bestOf_is (fun ks => openAll t ks doors) (allSets t.length)
      cases hB : bestOf (fun ks => openAll t ks doors) (allSets t.length) with
      | none => rw [hB] at h; exact absurd h (by decide)
      | some k =>
        rw [hB] at hb
        obtain ⟨hk1, hk2, hk3⟩ := hb
        have hk1 := mem_allSets.1 hk1
        have hd : ∀ d ∈ doors, 0 ≤ d ∧ d < ((t.getD 0 []).length : Int) := fun d hd => rising_mem hR d hd
        simp only at hk2 ⊢
        have hrk := rising_of_rises hk1
        refine ⟨by have := rises_length hk1; have := isTable_mem hT; omega, by rw [openFor_ok hT hrk], fun d hdm => ?_, fun i hi => ?_⟩
        · rw [openFor_has hT hrk (hd d hdm).1 (hd d hdm).2]
          unfold openAll at hk2
          exact List.all_eq_true.1 hk2 d hdm
        · have hre : Rises t.length (k.eraseIdx i) := ⟨hk1.1.sublist (List.eraseIdx_sublist _ _), fun y hy => hk1.2 y ((List.eraseIdx_sublist _ _).mem hy)⟩
          have hrr := rising_of_rises hre
          refine ⟨by rw [openFor_ok hT hrr], ?_⟩
          have hno : openAll t (k.eraseIdx i) doors = false := by
            cases e : openAll t (k.eraseIdx i) doors with
            | false => rfl
            | true =>
              have := hk3 _ (mem_allSets.2 hre) e
              have hl : lessL (k.eraseIdx i) k = true := lessL_iff.2 (.inl (by rw [List.length_eraseIdx_of_lt hi]; omega))
              rw [hl] at this; cases this
          unfold openAll at hno
          obtain ⟨d, hdm, hx⟩ := List.all_eq_false.1 hno
          exact ⟨d, hdm, by rw [openFor_has hT hrr (hd d hdm).1 (hd d hdm).2]; simpa using hx⟩
end Go.Proofs.Ytbkijealdjghgaa
