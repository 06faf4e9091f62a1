/- Proved: slices.Compact at a list of numbers that the call owns. -/
import Derived.Test.YtgagjibjnaappaaChecked
import Derived.Test.YtgagjibjnaappaaUCompactLay
import Derived.Test.YtgagjibjnaappaaUSortInts
namespace Go.Proofs.Ytgagjibjnaappaa
open Go.ChangeShapes Go.WideShapes Go.ChangeAt Go.RowKit
set_option linter.unusedVariables false
open Go.Shelf

theorem OwnP.front {α : Type} {f : α → Value} {e : TypeId} {B g n cap : Nat} {w : World} {xs : List α} (h : OwnP f e B w (.slice (some ⟨g, 0, Option.none⟩) n cap) xs) (k : Nat) (hk : k ≤ n) : OwnP f e B w (.slice (some ⟨g, 0, Option.none⟩) k cap) (xs.take k) := by
  have hn := h.len
  rcases h.2 with ⟨h1, h2⟩ | ⟨g', cap', cur, h1, hB, hcur, hnc, hm, hs, ht⟩
  · cases h1
  · simp at h1
    obtain ⟨rfl, rfl, rfl⟩ := h1
    have hl : (xs.take k).length = k := by rw [List.length_take]; omega
    refine ⟨by simp, .inr ⟨g, cap, cur, by rw [hl], hB, hcur, by omega, hm, hs, ?_⟩⟩
    rw [hl, Nat.mul_one, List.map_take, ← ht, List.take_take, Nat.mul_one, Nat.min_eq_left (by omega)]

theorem CompactInts_c (w : World) (v : Value) (B : Nat) (hBw : B ≤ w.heap.size) (xs : List Int) (h : OwnP (Value.int .i64) 2 B w v xs) :
    Calls Try.prog 129 #[v] w (fun e w' => ∃ v', e = .returned v' ∧ OwnP (Value.int .i64) 2 B w' v' (Lib.compact xs) ∧ Below B w w') := by
  rcases h.2 with ⟨rfl, h2⟩ | ⟨g, cap, cur, rfl, hB, hcur, hn, hm, hs, ht⟩
  · have hnil : xs = [] := List.eq_nil_of_length_eq_zero (by omega)
    subst hnil
    refine Calls.mono (AnyG.slices_Compact_int_empty Try.compactInts none 0 w) ?_
    rintro e w' ⟨rfl, rfl⟩
    exact ⟨_, rfl, h, Below.refl _ _⟩
  · have hgl : g < w.heap.size := by
      rcases Nat.lt_or_ge g w.heap.size with h | h
      · exact h
      · rw [Array.getElem?_eq_none h] at hcur; cases hcur
    have hle := Lib.compact_length_le xs
    refine Calls.mono (AnyG.slices_Compact_int Try.compactInts g 0 cap xs w (fun j hj => ?_) (by unfold maxLen at hm; omega) (by omega)) ?_
    · have hj' : j < xs.length := by simpa using hj
      obtain ⟨hk, hc, hf⟩ := OwnP.at h hj'
      refine ⟨?_, by simpa using hf⟩
      rw [Nat.zero_add, hc]
      simp [hj']
    · rintro e w' ⟨rfl, q, rfl⟩
      have hl : (Lib.compact xs ++ List.replicate (xs.length - (Lib.compact xs).length) 0).length = xs.length := by rw [List.length_append, List.length_replicate]; omega
      obtain ⟨p1, p2⟩ := own_put h hl q #[]
      rw [Sort.grow_empty] at p1 p2
      refine ⟨_, rfl, ?_, p2 hBw⟩
      have := p1.front (Lib.compact xs).length hle
      rwa [List.take_left'] at this
      rfl

/-! ### what sorting and compacting leaves -/
theorem compact_rise {zs : List Int} (hs : zs.Pairwise (· ≤ ·)) : ∀ m, m ≤ zs.length → (Lib.compactUpTo zs.toArray m).Pairwise (· < ·) ∧ ∀ x, x ∈ Lib.compactUpTo zs.toArray m ↔ ∃ j, j < m ∧ zs.toArray[j]! = x := by
  have hle : ∀ i j, i ≤ j → j < zs.length → zs.toArray[i]! ≤ zs.toArray[j]! := by
    intro i j hij hj
    have e1 : zs.toArray[i]! = zs[i]'(by omega) := by simp [show i < zs.length by omega]
    have e2 : zs.toArray[j]! = zs[j] := by simp [hj]
    rw [e1, e2]
    rcases Nat.lt_or_ge i j with h | h
    · exact List.pairwise_iff_getElem.1 hs i j (by omega) hj h
    · have : i = j := by omega
      subst this; exact Int.le_refl _
  intro m
  induction m with
  | zero => intro _; exact ⟨by simp [Lib.compactUpTo], fun x => by simp [Lib.compactUpTo]⟩
  | succ m ih =>
    intro hm
    obtain ⟨h1, h2⟩ := ih (by omega)
    rw [Lib.compactUpTo_succ]
    cases hk : Lib.keeps zs.toArray m with
    | true =>
      simp only [if_true]
      have hne : m = 0 ∨ zs.toArray[m]! ≠ zs.toArray[m-1]! := of_decide_eq_true hk
      refine ⟨List.pairwise_append.2 ⟨h1, List.pairwise_singleton _ _, fun a ha b hb => ?_⟩, fun x => ?_⟩
      · rw [List.mem_singleton.1 hb]
        obtain ⟨j, hj, rfl⟩ := (h2 a).1 ha
        rcases hne with h0 | hne
        · omega
        · have q1 := hle j (m-1) (by omega) (by omega)
          have q2 := hle (m-1) m (by omega) (by omega)
          omega
      · rw [List.mem_append, h2, List.mem_singleton]
        constructor
        · rintro (⟨j, hj, e⟩ | e)
          · exact ⟨j, by omega, e⟩
          · exact ⟨m, by omega, e.symm⟩
        · rintro ⟨j, hj, e⟩
          by_cases hjm : j = m
          · subst hjm; exact .inr e.symm
          · exact .inl ⟨j, by omega, e⟩
    | false =>
      have hne : ¬ (m = 0 ∨ zs.toArray[m]! ≠ zs.toArray[m-1]!) := of_decide_eq_false hk
      have hm0 : m ≠ 0 := fun h => hne (.inl h)
      have he : zs.toArray[m]! = zs.toArray[m-1]! := Decidable.not_not.1 (fun h => hne (.inr h))
      simp only [Bool.false_eq_true, if_false, List.append_nil]
      refine ⟨h1, fun x => ?_⟩
      rw [h2]
      constructor
      · rintro ⟨j, hj, e⟩; exact ⟨j, by omega, e⟩
      · rintro ⟨j, hj, e⟩
        by_cases hjm : j = m
        · subst hjm; exact ⟨j - 1, by omega, by rw [← he]; exact e⟩
        · exact ⟨j, by omega, e⟩
theorem compact_sort (xs : List Int) : (Lib.compact (xs.mergeSort fun x y => decide (x ≤ y))).Pairwise (· < ·) ∧ ∀ x, x ∈ Lib.compact (xs.mergeSort fun x y => decide (x ≤ y)) ↔ x ∈ xs := by
  have hs : (xs.mergeSort fun x y => decide (x ≤ y)).Pairwise (· ≤ ·) := by
    have := List.pairwise_mergeSort (le := fun (x y : Int) => decide (x ≤ y)) (by intro a b c h1 h2; simp at *; omega) (by intro a b; simp; omega) xs
    exact this.imp (fun h => by simpa using h)
  have hp := List.mergeSort_perm xs (fun (x y : Int) => decide (x ≤ y))
  generalize (xs.mergeSort fun x y => decide (x ≤ y)) = zs at *
  obtain ⟨h1, h2⟩ := compact_rise hs zs.length (Nat.le_refl _)
  refine ⟨h1, fun x => ?_⟩
  unfold Lib.compact
  rw [h2, ← hp.mem_iff]
  constructor
  · rintro ⟨j, hj, rfl⟩
    have e1 : zs.toArray[j]! = zs[j] := by simp [hj]
    rw [e1]; exact List.getElem_mem hj
  · intro hx
    obtain ⟨j, hj, rfl⟩ := List.getElem_of_mem hx
    exact ⟨j, hj, by simp [hj]⟩
end Go.Proofs.Ytgagjibjnaappaa
