/- Proved: slices.Sort at a list of numbers that the call owns. -/
import Derived.Test.YtgagjibjnaappaaChecked
import Derived.Test.YtgagjibjnaappaaUSortLay2
import Derived.Test.YtgagjibjnaappaaUExt
namespace Go.Proofs.Ytgagjibjnaappaa
open Go.ChangeShapes Go.WideShapes Go.ChangeAt Go.RowKit
set_option linter.unusedVariables false
open Go.Shelf

theorem own_put {α : Type} [Inhabited α] {f : α → Value} {e : TypeId} {B g n cap : Nat} {w : World} {xs ys : List α} (h : OwnP f e B w (.slice (some ⟨g, 0, none⟩) n cap) xs) (hl : ys.length = xs.length) (m : Nat) (os : Array Obj) :
    OwnP f e B (Sort.grow (Sort.putRow f (Sort.ahead w m) g 0 ys.toArray) os) (.slice (some ⟨g, 0, none⟩) n cap) ys ∧ (B ≤ w.heap.size → Below B w (Sort.grow (Sort.putRow f (Sort.ahead w m) g 0 ys.toArray) os)) := by
  rcases h.2 with ⟨h1, h2⟩ | ⟨g', cap', cur, h1, hB, hcur, hn, hm, hs, ht⟩
  · cases h1
  · simp at h1
    obtain ⟨rfl, rfl, rfl⟩ := h1
    have hgl : g < w.heap.size := by
      rcases Nat.lt_or_ge g w.heap.size with h | h
      · exact h
      · rw [Array.getElem?_eq_none h] at hcur; cases hcur
    have hblk : (Sort.grow (Sort.putRow f (Sort.ahead w m) g 0 ys.toArray) os).heap[g]? = some (.cells (Sort.putCells f 0 ys.toArray cur) e (0, 0)) := by
      rw [Sort.heap_grow_old _ _ (by simpa [Sort.putRow, Sort.mapBlock] using hgl)]
      show ((w.heap.modify g (Sort.onCells (Sort.putCells f 0 ys.toArray)))[g]?) = _
      rw [Array.getElem?_modify, if_pos rfl, hcur]; rfl
    constructor
    · refine ⟨by simp, .inr ⟨g, cap, Sort.putCells f 0 ys.toArray cur, by rw [hl], hB, hblk, by omega, hm, by simpa [Sort.putCells] using hs, ?_⟩⟩
      apply List.ext_getElem?
      intro k
      simp only [List.getElem?_take, List.getElem?_map, Sort.putCells, Array.getElem?_toList, Array.getElem?_mapIdx]
      by_cases hk : k < ys.length
      · have hkc : k < cur.size := by omega
        simp [hk, hkc]
      · simp [hk]
    · intro hBw
      refine ⟨rfl, rfl, rfl, by simp [Sort.grow, Sort.putRow, Sort.mapBlock], fun k hk => ?_⟩
      rw [Sort.heap_grow_old _ _ (by simp [Sort.putRow, Sort.mapBlock]; omega)]
      show ((w.heap.modify g (Sort.onCells (Sort.putCells f 0 ys.toArray)))[k]?) = _
      rw [Array.getElem?_modify, if_neg (by omega)]

theorem SortInts_c (w : World) (v : Value) (B : Nat) (hBw : B ≤ w.heap.size) (xs : List Int) (h : OwnP (Value.int .i64) 2 B w v xs) (hx : xs.length ≤ 1048576) :
    Calls Try.prog 128 #[v] w (fun e w' => e = .returned (.tuple #[]) ∧ OwnP (Value.int .i64) 2 B w' v (xs.mergeSort fun x y => decide (x ≤ y)) ∧ Below B w w') := by
  rcases h.2 with ⟨rfl, h2⟩ | ⟨g, cap, cur, rfl, hB, hcur, hn, hm, hs, ht⟩
  · have hnil : xs = [] := List.eq_nil_of_length_eq_zero (by omega)
    subst hnil
    refine Calls.mono (AnyM.slices_Sort_int_none Try.sortInts none 0 w) ?_
    rintro e w' ⟨rfl, rfl⟩
    exact ⟨rfl, by simpa using h, Below.refl _ _⟩
  · have hgl : g < w.heap.size := by
      rcases Nat.lt_or_ge g w.heap.size with h | h
      · exact h
      · rw [Array.getElem?_eq_none h] at hcur; cases hcur
    refine Calls.mono (AnyM.slices_Sort_int Try.sortInts g 0 cap xs w (fun j hj => ?_) hgl (by omega)) ?_
    · have hj' : j < xs.length := by simpa using hj
      obtain ⟨hk, hc, hf⟩ := OwnP.at h hj'
      refine ⟨?_, by simpa using hf⟩
      rw [Nat.zero_add, hc]
      simp [hj']
    · rintro e w' ⟨rfl, m, os, rfl⟩
      have hl := List.length_mergeSort (le := fun (x y : Int) => decide (x ≤ y)) xs
      obtain ⟨p1, p2⟩ := own_put h hl m os
      exact ⟨rfl, p1, p2 hBw⟩
end Go.Proofs.Ytgagjibjnaappaa
