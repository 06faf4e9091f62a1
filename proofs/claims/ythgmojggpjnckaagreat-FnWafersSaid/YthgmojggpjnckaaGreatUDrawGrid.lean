/- Proved: the draw of a system, mostly one without designs: l19DrawSystem. -/
import Derived.Test.YthgmojggpjnckaaGreatChecked
import Derived.Deep.RegionLaw
import Derived.Deep.RegionHeld3
import Derived.Deep.Cut
import Derived.Test.YthgmojggpjnckaaGreatUPkF7
import Derived.Test.YthgmojggpjnckaaGreatURegionStep
namespace Go.Proofs.YthgmojggpjnckaaGreat
open Go.ChangeShapes Go.WideShapes Go.ChangeAt Go.RowKit
set_option linter.unusedVariables false

/-- a table of R rows with C numbers, in blocks from lo on, that may be written -/
structure Grid (lo gb : Nat) (rb : Nat → Nat) (R C : Nat) (w : World) : Prop where
  outer : ∀ i, i < R → w.cell? ⟨gb, i, none⟩ = some (.slice (some ⟨rb i, 0, none⟩) C C)
  inner : ∀ i, i < R → ∀ j, j < C → (∃ x, w.cell? ⟨rb i, j, none⟩ = some (.int .i64 x) ∧ I64 x) ∧ w.frozen? ⟨rb i, j, none⟩ = false
  low : lo ≤ gb ∧ ∀ i, i < R → lo ≤ rb i ∧ rb i ≠ gb
theorem Grid.keep {lo gb : Nat} {rb : Nat → Nat} {R C : Nat} {w w' : World} (h : Grid lo gb rb R C w) (hk : ∀ k, lo ≤ k → k < w.heap.size → w'.heap[k]? = w.heap[k]?) : Grid lo gb rb R C w' := by
  refine ⟨fun i hi => ?_, fun i hi j hj => ?_, h.low⟩
  · have hc := h.outer i hi
    exact (World.cell?_of_block (a := ⟨gb, i, none⟩) (hk gb h.low.1 (World.block_lt_of_cell? _ _ hc))).trans hc
  · obtain ⟨⟨x, hx, hi64⟩, hf⟩ := h.inner i hi j hj
    have hb := hk (rb i) (h.low.2 i hi).1 (World.block_lt_of_cell? _ _ hx)
    exact ⟨⟨x, (World.cell?_of_block (a := ⟨rb i, j, none⟩) hb).trans hx, hi64⟩, (World.frozen?_of_block (a := ⟨rb i, j, none⟩) hb).trans hf⟩
theorem Grid.dr {lo gb g : Nat} {rb : Nat → Nat} {R C : Nat} {w w' : World} (h : Grid lo gb rb R C w) (hd : Dr g w w') (hg : g < lo) : Grid lo gb rb R C w' :=
  h.keep (fun k hk hl => hd.grown.block k hl (fun e => by injection e with e; omega))
theorem Grid.put {lo gb : Nat} {rb : Nat → Nat} {R C : Nat} {w : World} (h : Grid lo gb rb R C w) {i j : Nat} (hi : i < R) (hj : j < C) {y : Int} (hy : I64 y) : Grid lo gb rb R C (w.setCell ⟨rb i, j, none⟩ (.int .i64 y)) := by
  refine ⟨fun k hk => ?_, fun k hk l hl => ?_, h.low⟩
  · rw [World.cell?_setCell_other _ _ _ _ (fun e => (h.low.2 i hi).2 (by injection e))]
    exact h.outer k hk
  · obtain ⟨⟨x, hx, hx64⟩, hf⟩ := h.inner k hk l hl
    refine ⟨?_, by rw [World.frozen?_setCell]; exact hf⟩
    by_cases e : (⟨rb i, j, none⟩ : Addr) = ⟨rb k, l, none⟩
    · rw [← e]
      exact ⟨y, World.cell?_setCell_same _ _ _ (by rw [e]; exact hx), hy⟩
    · exact ⟨x, by rw [World.cell?_setCell_other _ _ _ _ e]; exact hx, hx64⟩
theorem Grid.rows {lo gb : Nat} {rb : Nat → Nat} {R C : Nat} {w : World} (h : Grid lo gb rb R C w) (hR : R ≤ 100) (hC : C ≤ 100) : ∃ t : List (List Int), RowsR ⟨lo, w.heap.size, false⟩ w (.slice (some ⟨gb, 0, none⟩) R R) t := by
  have hrow : ∀ i, i < R → ∃ l : List Int, IntsR ⟨lo, w.heap.size, false⟩ w (.slice (some ⟨rb i, 0, none⟩) C C) l := fun i hi => by
    obtain ⟨l, hl, hp⟩ := choose_list (n := C) (p := fun j x => w.cell? ⟨rb i, j, none⟩ = some (.int .i64 x) ∧ I64 x) (fun j hj => (h.inner i hi j hj).1)
    refine ⟨l, some ⟨rb i, 0, none⟩, C, by rw [hl], by omega, by unfold maxLen; omega, (fun h => by cases h), fun ad had hp0 => ?_⟩
    cases had
    obtain ⟨x0, -⟩ := hp 0 hp0
    have hb := World.block_lt_of_cell? _ _ x0
    refine ⟨rfl, ⟨(h.low.2 i hi).1, hb⟩, hb, (fun h => by cases h), fun _ => ⟨lo, w.heap.size, false⟩, fun _ _ => Zone.Sub.refl _, (fun h => by cases h), fun j hj => ?_⟩
    obtain ⟨c1, c2⟩ := hp j hj
    refine ⟨_, ?_, rfl, c2⟩
    show w.cell? ⟨rb i, 0 + j, none⟩ = _
    rw [Nat.zero_add]; exact c1
  obtain ⟨t, ht, hp⟩ := choose_list (n := R) (p := fun i l => IntsR ⟨lo, w.heap.size, false⟩ w (.slice (some ⟨rb i, 0, none⟩) C C) l) hrow
  refine ⟨t, some ⟨gb, 0, none⟩, R, by rw [ht], by omega, by unfold maxLen; omega, (fun h => by cases h), fun ad had hp0 => ?_⟩
  cases had
  have hb := World.block_lt_of_cell? _ _ (h.outer 0 (by omega))
  refine ⟨rfl, ⟨h.low.1, hb⟩, hb, (fun h => by cases h), fun _ => ⟨lo, w.heap.size, false⟩, fun _ _ => Zone.Sub.refl _, (fun h => by cases h), fun i hi => ?_⟩
  refine ⟨_, ?_, hp i hi⟩
  show w.cell? ⟨gb, 0 + i, none⟩ = _
  rw [Nat.zero_add]; exact h.outer i (by omega)

def rb4 (lo i : Nat) : Nat := if i = 0 then lo else if i = 1 then lo + 1 else if i = 2 then lo + 1 + 1 else lo + 1 + 1 + 1
theorem grid4 {wm : World} {lo : Nat} (hlo : wm.heap.size = lo) (e1 e2 : TypeId) : Grid lo (lo + 1 + 1 + 1 + 1) (rb4 lo) 4 3 (((((wm.alloc (.cells #[.int .i64 1, .int .i64 1, .int .i64 1] e1)).alloc (.cells #[.int .i64 1, .int .i64 0, .int .i64 0] e1)).alloc (.cells #[.int .i64 0, .int .i64 1, .int .i64 0] e1)).alloc (.cells #[.int .i64 0, .int .i64 0, .int .i64 1] e1)).alloc (.cells #[.slice (some ⟨lo, 0, none⟩) 3 3, .slice (some ⟨lo + 1, 0, none⟩) 3 3, .slice (some ⟨lo + 1 + 1, 0, none⟩) 3 3, .slice (some ⟨lo + 1 + 1 + 1, 0, none⟩) 3 3] e2)) := by
  obtain ⟨x1, hx1⟩ : ∃ q, q = wm.alloc (.cells #[.int .i64 1, .int .i64 1, .int .i64 1] e1) := ⟨_, rfl⟩
  rw [← hx1]
  have sx1 : x1.heap.size = lo + 1 := by rw [hx1, World.size_alloc]; omega
  have ex1 : Ext wm x1 := by rw [hx1]; exact Ext.alloc _ _
  have rx1 : x1.heap[wm.heap.size]? = some (.cells #[.int .i64 1, .int .i64 1, .int .i64 1] e1) := by rw [hx1]; exact heap_alloc_new _ _
  rw [hlo] at rx1
  obtain ⟨x2, hx2⟩ : ∃ q, q = x1.alloc (.cells #[.int .i64 1, .int .i64 0, .int .i64 0] e1) := ⟨_, rfl⟩
  rw [← hx2]
  have sx2 : x2.heap.size = lo + 1 + 1 := by rw [hx2, World.size_alloc]; omega
  have ex2 : Ext x1 x2 := by rw [hx2]; exact Ext.alloc _ _
  have rx2 : x2.heap[x1.heap.size]? = some (.cells #[.int .i64 1, .int .i64 0, .int .i64 0] e1) := by rw [hx2]; exact heap_alloc_new _ _
  rw [sx1] at rx2
  obtain ⟨x3, hx3⟩ : ∃ q, q = x2.alloc (.cells #[.int .i64 0, .int .i64 1, .int .i64 0] e1) := ⟨_, rfl⟩
  rw [← hx3]
  have sx3 : x3.heap.size = lo + 1 + 1 + 1 := by rw [hx3, World.size_alloc]; omega
  have ex3 : Ext x2 x3 := by rw [hx3]; exact Ext.alloc _ _
  have rx3 : x3.heap[x2.heap.size]? = some (.cells #[.int .i64 0, .int .i64 1, .int .i64 0] e1) := by rw [hx3]; exact heap_alloc_new _ _
  rw [sx2] at rx3
  obtain ⟨x4, hx4⟩ : ∃ q, q = x3.alloc (.cells #[.int .i64 0, .int .i64 0, .int .i64 1] e1) := ⟨_, rfl⟩
  rw [← hx4]
  have sx4 : x4.heap.size = lo + 1 + 1 + 1 + 1 := by rw [hx4, World.size_alloc]; omega
  have ex4 : Ext x3 x4 := by rw [hx4]; exact Ext.alloc _ _
  have rx4 : x4.heap[x3.heap.size]? = some (.cells #[.int .i64 0, .int .i64 0, .int .i64 1] e1) := by rw [hx4]; exact heap_alloc_new _ _
  rw [sx3] at rx4
  obtain ⟨x5, hx5⟩ : ∃ q, q = x4.alloc (.cells #[.slice (some ⟨lo, 0, none⟩) 3 3, .slice (some ⟨lo + 1, 0, none⟩) 3 3, .slice (some ⟨lo + 1 + 1, 0, none⟩) 3 3, .slice (some ⟨lo + 1 + 1 + 1, 0, none⟩) 3 3] e2) := ⟨_, rfl⟩
  rw [← hx5]
  have sx5 : x5.heap.size = lo + 1 + 1 + 1 + 1 + 1 := by rw [hx5, World.size_alloc]; omega
  have ex5 : Ext x4 x5 := by rw [hx5]; exact Ext.alloc _ _
  have rx5 : x5.heap[x4.heap.size]? = some (.cells #[.slice (some ⟨lo, 0, none⟩) 3 3, .slice (some ⟨lo + 1, 0, none⟩) 3 3, .slice (some ⟨lo + 1 + 1, 0, none⟩) 3 3, .slice (some ⟨lo + 1 + 1 + 1, 0, none⟩) 3 3] e2) := by rw [hx5]; exact heap_alloc_new _ _
  rw [sx4] at rx5
  have q0 : x5.heap[lo]? = some (.cells #[.int .i64 1, .int .i64 1, .int .i64 1] e1) := (Below.block (((ex2.trans ex3).trans ex4).trans ex5) (lo) (by rw [sx1]; omega)).trans rx1
  have q1 : x5.heap[lo + 1]? = some (.cells #[.int .i64 1, .int .i64 0, .int .i64 0] e1) := (Below.block ((ex3.trans ex4).trans ex5) (lo + 1) (by rw [sx2]; omega)).trans rx2
  have q2 : x5.heap[lo + 1 + 1]? = some (.cells #[.int .i64 0, .int .i64 1, .int .i64 0] e1) := (Below.block (ex4.trans ex5) (lo + 1 + 1) (by rw [sx3]; omega)).trans rx3
  have q3 : x5.heap[lo + 1 + 1 + 1]? = some (.cells #[.int .i64 0, .int .i64 0, .int .i64 1] e1) := (Below.block ex5 (lo + 1 + 1 + 1) (by rw [sx4]; omega)).trans rx4
  refine ⟨fun i hi => ?_, fun i hi j hj => ?_, ⟨by omega, fun i hi => ?_⟩⟩
  · rw [cell_of_row _ _ _ _ _ _ rx5]
    rcases (by omega : i = 0 ∨ i = 1 ∨ i = 2 ∨ i = 3) with rfl | rfl | rfl | rfl <;> rfl
  · rcases (by omega : i = 0 ∨ i = 1 ∨ i = 2 ∨ i = 3) with rfl | rfl | rfl | rfl
    · refine ⟨?_, frozen_of_row _ (lo) _ _ _ q0⟩
      show ∃ x, x5.cell? ⟨lo, j, none⟩ = _ ∧ _
      rw [cell_of_row _ _ _ _ _ _ q0]
      rcases (by omega : j = 0 ∨ j = 1 ∨ j = 2) with rfl | rfl | rfl <;> exact ⟨_, rfl, by unfold I64; omega⟩
    · refine ⟨?_, frozen_of_row _ (lo + 1) _ _ _ q1⟩
      show ∃ x, x5.cell? ⟨lo + 1, j, none⟩ = _ ∧ _
      rw [cell_of_row _ _ _ _ _ _ q1]
      rcases (by omega : j = 0 ∨ j = 1 ∨ j = 2) with rfl | rfl | rfl <;> exact ⟨_, rfl, by unfold I64; omega⟩
    · refine ⟨?_, frozen_of_row _ (lo + 1 + 1) _ _ _ q2⟩
      show ∃ x, x5.cell? ⟨lo + 1 + 1, j, none⟩ = _ ∧ _
      rw [cell_of_row _ _ _ _ _ _ q2]
      rcases (by omega : j = 0 ∨ j = 1 ∨ j = 2) with rfl | rfl | rfl <;> exact ⟨_, rfl, by unfold I64; omega⟩
    · refine ⟨?_, frozen_of_row _ (lo + 1 + 1 + 1) _ _ _ q3⟩
      show ∃ x, x5.cell? ⟨lo + 1 + 1 + 1, j, none⟩ = _ ∧ _
      rw [cell_of_row _ _ _ _ _ _ q3]
      rcases (by omega : j = 0 ∨ j = 1 ∨ j = 2) with rfl | rfl | rfl <;> exact ⟨_, rfl, by unfold I64; omega⟩
  · unfold rb4
    split
    · omega
    · split
      · omega
      · split <;> omega
theorem grid3 {wm : World} {lo : Nat} (hlo : wm.heap.size = lo) (e1 e2 : TypeId) : Grid lo (lo + 1 + 1 + 1) (rb4 lo) 3 2 ((((wm.alloc (.cells #[.int .i64 1, .int .i64 1] e1)).alloc (.cells #[.int .i64 1, .int .i64 0] e1)).alloc (.cells #[.int .i64 0, .int .i64 1] e1)).alloc (.cells #[.slice (some ⟨lo, 0, none⟩) 2 2, .slice (some ⟨lo + 1, 0, none⟩) 2 2, .slice (some ⟨lo + 1 + 1, 0, none⟩) 2 2] e2)) := by
  obtain ⟨x1, hx1⟩ : ∃ q, q = wm.alloc (.cells #[.int .i64 1, .int .i64 1] e1) := ⟨_, rfl⟩
  rw [← hx1]
  have sx1 : x1.heap.size = lo + 1 := by rw [hx1, World.size_alloc]; omega
  have ex1 : Ext wm x1 := by rw [hx1]; exact Ext.alloc _ _
  have rx1 : x1.heap[wm.heap.size]? = some (.cells #[.int .i64 1, .int .i64 1] e1) := by rw [hx1]; exact heap_alloc_new _ _
  rw [hlo] at rx1
  obtain ⟨x2, hx2⟩ : ∃ q, q = x1.alloc (.cells #[.int .i64 1, .int .i64 0] e1) := ⟨_, rfl⟩
  rw [← hx2]
  have sx2 : x2.heap.size = lo + 1 + 1 := by rw [hx2, World.size_alloc]; omega
  have ex2 : Ext x1 x2 := by rw [hx2]; exact Ext.alloc _ _
  have rx2 : x2.heap[x1.heap.size]? = some (.cells #[.int .i64 1, .int .i64 0] e1) := by rw [hx2]; exact heap_alloc_new _ _
  rw [sx1] at rx2
  obtain ⟨x3, hx3⟩ : ∃ q, q = x2.alloc (.cells #[.int .i64 0, .int .i64 1] e1) := ⟨_, rfl⟩
  rw [← hx3]
  have sx3 : x3.heap.size = lo + 1 + 1 + 1 := by rw [hx3, World.size_alloc]; omega
  have ex3 : Ext x2 x3 := by rw [hx3]; exact Ext.alloc _ _
  have rx3 : x3.heap[x2.heap.size]? = some (.cells #[.int .i64 0, .int .i64 1] e1) := by rw [hx3]; exact heap_alloc_new _ _
  rw [sx2] at rx3
  obtain ⟨x4, hx4⟩ : ∃ q, q = x3.alloc (.cells #[.slice (some ⟨lo, 0, none⟩) 2 2, .slice (some ⟨lo + 1, 0, none⟩) 2 2, .slice (some ⟨lo + 1 + 1, 0, none⟩) 2 2] e2) := ⟨_, rfl⟩
  rw [← hx4]
  have sx4 : x4.heap.size = lo + 1 + 1 + 1 + 1 := by rw [hx4, World.size_alloc]; omega
  have ex4 : Ext x3 x4 := by rw [hx4]; exact Ext.alloc _ _
  have rx4 : x4.heap[x3.heap.size]? = some (.cells #[.slice (some ⟨lo, 0, none⟩) 2 2, .slice (some ⟨lo + 1, 0, none⟩) 2 2, .slice (some ⟨lo + 1 + 1, 0, none⟩) 2 2] e2) := by rw [hx4]; exact heap_alloc_new _ _
  rw [sx3] at rx4
  have q0 : x4.heap[lo]? = some (.cells #[.int .i64 1, .int .i64 1] e1) := (Below.block ((ex2.trans ex3).trans ex4) (lo) (by rw [sx1]; omega)).trans rx1
  have q1 : x4.heap[lo + 1]? = some (.cells #[.int .i64 1, .int .i64 0] e1) := (Below.block (ex3.trans ex4) (lo + 1) (by rw [sx2]; omega)).trans rx2
  have q2 : x4.heap[lo + 1 + 1]? = some (.cells #[.int .i64 0, .int .i64 1] e1) := (Below.block ex4 (lo + 1 + 1) (by rw [sx3]; omega)).trans rx3
  refine ⟨fun i hi => ?_, fun i hi j hj => ?_, ⟨by omega, fun i hi => ?_⟩⟩
  · rw [cell_of_row _ _ _ _ _ _ rx4]
    rcases (by omega : i = 0 ∨ i = 1 ∨ i = 2) with rfl | rfl | rfl <;> rfl
  · rcases (by omega : i = 0 ∨ i = 1 ∨ i = 2) with rfl | rfl | rfl
    · refine ⟨?_, frozen_of_row _ (lo) _ _ _ q0⟩
      show ∃ x, x4.cell? ⟨lo, j, none⟩ = _ ∧ _
      rw [cell_of_row _ _ _ _ _ _ q0]
      rcases (by omega : j = 0 ∨ j = 1) with rfl | rfl <;> exact ⟨_, rfl, by unfold I64; omega⟩
    · refine ⟨?_, frozen_of_row _ (lo + 1) _ _ _ q1⟩
      show ∃ x, x4.cell? ⟨lo + 1, j, none⟩ = _ ∧ _
      rw [cell_of_row _ _ _ _ _ _ q1]
      rcases (by omega : j = 0 ∨ j = 1) with rfl | rfl <;> exact ⟨_, rfl, by unfold I64; omega⟩
    · refine ⟨?_, frozen_of_row _ (lo + 1 + 1) _ _ _ q2⟩
      show ∃ x, x4.cell? ⟨lo + 1 + 1, j, none⟩ = _ ∧ _
      rw [cell_of_row _ _ _ _ _ _ q2]
      rcases (by omega : j = 0 ∨ j = 1) with rfl | rfl <;> exact ⟨_, rfl, by unfold I64; omega⟩
  · unfold rb4
    split
    · omega
    · split
      · omega
      · split <;> omega

set_option maxRecDepth 20000 in
set_option maxHeartbeats 4000000 in
theorem l19DrawSystem_c (w : World) (g : Nat) (h : Src g w) : Calls Tryz.prog 101 #[.pointer (some ⟨g, 0, none⟩)] w (DrawR g w (SysA w)) := by
  have hlt := h.lt
  have hd0 := (Dr.refl h).alloc (.cells #[.int .i64 0, .int .i64 0, .int .i64 0, .int .i64 0, .int .i64 0, .slice none 0 0] 32)
  have R0 := res_new w 32
  have hsz0 : (w.alloc (.cells #[.int .i64 0, .int .i64 0, .int .i64 0, .int .i64 0, .int .i64 0, .slice none 0 0] 32)).heap.size = w.heap.size + 1 := by simp
  have hcall := l01Next_c _ g hd0.src 5 (by unfold I64; omega)
  clear h
  go_enter Tryz.func101, Tryz.ntmps101
  go_wp2_with fail
  generalize w.alloc (.cells #[.int .i64 0, .int .i64 0, .int .i64 0, .int .i64 0, .int .i64 0, .slice none 0 0] 32) = w0 at *
  refine Calls.mono hcall ?_
  rintro e w1 ⟨_, rfl, ⟨x, rfl, hx0, hx1⟩, hd1⟩
  clear hcall
  have hsa := hd1.size
  have hwg : w.heap.size ≠ g := by omega
  replace R0 := R0.dr hd1 hwg
  replace hd1 := hd0.trans hd1
  have hgt : g < w1.heap.size := by omega
  have hlo : w.heap.size < w1.heap.size := by omega
  clear hd0 hsa hsz0
  by_cases e0 : x = 0
  · subst e0
    have hcall := l17Draw_c w1 g hd1.src
    go_wp2_with fail
    refine Calls.mono hcall ?_
    rintro e w2 ⟨_, rfl, ⟨mk, v, t, rfl, ht⟩, hd2⟩
    clear hcall
    obtain ⟨a, n, k, rfl, -⟩ := SliceR.shape ht
    have R2 := R0.dr hd2 hwg
    have HD := Lib.hid (hd1.trans hd2)
    have HT' := Lib.hid ht
    obtain ⟨r0, r1, r2, r3, r4, r5, f0, f1, f2, f3, f4, f5⟩ := R2
    unfold sysV
    clear ht hd1 hd2 R0
    go_wp2_with fail
    refine bodyPost_ret (v := .agg #[.int .i64 mk.c, .int .i64 mk.d, .int .i64 mk.s, .int .i64 mk.m, .int .i64 mk.l, .slice a n k]) (by simp [results, Tryz.results101, go_sem, r0, r1, r2, r3, r4, r5]) rfl ⟨_, rfl, ⟨mk, _, t, rfl, rows_put6 HT'.out hlo _ _ _ _ _ _⟩, put6 HD.out (Nat.le_refl _) _ _ _ _ _ _⟩
  · have b0 : (x == 0) = false := by simpa using e0
    by_cases e1 : x = 1
    · subst e1
      have hcall := l15Draw_c w1 g hd1.src
      go_wp2_with fail
      refine Calls.mono hcall ?_
      rintro e w2 ⟨_, rfl, ⟨mk, v, t, u, cuts, rfl, -, ht, -, -, -, -⟩, hd2⟩
      clear hcall
      obtain ⟨a, n, k, rfl, -⟩ := SliceR.shape ht
      have R2 := R0.dr hd2 hwg
      have hs2 := hd2.size
      unfold sysV
      go_upto_region 6 with fail
      generalize hwb : World.alloc w2 _ = wb
      obtain ⟨eb, Sb⟩ := sys_box hwb
      have HD := Lib.hid (hd1.trans (show Dr g w1 wb by rw [← hwb]; exact hd2.alloc _))
      have HT' : Hid (RowsR ⟨w1.heap.size, wb.heap.size, false⟩ wb (.slice a n k) t) := by rw [← hwb]; exact rows_alloc ht
      clear hwb
      obtain ⟨b, hb⟩ : ∃ b, w2.heap.size = b := ⟨_, rfl⟩
      rw [hb] at Sb ⊢
      have hwb' : w.heap.size ≠ b := by omega
      have hwb'' : b ≠ w.heap.size := by omega
      obtain ⟨c0, c1, c2, c3, c4, c5⟩ := Sb
      obtain ⟨r0, r1, r2, r3, r4, r5, f0, f1, f2, f3, f4, f5⟩ := R2.ext eb
      clear ht hd1 hd2 R0 R2 eb hb hs2
      go_wp2_with fail
      refine bodyPost_ret (v := .agg #[.int .i64 mk.c, .int .i64 mk.d, .int .i64 mk.s, .int .i64 mk.m, .int .i64 mk.l, .slice a n k]) (by simp [results, Tryz.results101, go_sem, r0, r1, r2, r3, r4, r5]) rfl ⟨_, rfl, ⟨mk, _, t, rfl, rows_put6 HT'.out hlo _ _ _ _ _ _⟩, put6 HD.out (Nat.le_refl _) _ _ _ _ _ _⟩
    · have b1 : (x == 1) = false := by simpa using e1
      have hcall := l01Next_c w1 g hd1.src 2 (by unfold I64; omega)
      go_wp2_with fail
      refine Calls.mono hcall ?_
      rintro e w2 ⟨_, rfl, ⟨y, rfl, hy0, hy1⟩, hd2⟩
      clear hcall
      have R2 := R0.dr hd2 hwg
      have hs2 := hd2.size
      replace hd2 := hd1.trans hd2
      have hy : 1 ≤ 1 + y ∧ 1 + y ≤ 2 := by omega
      clear R0 hd1 hx0 hx1 hy0 hy1
      go_upto_region 8 with fail
      generalize hm : 1 + y = m at *
      clear hm
      generalize hwm : World.alloc w2 _ = wm
      obtain ⟨em, Sm⟩ := mk_box (mk := ⟨2, 2, 1, m, 1⟩) hwm
      have hdm : Dr g w wm := by rw [← hwm]; exact hd2.alloc _
      have hsm : wm.heap.size = w2.heap.size + 1 := by rw [← hwm]; simp
      replace R2 := R2.ext em
      clear hwm
      obtain ⟨bm, hbm⟩ : ∃ b, w2.heap.size = b := ⟨_, rfl⟩
      rw [hbm] at Sm hsm ⊢
      have hbg : bm ≠ g := by omega
      have hbw : w.heap.size < bm := by omega
      obtain ⟨lo, hlo2⟩ : ∃ lo, wm.heap.size = lo := ⟨_, rfl⟩
      have hgl : g < lo := by omega
      have hbl : bm < lo := by omega
      have hwl : w.heap.size < lo := by omega
      clear hd2 em hbm hs2 hsm
      go_upto_region 9 with fail
      have hG := grid4 hlo2 2 41
      have hd5 := ((((hdm.alloc (.cells #[.int .i64 1, .int .i64 1, .int .i64 1] 2)).alloc (.cells #[.int .i64 1, .int .i64 0, .int .i64 0] 2)).alloc (.cells #[.int .i64 0, .int .i64 1, .int .i64 0] 2)).alloc (.cells #[.int .i64 0, .int .i64 0, .int .i64 1] 2)).alloc (.cells #[.slice (some ⟨lo, 0, none⟩) 3 3, .slice (some ⟨lo + 1, 0, none⟩) 3 3, .slice (some ⟨lo + 1 + 1, 0, none⟩) 3 3, .slice (some ⟨lo + 1 + 1 + 1, 0, none⟩) 3 3] 41)
      have e5 : Ext wm _ := (((((Ext.alloc wm (.cells #[.int .i64 1, .int .i64 1, .int .i64 1] 2)).trans (Ext.alloc _ (.cells #[.int .i64 1, .int .i64 0, .int .i64 0] 2))).trans (Ext.alloc _ (.cells #[.int .i64 0, .int .i64 1, .int .i64 0] 2))).trans (Ext.alloc _ (.cells #[.int .i64 0, .int .i64 0, .int .i64 1] 2))).trans (Ext.alloc _ (.cells #[.slice (some ⟨lo, 0, none⟩) 3 3, .slice (some ⟨lo + 1, 0, none⟩) 3 3, .slice (some ⟨lo + 1 + 1, 0, none⟩) 3 3, .slice (some ⟨lo + 1 + 1 + 1, 0, none⟩) 3 3] 41)))
      generalize World.alloc (World.alloc (World.alloc (World.alloc (World.alloc wm _) _) _) _) _ = w5 at *
      have R5 := R2.ext e5
      have S5 := Sm.ext e5
      have hlw5 : lo ≤ w5.heap.size := by rw [← hlo2]; exact e5.size
      have hcall := l01Next_c w5 g hd5.src 2 (by unfold I64; omega)
      clear R2 Sm hdm e5 hlo2
      go_wp2_with fail
      refine Calls.mono hcall ?_
      rintro e w6 ⟨_, rfl, ⟨q, rfl, hq0, hq1⟩, hd6⟩
      replace hlw5 := Nat.le_trans hlw5 hd6.size
      replace R5 := R5.dr hd6 (by omega)
      replace hG := hG.dr hd6 hgl
      have S6 : MkAt w6 bm ⟨2, 2, 1, m, 1⟩ := by
        obtain ⟨q0, q1, q2, q3, q4⟩ := S5
        exact ⟨hd6.cell q0 hbg, hd6.cell q1 hbg, hd6.cell q2 hbg, hd6.cell q3 hbg, hd6.cell q4 hbg⟩
      replace hd5 := hd5.trans hd6
      clear hd6 hcall S5
      go_upto_if 33 with fail
      go_cut [6] (fun s6 wx => ∃ (R C gb L : Nat) (rb : Nat → Nat), s6 = .slice (some ⟨gb, 0, none⟩) R R ∧ 3 ≤ R ∧ R ≤ 4 ∧ 2 ≤ C ∧ C ≤ 3 ∧ lo ≤ L ∧ Grid L gb rb R C wx ∧ Dr g w wx ∧ MkAt wx bm ⟨2, 2, 1, m, 1⟩ ∧ ResAt wx w.heap.size)
      case first =>
        by_cases hq : q = 0
        · subst hq
          obtain ⟨L, hL⟩ : ∃ L, w6.heap.size = L := ⟨_, rfl⟩
          have hG3 := grid3 hL 2 41
          have hd7 := (((hd5.alloc (.cells #[.int .i64 1, .int .i64 1] 2)).alloc (.cells #[.int .i64 1, .int .i64 0] 2)).alloc (.cells #[.int .i64 0, .int .i64 1] 2)).alloc (.cells #[.slice (some ⟨L, 0, none⟩) 2 2, .slice (some ⟨L + 1, 0, none⟩) 2 2, .slice (some ⟨L + 1 + 1, 0, none⟩) 2 2] 41)
          have e7 : Ext w6 _ := ((((Ext.alloc w6 (.cells #[.int .i64 1, .int .i64 1] 2)).trans (Ext.alloc _ (.cells #[.int .i64 1, .int .i64 0] 2))).trans (Ext.alloc _ (.cells #[.int .i64 0, .int .i64 1] 2))).trans (Ext.alloc _ (.cells #[.slice (some ⟨L, 0, none⟩) 2 2, .slice (some ⟨L + 1, 0, none⟩) 2 2, .slice (some ⟨L + 1 + 1, 0, none⟩) 2 2] 41)))
          have HG3 := Lib.hid hG3
          have HD7 := Lib.hid hd7
          have HS7 := Lib.hid (S6.ext e7)
          have HR7 := Lib.hid (R5.ext e7)
          have hLl : lo ≤ L := by omega
          clear hG3 hd7 e7 hG hd5 S6 R5
          go_wp2_with fail
          go_meet
          exact ⟨3, 2, _, L, _, rfl, by omega, by omega, by omega, by omega, hLl, HG3.out, HD7.out, HS7.out, HR7.out⟩
        · have hqb : (q == 0) = false := by simpa using hq
          have HG := Lib.hid hG
          have HD := Lib.hid hd5
          have HS := Lib.hid S6
          have HR := Lib.hid R5
          clear hG hd5 S6 R5
          go_wp2_with fail
          go_meet
          exact ⟨4, 3, _, lo, _, rfl, by omega, by omega, by omega, by omega, Nat.le_refl _, HG.out, HD.out, HS.out, HR.out⟩
      case rest =>
        clear hG hd5 S6 R5 hlw5 hq0 hq1
        obtain ⟨R, C, gb, L, rb, rfl, hR3, hR4, hC2, hC3, hL, hG, hd, hS, hRes⟩ := hcut
        have hcall := l01Next_c wc g hd.src 3 (by unfold I64; omega)
        go_wp2_with fail
        refine Calls.mono hcall ?_
        rintro e w7 ⟨_, rfl, ⟨n, rfl, hn0, hn1⟩, hd7⟩
        have hgL : g < L := by omega
        have hG7 := hG.dr hd7 hgL
        have hR7 := hRes.dr hd7 (by omega)
        have hS7 : MkAt w7 bm ⟨2, 2, 1, m, 1⟩ := by
          obtain ⟨q0, q1, q2, q3, q4⟩ := hS
          exact ⟨hd7.cell q0 hbg, hd7.cell q1 hbg, hd7.cell q2 hbg, hd7.cell q3 hbg, hd7.cell q4 hbg⟩
        have hD7 := hd.trans hd7
        clear hcall hd7 hG hRes hS hd
        obtain ⟨nn, rfl⟩ := Int.eq_ofNat_of_zero_le hn0
        go_wp2_with fail
        go_loopw [7] (fun s7 wr => ∃ k : Nat, k ≤ 3 ∧ s7 = .int .i64 k ∧ Grid L gb rb R C wr ∧ Dr g w wr ∧ MkAt wr bm ⟨2, 2, 1, m, 1⟩ ∧ ResAt wr w.heap.size) (fun s7 _ => (intOf s7).toNat)
        case atStart => exact ⟨nn, by omega, rfl, hG7, hD7, hS7, hR7⟩
        case round =>
          clear hG7 hD7 hS7 hR7 hn0 hn1
          obtain ⟨k, hk, rfl, hG, hD, hS, hRes⟩ := hrel
          by_cases hk0 : 0 < k
          · have hk1 : (0 : Int) < (k : Int) := by omega
            have hR0 : 0 < R := by omega
            have hR0i : (0 : Int) < (R : Int) := by omega
            have HG := Lib.hid (fun (w' : World) (h : Dr g wr w') => hG.dr h hgL)
            have HL4 := Lib.hid (fun (w' : World) (h : Dr g wr w') (n : Int) (hn : I64 n) => l01Next_c w' g h.src n hn)
            have hr0 : Dr g wr wr := Dr.refl hD.src
            have HD := Lib.hid hD
            have HSm := Lib.hid hS
            have HRs := Lib.hid hRes
            clear hG hD hS hRes
            go_wp2_with fail
            refine wp_region_noPanic ?_
            refine wp_region_held_drew (S := (fun w' => ∀ i, i < R → w'.cell? ⟨gb, i, none⟩ = some (.slice (some ⟨rb i, 0, none⟩) C C))) (by kernel_rfl) ((HG.out _ hr0.drew).outer) (fun hHeld => ?_)
            (refine take_at 0 44 (v := ?_) rfl rfl (by kernel_rfl) (by kernel_rfl) (by kernel_rfl) (fun _ _ _ h => h) (by rfl) ?_ (by assumption) ?_; rotate_left; focus (intro w999 hSw; (try dsimp only at hSw); go_simp <;> with_reducible rfl); (try simp only [Act.put, List.setIfInBounds_toArray, List.set_cons_zero, List.set_cons_succ]))
            (refine take_at 1 45 (v := ?_) rfl rfl (by kernel_rfl) (by kernel_rfl) (by kernel_rfl) (fun _ _ _ h => h) (by rfl) ?_ (by assumption) ?_; rotate_left; focus (intro w999 hSw; (try dsimp only at hSw); go_simp <;> with_reducible rfl); (try simp only [Act.put, List.setIfInBounds_toArray, List.set_cons_zero, List.set_cons_succ]))
            (refine take_at 2 46 (v := ?_) rfl rfl (by kernel_rfl) (by kernel_rfl) (by kernel_rfl) (fun _ _ _ h => h) (by rfl) ?_ (by assumption) ?_; rotate_left; focus (intro w999 hSw; (try dsimp only at hSw); go_simp <;> with_reducible rfl); (try simp only [Act.put, List.setIfInBounds_toArray, List.set_cons_zero, List.set_cons_succ]))
            (refine take_at 3 47 (v := ?_) rfl rfl (by kernel_rfl) (by kernel_rfl) (by kernel_rfl) (fun _ _ _ h => h) (by rfl) ?_ (by assumption) ?_; rotate_left; focus (intro w999 hSw; (try dsimp only at hSw); go_simp <;> with_reducible rfl); (try simp only [Act.put, List.setIfInBounds_toArray, List.set_cons_zero, List.set_cons_succ]))
            (refine take_at 7 51 (v := ?_) rfl rfl (by kernel_rfl) (by kernel_rfl) (by kernel_rfl) (fun _ _ _ h => h) (by rfl) ?_ (by assumption) ?_; rotate_left; focus (intro w999 hSw; (try dsimp only at hSw); go_simp <;> with_reducible rfl); (try simp only [Act.put, List.setIfInBounds_toArray, List.set_cons_zero, List.set_cons_succ]))
            (refine take_at 8 52 (v := ?_) rfl rfl (by kernel_rfl) (by kernel_rfl) (by kernel_rfl) (fun _ _ _ h => h) (by rfl) ?_ (by assumption) ?_; rotate_left; focus (intro w999 hSw; (try dsimp only at hSw); go_simp <;> with_reducible rfl); (try simp only [Act.put, List.setIfInBounds_toArray, List.set_cons_zero, List.set_cons_succ]))
            (refine take_at 9 53 (v := ?_) rfl rfl (by kernel_rfl) (by kernel_rfl) (by kernel_rfl) (fun _ _ _ h => h) (by rfl) ?_ (by assumption) ?_; rotate_left; focus (intro w999 hSw; (try dsimp only at hSw); go_simp <;> with_reducible rfl); (try simp only [Act.put, List.setIfInBounds_toArray, List.set_cons_zero, List.set_cons_succ]))
            (refine take_at 10 54 (v := ?_) rfl rfl (by kernel_rfl) (by kernel_rfl) (by kernel_rfl) (fun _ _ _ h => h) (by rfl) ?_ (by assumption) ?_; rotate_left; focus (intro w999 hSw; have hc999 := hSw 0 (by omega); clear hSw; go_simp <;> with_reducible rfl); (try simp only [Act.put, List.setIfInBounds_toArray, List.set_cons_zero, List.set_cons_succ]))
            (refine take_at 11 55 (v := ?_) rfl rfl (by kernel_rfl) (by kernel_rfl) (by kernel_rfl) (fun _ _ _ h => h) (by rfl) ?_ (by assumption) ?_; rotate_left; focus (intro w999 hSw; (try dsimp only at hSw); go_simp <;> with_reducible rfl); (try simp only [Act.put, List.setIfInBounds_toArray, List.set_cons_zero, List.set_cons_succ]))
            (refine take_at 13 57 (v := ?_) rfl rfl (by kernel_rfl) (by kernel_rfl) (by kernel_rfl) (fun _ _ _ h => h) (by rfl) ?_ (by assumption) ?_; rotate_left; focus (intro w999 hSw; (try dsimp only at hSw); go_simp <;> with_reducible rfl); (try simp only [Act.put, List.setIfInBounds_toArray, List.set_cons_zero, List.set_cons_succ]))
            (refine wpAnyH_ready (rs := [4]) (by kernel_rfl) (by simp) ?_; refine AllReadyH.cons rfl (fun K hK => ?_) AllReadyH.nil; go_simp)
            refine (HL4.out _ hr0.drew (R : Int) (by unfold I64; omega)).mono ?_
            rintro e w8 ⟨_, rfl, ⟨y1, rfl, y10, y11⟩, hd8⟩
            have hd88 : Dr g wr w8 := hr0.drew.trans hd8
            obtain ⟨i, rfl⟩ := Int.eq_ofNat_of_zero_le y10
            have hi : i < R := by omega
            have hii : (i : Int) < (R : Int) := by omega
            clear y10 y11 hd8
            (refine hK.out _ _ ?_ (fun hHeld => ?_))
            · exact (HG.out _ hd88).outer
            (clear hK K; try simp only [Act.put, List.setIfInBounds_toArray, List.set_cons_zero, List.set_cons_succ])
            (refine take_at 5 49 (v := ?_) rfl rfl (by kernel_rfl) (by kernel_rfl) (by kernel_rfl) (fun _ _ _ h => h) (by rfl) ?_ (by assumption) ?_; rotate_left; focus (intro w999 hSw; (try dsimp only at hSw); go_simp <;> with_reducible rfl); (try simp only [Act.put, List.setIfInBounds_toArray, List.set_cons_zero, List.set_cons_succ]))
            (refine take_at 6 50 (v := ?_) rfl rfl (by kernel_rfl) (by kernel_rfl) (by kernel_rfl) (fun _ _ _ h => h) (by rfl) ?_ (by assumption) ?_; rotate_left; focus (intro w999 hSw; have hc999 := hSw i hi; clear hSw; go_simp <;> with_reducible rfl); (try simp only [Act.put, List.setIfInBounds_toArray, List.set_cons_zero, List.set_cons_succ]))
            (refine wpAnyH_ready (rs := [12]) (by kernel_rfl) (by simp) ?_; refine AllReadyH.cons rfl (fun K hK => ?_) AllReadyH.nil; go_simp)
            refine (HL4.out _ hd88 (C : Int) (by unfold I64; omega)).mono ?_
            rintro e w9 ⟨_, rfl, ⟨y2, rfl, y20, y21⟩, hd9⟩
            have hd99 : Dr g wr w9 := hd88.trans hd9
            obtain ⟨j, rfl⟩ := Int.eq_ofNat_of_zero_le y20
            have hj : j < C := by omega
            have hji : (j : Int) < (C : Int) := by omega
            clear y20 y21 hd9
            (refine hK.out _ _ ?_ (fun hHeld => ?_))
            · exact (HG.out _ hd99).outer
            (clear hK K; try simp only [Act.put, List.setIfInBounds_toArray, List.set_cons_zero, List.set_cons_succ])
            (refine wpAnyH_ready (rs := [14]) (by kernel_rfl) (by simp) ?_; refine AllReadyH.cons rfl (fun K hK => ?_) AllReadyH.nil; go_simp)
            refine (HL4.out _ hd99 2 (by unfold I64; omega)).mono ?_
            rintro e w10 ⟨_, rfl, ⟨y3, rfl, y30, y31⟩, hd10⟩
            have hd1010 : Dr g wr w10 := hd99.trans hd10
            have hy3 : I64 y3 := by unfold I64; omega
            clear y30 y31 hd10
            (refine hK.out _ _ ?_ (fun hHeld => ?_))
            · exact (HG.out _ hd1010).outer
            (clear hK K; try simp only [Act.put, List.setIfInBounds_toArray, List.set_cons_zero, List.set_cons_succ])
            (refine take_at 15 59 (v := ?_) rfl rfl (by kernel_rfl) (by kernel_rfl) (by kernel_rfl) (fun _ _ _ h => h) (by rfl) ?_ (by assumption) ?_; rotate_left; focus (intro w999 hSw; (try dsimp only at hSw); go_simp <;> with_reducible rfl); (try simp only [Act.put, List.setIfInBounds_toArray, List.set_cons_zero, List.set_cons_succ]))
            obtain ⟨⟨x0, hx0, -⟩, hf0⟩ := (HG.out _ hd1010).inner i hi j hj
            have hPut := (HG.out _ hd1010).put hi hj hy3
            have HPut := Lib.hid hPut
            clear hPut
            (refine wpAnyH_ready (rs := [16]) (by kernel_rfl) (by simp) ?_; refine AllReadyH.cons rfl (fun K hK => ?_) AllReadyH.nil; go_simp)
            (refine hK.out _ _ ?_ (fun hHeld => ?_))
            · exact HPut.out.outer
            (clear hK K; try simp only [Act.put, List.setIfInBounds_toArray, List.set_cons_zero, List.set_cons_succ])
            refine wpAnyH_done (by kernel_rfl) ?_ _
            refine NoPanic.normal ?_
            have hlr := (HG.out _ hd1010).low.2 i hi
            have HDp : Hid (Dr g w (w10.setCell ⟨rb i, j, none⟩ (.int .i64 y3))) := (HD.out.trans hd1010).put (p := ⟨rb i, j, none⟩) (by show w.heap.size ≤ rb i; omega) _
            have hSp : MkAt (w10.setCell ⟨rb i, j, none⟩ (.int .i64 y3)) bm ⟨2, 2, 1, m, 1⟩ := by
              obtain ⟨q0, q1, q2, q3, q4⟩ := HSm.out
              have e : ∀ l, (⟨rb i, j, none⟩ : Addr) ≠ ⟨bm, l, none⟩ := fun l q => by
                have : rb i = bm := by injection q
                omega
              exact ⟨by rw [World.cell?_setCell_other _ _ _ _ (e 0)]; exact hd1010.cell q0 hbg, by rw [World.cell?_setCell_other _ _ _ _ (e 1)]; exact hd1010.cell q1 hbg, by rw [World.cell?_setCell_other _ _ _ _ (e 2)]; exact hd1010.cell q2 hbg, by rw [World.cell?_setCell_other _ _ _ _ (e 3)]; exact hd1010.cell q3 hbg, by rw [World.cell?_setCell_other _ _ _ _ (e 4)]; exact hd1010.cell q4 hbg⟩
            have HSp := Lib.hid hSp
            have HRp : Hid (ResAt (w10.setCell ⟨rb i, j, none⟩ (.int .i64 y3)) w.heap.size) := (HRs.out.dr hd1010 hwg).putOther (by show w.heap.size ≠ rb i; omega)
            clear hSp hx0 hf0 hlr hd1010 hd99 hd88
            go_wp2_with fail
            go_roundw
            case rel => exact ⟨k - 1, by omega, congrArg (Value.int .i64) (by omega), HPut.out, HDp.out, HSp.out, HRp.out⟩
            case measure => simp [intOf]; omega
          · have hk1 : ¬ ((0 : Int) < (k : Int)) := by omega
            obtain ⟨t, ht⟩ := hG.rows (by omega) (by omega)
            have HT := Lib.hid ht
            have HD := Lib.hid hD
            have hwL : w.heap.size < L := by omega
            obtain ⟨c0, c1, c2, c3, c4⟩ := hS
            obtain ⟨r0, r1, r2, r3, r4, r5, f0, f1, f2, f3, f4, f5⟩ := hRes
            simp only at c0 c1 c2 c3 c4
            have hwb' : w.heap.size ≠ bm := by omega
            have hwb'' : bm ≠ w.heap.size := by omega
            clear ht hG hD
            go_wp2_with fail
            refine bodyPost_ret (v := .agg #[.int .i64 2, .int .i64 2, .int .i64 1, .int .i64 m, .int .i64 1, .slice (some ⟨gb, 0, none⟩) R R]) (by simp [results, Tryz.results101, go_sem, r0, r1, r2, r3, r4, r5]) rfl ⟨_, rfl, ⟨⟨2, 2, 1, m, 1⟩, _, t, rfl, rows_put6 HT.out hwL _ _ _ _ _ _⟩, put6 HD.out (Nat.le_refl _) _ _ _ _ _ _⟩
end Go.Proofs.YthgmojggpjnckaaGreat
