/- Proved: strings.SplitAfter at a line's end: the lines with their ends. -/
import Derived.Test.YtejaobbdcnnknaaDoorChecked
import Derived.Lib.SplitLaws
import Derived.Test.YtejaobbdcnnknaaDoorUSameLaw
import Derived.Test.YtejaobbdcnnknaaDoorUSplitLay
namespace Go.Proofs.YtejaobbdcnnknaaDoor
open Go.ChangeShapes Go.WideShapes Go.ChangeAt Go.RowKit
set_option linter.unusedVariables false

theorem linesTo_clean (b : UInt8) (l : List UInt8) : (∀ d ∈ (linesTo b l).1, b ∉ d) ∧ b ∉ (linesTo b l).2 := by
  induction l using list_snoc_ind with
  | h0 => simp [linesTo]
  | h1 l c ih =>
    rw [linesTo_snoc]
    unfold lineStep
    by_cases h : c = b
    · rw [if_pos h]
      refine ⟨fun d hd => ?_, by simp⟩
      rcases List.mem_append.1 hd with q | q
      · exact ih.1 d q
      · rw [List.mem_singleton.1 q]; exact ih.2
    · rw [if_neg h]
      refine ⟨ih.1, fun q => ?_⟩
      rcases List.mem_append.1 q with q | q
      · exact ih.2 q
      · exact h (List.mem_singleton.1 q).symm
theorem index_line (b : UInt8) (d r : List UInt8) (h : b ∉ d) : Lib.index (d ++ b :: r) [b] = (d.length : Int) := by
  refine Lib.index_first (by simp) ?_ (fun j hj => ?_)
  · unfold Lib.occAt
    rw [List.drop_left]
    simp [List.isPrefixOf]
  · unfold Lib.occAt
    rw [List.drop_append_of_le_length (by omega)]
    obtain ⟨x, t, e, hx⟩ : ∃ x t, d.drop j = x :: t ∧ x ∈ d := ⟨d[j], d.drop (j + 1), (List.getElem_cons_drop hj).symm, List.getElem_mem hj⟩
    rw [e]
    have hne : b ≠ x := fun q => h (q ▸ hx)
    rw [List.cons_append]
    show ((b == x) && List.isPrefixOf [] _) = false
    rw [beq_eq_false_iff_ne.2 hne]
    rfl
theorem splitK_lines (b : UInt8) : ∀ (D : List (List UInt8)) (r : List UInt8), (∀ d ∈ D, b ∉ d) → Lib.splitK [b] 1 D.length (joinL b D ++ r) = D.map (fun d => d ++ [b]) ++ [r]
  | [], r, _ => rfl
  | d :: D, r, h => by
    have e : joinL b (d :: D) ++ r = d ++ b :: (joinL b D ++ r) := by unfold joinL; simp
    have hi := index_line b d (joinL b D ++ r) (h d (List.mem_cons_self ..))
    rw [e, List.length_cons, Lib.splitK, hi]
    have hm : ((d.length : Int) == -1) = false := by rw [beq_eq_false_iff_ne]; omega
    rw [hm]
    simp only [Bool.false_eq_true, if_false, Int.toNat_natCast, List.length_singleton, List.map_cons, List.cons_append]
    have e2 : d ++ b :: (joinL b D ++ r) = (d ++ [b]) ++ (joinL b D ++ r) := by simp
    congr 1
    · rw [e2, List.take_append_of_le_length (by simp), List.take_of_length_le (by simp)]
    · have e3 : d.length + 1 = (d ++ [b]).length := by simp
      rw [e2, e3, List.drop_left]
      exact splitK_lines b D r (fun x hx => h x (List.mem_cons_of_mem _ hx))
/-- the lines of a text with their ends, and what stands behind them -/
def afterL (l : List UInt8) : List ByteArray := ((lns l).map fun d => strOf (d ++ [10])) ++ [strOf (linesTo 10 l).2]
theorem afterL_len (l : List UInt8) : (afterL l).length = l.count 10 + 1 := by unfold afterL lns; rw [List.length_append, List.length_map, List.length_singleton, linesTo_count]
theorem strOf_data (s : ByteArray) : strOf s.data.toList = s := by unfold strOf; rw [Array.toArray_toList]
theorem count_line (s : ByteArray) : Lib.countB s ⟨#[10]⟩ = s.data.toList.count 10 := by
  show Lib.count s.data.toList [10] = _
  exact Lib.count_one 10 _
theorem splitB_lines (s : ByteArray) : Lib.splitB ⟨#[10]⟩ 1 (Lib.countB s ⟨#[10]⟩) s = afterL s.data.toList := by
  have h1 := Lib.splitB_data ⟨#[10]⟩ 1 (Lib.countB s ⟨#[10]⟩) s
  have h2 : Lib.splitK [10] 1 (Lib.countB s ⟨#[10]⟩) s.data.toList = (lns s.data.toList).map (fun d => d ++ [10]) ++ [(linesTo 10 s.data.toList).2] := by
    have h3 := splitK_lines 10 (lns s.data.toList) (linesTo 10 s.data.toList).2 (linesTo_clean 10 _).1
    have h4 : joinL 10 (lns s.data.toList) ++ (linesTo 10 s.data.toList).2 = s.data.toList := (linesTo_join 10 _).symm
    rw [h4] at h3
    rw [count_line, ← linesTo_count]
    exact h3
  have h5 : (Lib.splitB ⟨#[10]⟩ 1 (Lib.countB s ⟨#[10]⟩) s).map (·.data.toList) = (lns s.data.toList).map (fun d => d ++ [10]) ++ [(linesTo 10 s.data.toList).2] := h1.trans h2
  have h6 := congrArg (List.map strOf) h5
  rw [List.map_map] at h6
  have h7 : (strOf ∘ fun x : ByteArray => x.data.toList) = id := funext fun x => strOf_data x
  rw [h7, List.map_id] at h6
  rw [h6]
  unfold afterL
  simp

set_option maxRecDepth 20000 in
set_option maxHeartbeats 1000000 in
theorem splitAfter_c (w : World) (s : ByteArray) (hs : s.size ≤ 240) (hm : ∃ m, w.cell? ⟨Tryd.genSplit_ren.g 1, 0, none⟩ = some (.int .i64 m)) :
    Calls Tryd.prog 12 #[.string s, .string ⟨#[10]⟩] w (Ret w fun r w' => r = .slice (some ⟨w.heap.size, 0, none⟩) (s.data.toList.count 10 + 1) (s.data.toList.count 10 + 1) ∧ ∀ i, i < s.data.toList.count 10 + 1 → w'.cell? ⟨w.heap.size, i, none⟩ = some (.string ((afterL s.data.toList).getD i ⟨#[]⟩))) := by
  obtain ⟨m, hm⟩ := hm
  have hcl := Lib.countB_le ⟨#[10]⟩ (Nat.le_refl _) s.size s (Nat.le_refl _)
  have hcall := Go.Proofs.Any.strings_genSplit Tryd.genSplit (by kernel_rfl) s ⟨#[10]⟩ 1 (-1) (Lib.countB s ⟨#[10]⟩ + 1) m w (by omega) hm (Nat.le_refl _) (Nat.le_refl _) (by omega) (by omega) (by rw [if_pos (by omega)]; omega)
  rw [Nat.add_sub_cancel, splitB_lines, afterL_len, count_line] at hcall
  have hf : Lib.cellsOf (afterL s.data.toList) (s.data.toList.count 10 + 1) = ((afterL s.data.toList).map Value.string).toArray := by rw [← afterL_len]; exact Lib.cellsOf_full _
  rw [hf] at hcall
  have HX : Hid (∀ (t : TypeId) i, i < s.data.toList.count 10 + 1 → (w.alloc (.cells ((afterL s.data.toList).map Value.string).toArray t)).cell? ⟨w.heap.size, i, none⟩ = some (.string ((afterL s.data.toList).getD i ⟨#[]⟩))) := fun t i hi => by
    rw [cell_of_row _ _ _ _ t (0, 0) (heap_alloc_new w _)]
    have hi2 : i < (afterL s.data.toList).length := by rw [afterL_len]; exact hi
    simp [hi2]
  have hc : Calls Tryd.prog 19 #[.string s, .string ⟨#[10]⟩, .int .i64 1, .int .i64 (-1)] w (Ret w fun r w' => r = .slice (some ⟨w.heap.size, 0, none⟩) (s.data.toList.count 10 + 1) (s.data.toList.count 10 + 1) ∧ ∀ i, i < s.data.toList.count 10 + 1 → w'.cell? ⟨w.heap.size, i, none⟩ = some (.string ((afterL s.data.toList).getD i ⟨#[]⟩))) :=
    hcall.mono (by
      rintro e w' ⟨rfl, rfl⟩
      exact ⟨_, rfl, ⟨rfl, HX.out _⟩, Ext.alloc _ _⟩)
  generalize s.data.toList.count 10 + 1 = n at *
  generalize afterL s.data.toList = L at *
  clear hcall hf HX hcl hm
  go_enter Tryd.func12, Tryd.ntmps12
  go_wp2_with fail
  refine Calls.mono hc ?_
  rintro e w1 hr
  obtain ⟨r, rfl, ⟨rfl, hx⟩, e1⟩ := ret_ext hr
  have HX := Lib.hid hx
  clear hr hc hx
  go_wp2_with fail
  go_ret
  exact ⟨_, rfl, ⟨rfl, HX.out⟩, e1⟩
end Go.Proofs.YtejaobbdcnnknaaDoor
