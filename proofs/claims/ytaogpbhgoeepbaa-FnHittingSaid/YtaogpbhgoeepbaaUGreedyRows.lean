/- Proved: the counts of the greedy choice, as the program makes them. -/
import Derived.Test.YtaogpbhgoeepbaaUGreedySpec
import Derived.Test.YtaogpbhgoeepbaaUMaxInts
import Derived.Test.YtaogpbhgoeepbaaUFuncs
namespace Go.Proofs.Ytaogpbhgoeepbaa
open Go.ChangeShapes Go.WideShapes Go.ChangeAt Go.RowKit
set_option linter.unusedVariables false

theorem rising_lt {xs : List Int} {n : Int} (h : rising xs n = true) : ∀ j, j < xs.length → ∀ i, i < j → xs.getD i 0 < xs.getD j 0 := by
  intro j
  induction j with
  | zero => intro _ i hi; omega
  | succ j ih =>
    intro hj i hi
    have h1 : risingAt xs n (j+1) = true := (List.all_eq_true.1 h) (j+1) (List.mem_range.2 hj)
    unfold risingAt at h1
    have h2 := (of_decide_eq_true h1).2.2 (by omega)
    simp only [Nat.add_sub_cancel] at h2
    by_cases e : i = j
    · subst e; exact h2
    · exact Int.lt_trans (ih (by omega) i (by omega)) h2

def cntI (xss : List (List Int)) (c : List Int) (m : Nat) : List Int := (List.range m).map fun (x : Nat) => ((cntL xss c (x : Int) : Nat) : Int)
def midRow (xss : List (List Int)) (c : List Int) (m : Nat) (s : List Int) (j : Nat) : List Int := (List.range m).map fun (x : Nat) => ((cntL xss c (x : Int) : Nat) : Int) + if (!common s c && has (s.take j) (x : Int)) = true then 1 else 0
theorem cntI_length (xss : List (List Int)) (c : List Int) (m : Nat) : (cntI xss c m).length = m := by simp [cntI]
theorem midRow_length (xss : List (List Int)) (c : List Int) (m : Nat) (s : List Int) (j : Nat) : (midRow xss c m s j).length = m := by simp [midRow]
theorem cntI_zero (c : List Int) (m : Nat) : cntI [] c m = List.replicate m 0 := by
  rw [List.eq_replicate_iff]
  exact ⟨cntI_length _ _ _, fun b hb => by obtain ⟨x, -, rfl⟩ := List.mem_map.1 hb; rfl⟩
theorem midRow_zero (xss : List (List Int)) (c : List Int) (m : Nat) (s : List Int) : midRow xss c m s 0 = cntI xss c m := by
  unfold midRow cntI
  refine List.map_congr_left (fun x _ => ?_)
  simp [has]
theorem midRow_end {xss : List (List Int)} {i : Nat} (h : i < xss.length) (c : List Int) (m : Nat) : midRow (xss.take i) c m xss[i] xss[i].length = cntI (xss.take (i+1)) c m := by
  unfold midRow cntI
  refine List.map_congr_left (fun x _ => ?_)
  rw [cntL_succ h, List.take_length]
  split <;> simp
theorem midRow_no {xss : List (List Int)} {c : List Int} {m : Nat} {s : List Int} {j : Nat} (h : common s c = true) : midRow xss c m s (j+1) = midRow xss c m s j := by
  unfold midRow
  refine List.map_congr_left (fun x _ => ?_)
  simp [h]
theorem has_take_succ {s : List Int} {j : Nat} (h : j < s.length) (x : Int) : has (s.take (j+1)) x = (has (s.take j) x || (s.getD j 0 == x)) := by
  unfold has
  rw [List.take_add_one, List.getElem?_eq_getElem h, List.any_append]
  simp [h]
theorem midRow_yes {xss : List (List Int)} {c : List Int} {m : Nat} {s : List Int} {j k : Nat} (h : common s c = false) (hr : rising s (m : Int) = true) (hj : j < s.length) (hk : s.getD j 0 = (k : Int)) :
    ∃ hkl : k < (midRow xss c m s j).length, midRow xss c m s (j+1) = (midRow xss c m s j).set k ((midRow xss c m s j)[k] + 1) := by
  obtain ⟨r1, r2⟩ := rising_ge hr j hj
  have hkm : k < m := by omega
  refine ⟨by rw [midRow_length]; exact hkm, ?_⟩
  have hnot : has (s.take j) (k : Int) = false := by
    rw [Bool.eq_false_iff]
    intro hh
    obtain ⟨i, hi, e⟩ := List.getElem_of_mem (has_iff.1 hh)
    rw [List.length_take] at hi
    have := rising_lt hr j hj i (by omega)
    rw [List.getElem_take] at e
    have e' : s.getD i 0 = (k : Int) := by rw [← e]; simp [show i < s.length by omega]
    omega
  refine List.ext_getElem (by simp [midRow_length]) (fun x h1 h2 => ?_)
  rw [midRow_length] at h1
  rw [List.getElem_set]
  simp only [midRow, List.getElem_map, List.getElem_range, h, Bool.not_false, Bool.true_and, has_take_succ hj, hk]
  by_cases e : k = x
  · subst e
    simp [hnot]
  · have : ((k : Int) == (x : Int)) = false := by simp; omega
    rw [if_neg e]
    simp [this]
theorem midRow_bound {xss : List (List Int)} {c : List Int} {m : Nat} {s : List Int} {j k : Nat} (h : k < (midRow xss c m s j).length) (hl : xss.length ≤ 60) : 0 ≤ (midRow xss c m s j)[k] ∧ (midRow xss c m s j)[k] ≤ 61 := by
  have := cntL_le xss c (k : Int)
  simp only [midRow, List.getElem_map, List.getElem_range]
  split <;> omega
theorem maxAt_ge (xs : List Int) : ∀ k, k ≤ xs.length → ∀ j, j < k → xs.getD j 0 ≤ maxAt xs k := by
  intro k
  induction k with
  | zero => intro _ j hj; omega
  | succ k ih =>
    intro hk j hj
    rw [maxAt_succ (by omega)]
    by_cases e : j = k
    · rw [e]; exact Int.le_max_right _ _
    · exact Int.le_trans (ih (by omega) j (by omega)) (Int.le_max_left _ _)
theorem maxAt_mem (xs : List Int) : ∀ k, 0 < k → k ≤ xs.length → ∃ j, j < k ∧ maxAt xs k = xs.getD j 0 := by
  intro k
  induction k with
  | zero => intro h; omega
  | succ k ih =>
    intro _ hk
    by_cases e : k = 0
    · subst e; exact ⟨0, by omega, maxAt_one (by omega)⟩
    · obtain ⟨j, hj, hm⟩ := ih (by omega) (by omega)
      rw [maxAt_succ (by omega)]
      rcases Int.le_total (maxAt xs k) (xs.getD k 0) with h | h
      · exact ⟨k, by omega, Int.max_eq_right h⟩
      · exact ⟨j, by omega, by rw [Int.max_eq_left h, hm]⟩
theorem pick_index {xss : List (List Int)} {c : List Int} {m : Nat} (hm : 1 ≤ m) : idxR (fun y => y == maxAt (cntI xss c m) (cntI xss c m).length) (cntI xss c m) = (pickX m xss c : Int) := by
  obtain ⟨p1, p2, p3⟩ := pick_is (fun j => cntL xss c (j : Int)) (n := m) (by omega)
  have ep : pickL (fun j => cntL xss c (j : Int)) m = pickX m xss c := rfl
  rw [ep] at p1 p2 p3
  clear ep
  have hg : ∀ j, j < m → (cntI xss c m).getD j 0 = ((cntL xss c (j : Int) : Nat) : Int) := fun j hj => by simp [cntI, hj]
  have hmax : maxAt (cntI xss c m) (cntI xss c m).length = ((cntL xss c (pickX m xss c : Int) : Nat) : Int) := by
    rw [cntI_length]
    have h1 := maxAt_ge (cntI xss c m) m (by rw [cntI_length]; exact Nat.le_refl _) (pickX m xss c) p1
    obtain ⟨j, hj, h2⟩ := maxAt_mem (cntI xss c m) m (by omega) (by rw [cntI_length]; exact Nat.le_refl _)
    rw [hg _ p1] at h1
    rw [h2, hg j hj] at h1
    rw [h2, hg j hj]
    have := p2 j hj
    omega
  refine idxR_at _ _ (pickX m xss c) (by rw [cntI_length]; exact p1) ?_ (fun j hj hjk => ?_)
  · rw [hmax]; simp [cntI]
  · rw [hmax]
    have := p3 j hjk
    simp only [cntI, List.getElem_map, List.getElem_range, beq_eq_false_iff_ne, ne_eq]
    omega
theorem stateG_pick {n : Nat} {xss : List (List Int)} {c : List Int} (ho : OkSets n xss) (h : StateG n xss c) (hh : hitsB xss c = false) : StateG n xss (c ++ [(pickX n xss c : Int)]) ∧ pickX n xss c < n := by
  obtain ⟨k, rfl, hg, hno⟩ := h
  refine ⟨⟨k + 1, rfl, goodG_succ ho hg hh, fun j hj => ?_⟩, (pick_new ho hh).1⟩
  by_cases e : j = k
  · rw [e]; exact hh
  · exact hno j (by omega)
end Go.Proofs.Ytaogpbhgoeepbaa
