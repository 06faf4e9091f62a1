/- Proved: the least hitting list is minimal, hits, has at least as many elements as the bound and at most as many as the greedy one. -/
import Derived.Test.YtaogpbhgoeepbaaULeast
import Derived.Test.YtaogpbhgoeepbaaUHitting
import Derived.Test.YtaogpbhgoeepbaaUGreedyLaw
import Derived.Test.YtaogpbhgoeepbaaUMinimal
namespace Go.Proofs.Ytaogpbhgoeepbaa
open Go.ChangeShapes Go.WideShapes Go.ChangeAt Go.RowKit
set_option linter.unusedVariables false

theorem hitsB_iff {xss : List (List Int)} {l : List Int} : hitsB xss l = true ↔ ∀ s ∈ xss, ∃ x ∈ s, x ∈ l := by
  unfold hitsB common
  simp only [List.all_eq_true, List.any_eq_true, has_iff]
theorem rising_of_rises {n : Nat} {l : List Int} (h : Rises n l) : rising l n = true := by
  unfold rising
  rw [List.all_eq_true]
  intro i hi
  rw [List.mem_range] at hi
  unfold risingAt
  rw [decide_eq_true_iff]
  have hm := h.2 l[i] (List.getElem_mem hi)
  rw [show l.getD i 0 = l[i] by simp [hi]]
  refine ⟨hm.1, hm.2, fun hp => ?_⟩
  rw [show l.getD (i-1) 0 = l[i-1] by simp [show i - 1 < l.length by omega]]
  exact List.pairwise_iff_getElem.1 h.1 (i-1) i (by omega) hi (by omega)
theorem rises_of_rising {n : Int} {l : List Int} (h : rising l n = true) : Rises n.toNat l := by
  have hg := rising_ge h
  have hp : l.Pairwise (· < ·) := by
    have hstep : ∀ i (hi : i + 1 < l.length), l[i] < l[i+1] := fun i hi => by
      unfold rising at h
      rw [List.all_eq_true] at h
      have := h (i+1) (List.mem_range.2 hi)
      unfold risingAt at this
      rw [decide_eq_true_iff] at this
      have := this.2.2 (by omega)
      simpa [hi, show i < l.length by omega] using this
    rw [List.pairwise_iff_getElem]
    intro i j hi hj hij
    induction j with
    | zero => omega
    | succ j ih =>
      by_cases e : i = j
      · subst e; exact hstep i hj
      · have := ih (by omega) (by omega)
        have := hstep j hj
        omega
  refine ⟨hp, fun y hy => ?_⟩
  obtain ⟨i, hi, rfl⟩ := List.getElem_of_mem hy
  have := hg i hi
  rw [show l.getD i 0 = l[i] by simp [hi]] at this
  omega

/-- the first list that has it is the best one -/
theorem leastL_is {p : List Int → Bool} {n : Nat} (hex : ∃ x, Rises n x ∧ p x = true) : Rises n (leastL p n) ∧ p (leastL p n) = true ∧ ∀ x, Rises n x → p x = true → lessL x (leastL p n) = false := by
  have hb := bestOf_is p (allSets n)
  unfold leastL
  cases h : bestOf p (allSets n) with
  | none =>
    rw [h] at hb
    obtain ⟨x, h1, h2⟩ := hex
    rw [hb x (mem_allSets.2 h1)] at h2
    cases h2
  | some b =>
    rw [h] at hb
    exact ⟨mem_allSets.1 hb.1, hb.2.1, fun x hx hp => hb.2.2 x (mem_allSets.2 hx) hp⟩
theorem lessL_len {a b : List Int} (h : lessL a b = false) : b.length ≤ a.length := by
  rcases Nat.lt_or_ge a.length b.length with h' | h'
  · rw [lessL_iff.2 (.inl h')] at h; cases h
  · exact h'
theorem without_sublist (l : List Int) (k : Nat) : (without l k).Sublist l := by
  unfold without
  have h1 : (l.drop (k+1)).Sublist (l.drop k) := by
    rw [show l.drop (k+1) = (l.drop k).drop 1 by rw [List.drop_drop]]
    exact List.drop_sublist _ _
  have h2 := (List.Sublist.refl (l.take k)).append h1
  rwa [List.take_append_drop] at h2
theorem rises_sublist {n : Nat} {a b : List Int} (h : a.Sublist b) (hb : Rises n b) : Rises n a := ⟨hb.1.sublist h, fun y hy => hb.2 y (h.subset hy)⟩
theorem without_len {l : List Int} {k : Nat} (hk : k < l.length) : (without l k).length < l.length := by
  unfold without; simp; omega
/-- all numbers hit the sets -/
theorem all_hit {n : Int} {xss : List (List Int)} (h : areSets n xss = true) : ∃ x, Rises n.toNat x ∧ hitsB xss x = true := by
  obtain ⟨h1, h2, h3, h4⟩ := areSets_mem h
  refine ⟨upto (fun _ => true) n.toNat, ⟨upto_pairwise _ _, fun y hy => by have := upto_mem.1 hy; omega⟩, hitsB_iff.2 fun s hs => ?_⟩
  obtain ⟨g1, g2, -⟩ := h4 s hs
  cases s with
  | nil => exact absurd rfl g1
  | cons a s =>
    have := (rises_of_rising g2).2 a (List.mem_cons_self ..)
    exact ⟨a, List.mem_cons_self .., upto_mem.2 ⟨this.1, this.2, rfl⟩⟩
theorem least_minimal {n : Int} {xss : List (List Int)} (h : areSets n xss = true) : minimalB xss (leastL (hitsB xss) n.toNat) = true := by
  obtain ⟨h1, h2, h3⟩ := leastL_is (all_hit h)
  unfold minimalB
  rw [Bool.and_eq_true]
  refine ⟨h2, List.all_eq_true.2 fun k hk => ?_⟩
  rw [List.mem_range] at hk
  cases e : hitsB xss (without (leastL (hitsB xss) n.toNat) k) with
  | false => rfl
  | true =>
    have := lessL_len (h3 _ (rises_sublist (without_sublist _ _) h1) e)
    have := without_len hk
    omega
theorem greedy_ends {n : Nat} {xss : List (List Int)} (ho : OkSets n xss) : Rises n (greedyL n xss) ∧ hitsB xss (greedyL n xss) = true := by
  have hall : ∀ k, (∀ j, j < k → hitsB xss (greedyN n xss j) = false) → GoodG n xss k (greedyN n xss k) := fun k => by
    induction k with
    | zero => intro _; exact goodG_zero ho
    | succ k ih =>
      intro hj
      exact goodG_succ ho (ih fun j hjk => hj j (by omega)) (hj k (by omega))
  have hex : ∃ k, k ≤ 60 ∧ hitsB xss (greedyN n xss k) = true ∧ ∀ j, j < k → hitsB xss (greedyN n xss j) = false := by
    by_cases hne : ∀ j, j < 61 → hitsB xss (greedyN n xss j) = false
    · have := (hall 61 hne).2.1; omega
    · obtain ⟨j, hj⟩ := Classical.not_forall.1 hne
      have hj' : j < 61 ∧ hitsB xss (greedyN n xss j) = true := by
        constructor
        · exact Decidable.byContradiction fun h => hj fun h' => absurd h' h
        · cases e : hitsB xss (greedyN n xss j) with
          | true => rfl
          | false => exact absurd (fun _ => e) hj
      clear hj hne
      induction j using Nat.strongRecOn with
      | ind j ih =>
        by_cases hall' : ∀ i, i < j → hitsB xss (greedyN n xss i) = false
        · exact ⟨j, by omega, hj'.2, hall'⟩
        · obtain ⟨i, hi⟩ := Classical.not_forall.1 hall'
          have hij : i < j := Decidable.byContradiction fun h => hi fun h' => absurd h' h
          refine ih i hij ⟨by omega, ?_⟩
          cases e : hitsB xss (greedyN n xss i) with
          | true => rfl
          | false => exact absurd (fun _ => e) hi
  obtain ⟨k, hk, h1, h2⟩ := hex
  have hg := hall k h2
  have he := endG_eq hg h1 h2
  have hgl : greedyL n xss = upto (has (greedyN n xss k)) n := by unfold greedyL; rw [he]
  rw [hgl]
  refine ⟨⟨upto_pairwise _ _, fun y hy => by have := upto_mem.1 hy; omega⟩, ?_⟩
  rw [hitsB_iff] at h1 ⊢
  intro s hs
  obtain ⟨x, hx, hxl⟩ := h1 s hs
  have := hg.2.2.2 x hxl
  exact ⟨x, hx, upto_mem.2 ⟨this.1, this.2, has_iff.2 hxl⟩⟩

theorem bound_le {xss : List (List Int)} {l : List Int} (hl : hitsB xss l = true) : ∀ k, k ≤ xss.length → (boundAt xss k).2 ≤ ((l.filter (has (boundAt xss k).1)).length : Int) := by
  intro k
  induction k with
  | zero => intro _; simp [boundAt]
  | succ k ih =>
    intro hk
    have h0 := ih (by omega)
    by_cases hc : common xss[k] (boundAt xss k).1 = true
    · rw [boundAt_yes (by omega) hc]; exact h0
    · rw [boundAt_no (by omega) (by simpa using hc)]
      obtain ⟨x, hx, hxl⟩ := hitsB_iff.1 hl xss[k] (List.getElem_mem (by omega))
      have hno : has (boundAt xss k).1 x = false := by
        cases e : has (boundAt xss k).1 x with
        | false => rfl
        | true => exact absurd (by unfold common; exact List.any_eq_true.2 ⟨x, hx, e⟩) hc
      have hs := filter_split (has ((boundAt xss k).1 ++ xss[k])) (has (boundAt xss k).1) l
      have e1 : (l.filter fun y => has ((boundAt xss k).1 ++ xss[k]) y && has (boundAt xss k).1 y) = l.filter (has (boundAt xss k).1) := by
        refine List.filter_congr (fun y _ => ?_)
        cases e : has (boundAt xss k).1 y with
        | false => simp
        | true => rw [Bool.and_true]; exact has_iff.2 (List.mem_append_left _ (has_iff.1 e))
      have hpos : 0 < (l.filter fun y => has ((boundAt xss k).1 ++ xss[k]) y && !has (boundAt xss k).1 y).length :=
        List.length_pos_of_mem (List.mem_filter.2 ⟨hxl, by rw [hno, has_iff.2 (List.mem_append_right _ hx)]; rfl⟩)
      rw [e1] at hs
      simp only
      omega
/-- what the law wants of valid sets -/
theorem hit_facts {n : Int} {xss : List (List Int)} (h : areSets n xss = true) :
    isHitting n xss (leastHit n xss).1 = (true, 0) ∧ isHitting n xss (greedyHit n xss).1 = (true, 0) ∧ isMinimalR n xss (leastHit n xss).1 = (true, 0) ∧ (disjointBound n xss).1 ≤ ((leastHit n xss).1.length : Int) ∧ (leastHit n xss).1.length ≤ (greedyHit n xss).1.length := by
  obtain ⟨a1, a2, -⟩ := areSets_mem h
  obtain ⟨m, rfl⟩ : ∃ m : Nat, n = m := ⟨n.toNat, by omega⟩
  obtain ⟨h1, h2, h3⟩ := leastL_is (all_hit h)
  obtain ⟨g1, g2⟩ := greedy_ends (OkSets.of h)
  have hm := least_minimal h
  rw [leastHit_ok h, greedyHit_ok h, disjointBound_ok h]
  rw [Int.toNat_natCast] at h1 h2 h3 hm ⊢
  have c1 : ∀ l, Rises m l → setsCode (m : Int) xss l = 0 := fun l hl => by
    unfold setsCode; rw [if_pos h, if_pos (rising_of_rises hl)]
  refine ⟨?_, ?_, ?_, ?_, ?_⟩
  · unfold isHitting; rw [if_pos (c1 _ h1), h2]
  · unfold isHitting; rw [if_pos (c1 _ g1), g2]
  · unfold isMinimalR; rw [if_pos (c1 _ h1), hm]
  · have hb := bound_le h2 xss.length (Nat.le_refl _)
    have := List.length_filter_le (has (boundAt xss xss.length).1) (leastL (hitsB xss) m)
    simp only
    omega
  · exact lessL_len (h3 _ g1 g2)
end Go.Proofs.Ytaogpbhgoeepbaa
