/- Proved: the greedy choice, as a function. -/
import Derived.Test.YtaogpbhgoeepbaaUSetsFacts
import Derived.Test.YtaogpbhgoeepbaaULeastLaw
namespace Go.Proofs.Ytaogpbhgoeepbaa
open Go.ChangeShapes Go.WideShapes Go.ChangeAt Go.RowKit
set_option linter.unusedVariables false

/-- how many sets that are not hit hold x -/
def cntL (xss : List (List Int)) (c : List Int) (x : Int) : Nat := (xss.filter fun s => !common s c && has s x).length
def unhit (xss : List (List Int)) (c : List Int) : Nat := (xss.filter fun s => !common s c).length
/-- the first place of the greatest value -/
def pickL (f : Nat → Nat) (n : Nat) : Nat := ((List.range n).find? fun k => (List.range n).all fun j => decide (f j ≤ f k)).getD 0
theorem pick_eq {f : Nat → Nat} {n k : Nat} (hk : k < n) (h1 : ∀ j, j < n → f j ≤ f k) (h2 : ∀ j, j < k → f j < f k) : pickL f n = k := by
  unfold pickL
  have : (List.range n).find? (fun k => (List.range n).all fun j => decide (f j ≤ f k)) = some k := by
    rw [List.find?_range_eq_some]
    refine ⟨by simpa using h1, by simpa using hk, fun j hj => ?_⟩
    simp only [Bool.not_eq_true', List.all_eq_false, List.mem_range, decide_eq_true_eq]
    exact ⟨k, hk, by have := h2 j hj; omega⟩
  rw [this]; rfl
theorem pick_ex (f : Nat → Nat) : ∀ n, 0 < n → ∃ k, k < n ∧ (∀ j, j < n → f j ≤ f k) ∧ ∀ j, j < k → f j < f k
  | 0, h => by omega
  | 1, _ => ⟨0, by omega, fun j hj => by have : j = 0 := by omega
                                         rw [this]; exact Nat.le_refl _, fun j hj => by omega⟩
  | n+2, _ => by
    obtain ⟨k, h1, h2, h3⟩ := pick_ex f (n+1) (by omega)
    by_cases h : f k < f (n+1)
    · refine ⟨n+1, by omega, fun j hj => ?_, fun j hj => ?_⟩
      · by_cases e : j = n+1
        · rw [e]; exact Nat.le_refl _
        · have := h2 j (by omega); omega
      · have := h2 j (by omega); omega
    · refine ⟨k, by omega, fun j hj => ?_, h3⟩
      by_cases e : j = n+1
      · rw [e]; omega
      · exact h2 j (by omega)
theorem pick_is (f : Nat → Nat) {n : Nat} (h : 0 < n) : pickL f n < n ∧ (∀ j, j < n → f j ≤ f (pickL f n)) ∧ ∀ j, j < pickL f n → f j < f (pickL f n) := by
  obtain ⟨k, h1, h2, h3⟩ := pick_ex f n h
  rw [pick_eq h1 h2 h3]; exact ⟨h1, h2, h3⟩

theorem common_app (s c : List Int) (x : Int) : common s (c ++ [x]) = (common s c || has s x) := by
  rw [Bool.eq_iff_iff]
  simp only [common, has, List.any_eq_true, Bool.or_eq_true, List.mem_append, List.mem_singleton, beq_iff_eq]
  constructor
  · rintro ⟨y, hy, z, hz | hz, rfl⟩
    · exact .inl ⟨z, hy, z, hz, rfl⟩
    · exact .inr ⟨z, hy, hz⟩
  · rintro (⟨y, hy, z, hz, e⟩ | ⟨y, hy, rfl⟩)
    · exact ⟨y, hy, z, .inl hz, e⟩
    · exact ⟨y, hy, y, .inr rfl, rfl⟩
theorem filter_split {α : Type} (p q : α → Bool) : ∀ l : List α, (l.filter p).length = (l.filter fun x => p x && q x).length + (l.filter fun x => p x && !q x).length
  | [] => rfl
  | a :: l => by
    have := filter_split p q l
    cases hp : p a <;> cases hq : q a <;> simp [hp, hq] <;> omega
theorem unhit_app (xss : List (List Int)) (c : List Int) (x : Int) : unhit xss c = cntL xss c x + unhit xss (c ++ [x]) := by
  unfold unhit cntL
  rw [filter_split (fun s => !common s c) (fun s => has s x)]
  congr 2
  refine List.filter_congr (fun s _ => ?_)
  rw [common_app]; cases common s c <;> cases has s x <;> rfl

def pickX (n : Nat) (xss : List (List Int)) (c : List Int) : Nat := pickL (fun j => cntL xss c (j : Int)) n
/-- what is chosen behind k rounds -/
def greedyN (n : Nat) (xss : List (List Int)) : Nat → List Int
  | 0 => []
  | k+1 => greedyN n xss k ++ [(pickX n xss (greedyN n xss k) : Int)]
/-- what is known of it -/
def GoodG (n : Nat) (xss : List (List Int)) (k : Nat) (c : List Int) : Prop := c.length = k ∧ unhit xss c + k ≤ 60 ∧ c.Nodup ∧ ∀ x ∈ c, 0 ≤ x ∧ x < n
def OkSets (n : Nat) (xss : List (List Int)) : Prop := 1 ≤ n ∧ n ≤ 12 ∧ xss.length ≤ 60 ∧ ∀ s ∈ xss, s ≠ [] ∧ rising s n = true ∧ s.length ≤ 12
theorem OkSets.of {n : Nat} {xss : List (List Int)} (h : areSets n xss = true) : OkSets n xss := by
  obtain ⟨h1, h2, h3, h4⟩ := areSets_mem h
  exact ⟨by omega, by omega, h3, h4⟩
theorem goodG_zero {n : Nat} {xss : List (List Int)} (h : OkSets n xss) : GoodG n xss 0 [] :=
  ⟨rfl, by have := List.length_filter_le (fun s => !common s []) xss; have := h.2.2.1; unfold unhit; omega, List.nodup_nil, fun _ h => by cases h⟩
theorem pick_new {n : Nat} {xss : List (List Int)} (h : OkSets n xss) {c : List Int} (hh : hitsB xss c = false) : pickX n xss c < n ∧ 0 < cntL xss c (pickX n xss c) ∧ (pickX n xss c : Int) ∉ c := by
  obtain ⟨h1, h2, h3, h4⟩ := h
  obtain ⟨p1, p2, -⟩ := pick_is (fun j => cntL xss c (j : Int)) (n := n) (by omega)
  have hpos : 0 < cntL xss c (pickX n xss c) := by
    unfold hitsB at hh
    obtain ⟨s, hs, hc⟩ := List.all_eq_false.1 hh
    have hc' : common s c = false := by simpa using hc
    obtain ⟨g1, g2, -⟩ := h4 s hs
    obtain ⟨x, hx⟩ := List.exists_mem_of_ne_nil s g1
    obtain ⟨i, hi, hxi⟩ := List.getElem_of_mem hx
    obtain ⟨r1, r2⟩ := rising_ge g2 i hi
    have e : s.getD i 0 = x := by rw [← hxi]; simp [hi]
    rw [e] at r1 r2
    obtain ⟨m, rfl⟩ : ∃ m : Nat, x = m := ⟨x.toNat, by omega⟩
    have hm : 0 < cntL xss c (m : Int) := by
      unfold cntL
      refine List.length_pos_of_mem (a := s) (List.mem_filter.2 ⟨hs, ?_⟩)
      rw [hc', has_iff.2 hx]; rfl
    exact Nat.lt_of_lt_of_le hm (p2 m (by omega))
  refine ⟨p1, hpos, fun hin => ?_⟩
  unfold cntL at hpos
  obtain ⟨s, hs⟩ := List.exists_mem_of_length_pos hpos
  obtain ⟨-, hs⟩ := List.mem_filter.1 hs
  simp only [Bool.and_eq_true, Bool.not_eq_true'] at hs
  have : common s c = true := by
    unfold common
    exact List.any_eq_true.2 ⟨_, has_iff.1 hs.2, has_iff.2 hin⟩
  rw [this] at hs; exact absurd hs.1 (by simp)
theorem goodG_succ {n : Nat} {xss : List (List Int)} (h : OkSets n xss) {k : Nat} {c : List Int} (hg : GoodG n xss k c) (hh : hitsB xss c = false) : GoodG n xss (k+1) (c ++ [(pickX n xss c : Int)]) := by
  obtain ⟨g1, g2, g3, g4⟩ := hg
  obtain ⟨p1, p2, p3⟩ := pick_new h hh
  have := unhit_app xss c (pickX n xss c : Int)
  refine ⟨by simp [g1], by omega, ?_, fun x hx => ?_⟩
  · rw [List.nodup_append]
    refine ⟨g3, by simp, fun a ha b hb e => ?_⟩
    obtain rfl := List.mem_singleton.1 hb
    exact p3 (e ▸ ha)
  · rcases List.mem_append.1 hx with hx | hx
    · exact g4 x hx
    · obtain rfl := List.mem_singleton.1 hx
      omega
/-- the last round -/
def endG (n : Nat) (xss : List (List Int)) : Nat := ((List.range 61).find? fun k => hitsB xss (greedyN n xss k)).getD 0
theorem endG_eq {n : Nat} {xss : List (List Int)} {k : Nat} (hg : GoodG n xss k (greedyN n xss k)) (hh : hitsB xss (greedyN n xss k) = true) (hno : ∀ j, j < k → hitsB xss (greedyN n xss j) = false) : endG n xss = k := by
  unfold endG
  have : (List.range 61).find? (fun k => hitsB xss (greedyN n xss k)) = some k := by
    rw [List.find?_range_eq_some]
    exact ⟨hh, by have := hg.2.1; simp; omega, fun j hj => by simpa using hno j hj⟩
  rw [this]; rfl
/-- the chosen, ascending -/
def greedyL (n : Nat) (xss : List (List Int)) : List Int := upto (has (greedyN n xss (endG n xss))) n
/-- a strictly ascending list is known by its elements -/
theorem sorted_ext : ∀ {a b : List Int}, a.Pairwise (· < ·) → b.Pairwise (· < ·) → (∀ x, x ∈ a ↔ x ∈ b) → a = b
  | [], [], _, _, _ => rfl
  | [], y :: b, _, _, h => absurd ((h y).2 (by simp)) (by simp)
  | x :: a, [], _, _, h => absurd ((h x).1 (by simp)) (by simp)
  | x :: a, y :: b, ha, hb, h => by
    obtain ⟨a1, a2⟩ := List.pairwise_cons.1 ha
    obtain ⟨b1, b2⟩ := List.pairwise_cons.1 hb
    have hxy : x = y := by
      rcases List.mem_cons.1 ((h x).1 (by simp)) with e | e
      · exact e
      · rcases List.mem_cons.1 ((h y).2 (by simp)) with e' | e'
        · exact e'.symm
        · have := a1 y e'; have := b1 x e; omega
    subst hxy
    rw [sorted_ext a2 b2]
    intro z
    have hz := h z
    simp only [List.mem_cons] at hz
    constructor
    · intro hm
      rcases hz.1 (.inr hm) with e | e
      · subst e; exact absurd (a1 z hm) (by omega)
      · exact e
    · intro hm
      rcases hz.2 (.inr hm) with e | e
      · subst e; exact absurd (b1 z hm) (by omega)
      · exact e
theorem sort_upto {n : Nat} {c : List Int} (hn : c.Nodup) (hr : ∀ x ∈ c, 0 ≤ x ∧ x < n) : (c.mergeSort fun x y => decide (x ≤ y)) = upto (has c) n := by
  have hp := List.mergeSort_perm c (fun x y => decide (x ≤ y))
  refine sorted_ext ?_ (upto_pairwise _ _) (fun x => ?_)
  · have h1 : (c.mergeSort fun x y => decide (x ≤ y)).Pairwise (fun x y => decide (x ≤ y) = true) := List.pairwise_mergeSort (by intro a b c; simp; omega) (by intro a b; simp; omega) c
    have h2 : (c.mergeSort fun x y => decide (x ≤ y)).Pairwise (· ≠ ·) := (hp.nodup_iff).2 hn
    refine (h1.and h2).imp ?_
    rintro a b ⟨e1, e2⟩
    have := of_decide_eq_true e1
    omega
  · rw [hp.mem_iff, upto_mem, has_iff]
    constructor
    · intro hx; exact ⟨(hr x hx).1, (hr x hx).2, hx⟩
    · rintro ⟨_, _, hx⟩; exact hx
def greedyHit (n : Int) (xss : List (List Int)) : List Int × Int := if areSets n xss = true then (greedyL n.toNat xss, 0) else ([], 1)
theorem greedyHit_ok {n : Int} {xss : List (List Int)} (h : areSets n xss = true) : greedyHit n xss = (greedyL n.toNat xss, 0) := by unfold greedyHit; rw [if_pos h]
theorem greedyHit_no {n : Int} {xss : List (List Int)} (h : areSets n xss = false) : greedyHit n xss = ([], 1) := by unfold greedyHit; rw [if_neg (by simp [h])]
theorem greedyHit_length (n : Int) (xss : List (List Int)) : ((greedyHit n xss).1.length : Int) ≤ 1048576 := by
  unfold greedyHit
  split
  · next h =>
    have := upto_length (has (greedyN n.toNat xss (endG n.toNat xss))) n.toNat
    have := (areSets_mem h).2.1
    simp only [greedyL]; omega
  · simp
end Go.Proofs.Ytaogpbhgoeepbaa
