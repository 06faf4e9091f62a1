/- Proved: fewer wafers have fewer openers, and a design has at least the least wafers (plain). -/
import Derived.Test.YthgmojggpjnckaaGreatUPkWg
import Derived.Test.YthgmojggpjnckaaGreatUPkLg
import Derived.Test.YthgmojggpjnckaaGreatUPkBx
namespace Go.Proofs.YthgmojggpjnckaaGreat
open Go.ChangeShapes Go.WideShapes Go.ChangeAt Go.RowKit
set_option linter.unusedVariables false

theorem firstIdx_spec {α : Type} {p : α → Bool} : ∀ {l : List α} (h : firstIdx p l < l.length), p l[firstIdx p l] = true ∧ ∀ j (hj : j < l.length), j < firstIdx p l → p l[j] = false
  | [], h => absurd h (by simp)
  | x :: l, h => by
    by_cases hx : p x = true
    · have e : firstIdx p (x :: l) = 0 := by simp only [firstIdx, hx, if_true]
      refine ⟨by simp only [e, List.getElem_cons_zero]; exact hx, fun j hj hl => ?_⟩
      rw [e] at hl; omega
    · have e : firstIdx p (x :: l) = firstIdx p l + 1 := by simp only [firstIdx, hx]; rfl
      have hl : firstIdx p l < l.length := by rw [e, List.length_cons] at h; omega
      obtain ⟨h1, h2⟩ := firstIdx_spec hl
      refine ⟨by simp only [e, List.getElem_cons_succ]; exact h1, fun j hj hlt => ?_⟩
      cases j with
      | zero => simpa using hx
      | succ j =>
        simp only [List.getElem_cons_succ]
        exact h2 j (by simpa using hj) (by omega)
theorem wafN_spec {c d n : Nat} (hc : 0 < c) (hd : 1 ≤ d) (h : n ≤ d ^ c) : wafN c d n ≤ c * (d - 1) ∧ n ≤ prodTo c (wafN c d n) c ∧ ∀ j, j < wafN c d n → ¬ n ≤ prodTo c j c := by
  have hle := wafN_le hc hd h
  have hlt : firstIdx (fun W => decide (n ≤ prodTo c W c)) (List.range (c * (d - 1) + 1)) < (List.range (c * (d - 1) + 1)).length := by
    have : wafN c d n < c * (d - 1) + 1 := by omega
    simpa [wafN] using this
  obtain ⟨h1, h2⟩ := firstIdx_spec hlt
  refine ⟨hle, ?_, fun j hj => ?_⟩
  · have := of_decide_eq_true h1
    simpa [wafN] using this
  · have hj2 : j < (List.range (c * (d - 1) + 1)).length := by simp; unfold wafN at hj; simp at hlt; omega
    have := of_decide_eq_false (h2 j hj2 hj)
    simpa using this
theorem wafers_facts {mk : MK} {n w : Int} (h : wafersForR mk n = (w, 0)) : ∃ a : Int, mostR mk w = (a, 0) ∧ n ≤ a ∧ 0 ≤ w ∧ w ≤ 42 ∧ (w ≠ 0 → ∃ b : Int, mostR mk (w - 1) = (b, 0) ∧ b < n) := by
  cases hm : isMaker mk with
  | false => rw [wafersForR_bad hm] at h; exact absurd (congrArg Prod.snd h) (by simp)
  | true =>
    cases hi : inB n 1 1000000000000 with
    | false => rw [wafersForR_range hm hi] at h; exact absurd (congrArg Prod.snd h) (by simp)
    | true =>
      by_cases hf : forN mk n.toNat < 0
      · rw [wafersForR_none hm hi hf] at h; exact absurd (congrArg Prod.snd h) (by simp)
      · rw [wafersForR_ok hm hi hf] at h
        have hw : forN mk n.toNat = w := congrArg Prod.fst h
        have hn := inB_iff.1 hi
        obtain ⟨hc, hd⟩ := maker_cd hm
        obtain ⟨ht0, ht1, ht2⟩ := top_le hm
        have hle : n.toNat ≤ mk.d.toNat ^ mk.c.toNat := by
          by_cases q : n.toNat ≤ mk.d.toNat ^ mk.c.toNat
          · exact q
          · exfalso; apply hf; unfold forN; rw [if_neg q]; omega
        have hw2 : w = (wafN mk.c.toNat mk.d.toNat n.toNat : Nat) := by rw [← hw]; unfold forN; rw [if_pos hle]
        obtain ⟨s1, s2, s3⟩ := wafN_spec (c := mk.c.toNat) (d := mk.d.toNat) (by omega) (by omega) hle
        generalize wafN mk.c.toNat mk.d.toNat n.toNat = W at *
        subst hw2
        refine ⟨_, mostR_ok hm (inB_iff.2 ⟨by omega, by omega⟩), by rw [Int.toNat_natCast]; omega, by omega, by omega, fun h0 => ?_⟩
        refine ⟨_, mostR_ok hm (inB_iff.2 ⟨by omega, by omega⟩), ?_⟩
        have e : ((W : Int) - 1).toNat = W - 1 := by omega
        rw [e]
        have := s3 (W - 1) (by omega)
        omega
theorem least_facts {mk : MK} {t d : List (List Int)} {l n : Int} (h : leastR mk t = (l, 0)) (hd : findD mk t 300 = ((d, n), 0)) : ∃ s : Int, sysWaf mk t d = (s, 0) ∧ l ≤ s := by
  have hdc := find_design hd
  refine ⟨sysWafers mk t d, sysWaf_ok hdc, ?_⟩
  rw [leastR_zero h]
  exact least_wafers (designCode_zero hdc) (design_faults hdc)
end Go.Proofs.YthgmojggpjnckaaGreat
