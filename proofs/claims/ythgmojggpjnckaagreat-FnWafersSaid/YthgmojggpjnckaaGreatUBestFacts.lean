/- Proved: a search for fewer designs finds the first ones, and none has fewer wafers than the best one (plain). -/
import Derived.Test.YthgmojggpjnckaaGreatUBestLaw
namespace Go.Proofs.YthgmojggpjnckaaGreat
open Go.ChangeShapes Go.WideShapes Go.ChangeAt Go.RowKit
set_option linter.unusedVariables false

theorem sweepS_mono {f : List Int → SS → Bool × SS} {limit : Int} (hf : ∀ k st, st.found <+: (f k st).2.found) : ∀ (L : List (List Int)) (st : SS), st.found <+: (sweepS f limit L st).2.found
  | [], st => List.prefix_rfl
  | k :: L, st => by
    by_cases e : st.tries = limit
    · rw [sweepS_over e]; exact List.prefix_rfl
    · have h1 := hf k ⟨st.tries + 1, st.over, st.found⟩
      cases e1 : (f k ⟨st.tries + 1, st.over, st.found⟩).1 with
      | true => rw [sweepS_end e e1]; exact h1
      | false => rw [sweepS_on e e1]; exact List.IsPrefix.trans h1 (sweepS_mono hf L _)
theorem fromS_mono {mk : MK} {t : List (List Int)} {limit most : Int} : ∀ (n : Nat) (cuts : List (List Int)) (st : SS), st.found <+: (fromS mk t limit most n cuts st).2.found
  | 0, cuts, st => List.prefix_append _ _
  | n + 1, cuts, st => by
    unfold fromS
    refine sweepS_mono (fun k st => ?_) _ _
    split
    · exact fromS_mono n _ st
    · exact List.prefix_rfl
/-- the first search ends where the second one goes on, or they are the same -/
def Ahead (r1 r2 : Bool × SS) : Prop := (r1 = r2 ∧ (r1.1 = false → r1.2.over = false)) ∨ (r1.1 = true ∧ r1.2.over = false ∧ r1.2.found <+: r2.2.found)
theorem sweep_ahead {f1 f2 : List Int → SS → Bool × SS} {limit : Int} (hf2 : ∀ k st, st.found <+: (f2 k st).2.found) : ∀ (L : List (List Int)) (st : SS), (∀ k st, st.over = false → Ahead (f1 k st) (f2 k st)) → st.over = false → Ahead (sweepS f1 limit L st) (sweepS f2 limit L st)
  | [], st, _, h => .inl ⟨rfl, fun _ => h⟩
  | k :: L, st, hf, h => by
    by_cases e : st.tries = limit
    · rw [sweepS_over e, sweepS_over e]; exact .inl ⟨rfl, fun q => by cases q⟩
    · rcases hf k ⟨st.tries + 1, st.over, st.found⟩ h with ⟨q, q0⟩ | ⟨q1, q2, q3⟩
      · cases e1 : (f1 k ⟨st.tries + 1, st.over, st.found⟩).1 with
        | true => rw [sweepS_end e e1, sweepS_end e (q ▸ e1), q]; exact .inl ⟨rfl, fun z => by rw [← q, e1] at z; cases z⟩
        | false =>
          rw [sweepS_on e e1, sweepS_on e (q ▸ e1), ← q]
          exact sweep_ahead hf2 L _ hf (q0 e1)
      · rw [sweepS_end e q1]
        refine .inr ⟨q1, q2, ?_⟩
        cases e1 : (f2 k ⟨st.tries + 1, st.over, st.found⟩).1 with
        | true => rw [sweepS_end e e1]; exact q3
        | false => rw [sweepS_on e e1]; exact List.IsPrefix.trans q3 (sweepS_mono hf2 L _)
theorem from_ahead {mk : MK} {t : List (List Int)} {limit m1 m2 : Int} (hm : m1 ≤ m2) : ∀ (n : Nat) (cuts : List (List Int)) (st : SS), st.over = false → Ahead (fromS mk t limit m1 n cuts st) (fromS mk t limit m2 n cuts st)
  | 0, cuts, st, h => by
    unfold fromS Ahead
    simp only
    by_cases e : m1 ≤ ((st.found.length + 1 : Nat) : Int)
    · exact .inr ⟨by simpa using e, h, List.prefix_rfl⟩
    · left
      rw [decide_eq_false e, decide_eq_false (by omega)]
      exact ⟨rfl, fun _ => h⟩
  | n + 1, cuts, st, h => by
    unfold fromS
    refine sweep_ahead (fun k st => ?_) _ _ (fun k st hs => ?_) h
    · split
      · exact fromS_mono n _ st
      · exact List.prefix_rfl
    · by_cases q : faults mk t (cuts ++ [k]) = 0
      · simp only [q, if_true]; exact from_ahead hm n _ st hs
      · simp only [q, if_false]; exact .inl ⟨rfl, fun _ => hs⟩
theorem all_ahead {mk : MK} {t : List (List Int)} {limit most : Int} (hm : most ≤ 1000000) (h : (allS mk t limit).over = false) : (searchS mk t limit most).over = false ∧ ∀ x ∈ (searchS mk t limit most).found, x ∈ (allS mk t limit).found := by
  rcases from_ahead (mk := mk) (t := t) (limit := limit) hm t.length [] ⟨0, false, []⟩ rfl with ⟨q, -⟩ | ⟨-, q2, q3⟩
  · have e : searchS mk t limit most = allS mk t limit := by unfold allS searchS; rw [q]
    rw [e]; exact ⟨h, fun x hx => hx⟩
  · exact ⟨q2, fun x hx => q3.subset hx⟩
theorem bestFold_le {f : List (List Int) → Int} : ∀ (L : List (List (List Int))) (b c : List (List Int)), L.foldl (bestStep f) (some b) = some c → f c ≤ f b ∧ ∀ x ∈ L, f c ≤ f x
  | [], b, c, h => by injection h with h; subst h; exact ⟨Int.le_refl _, fun x hx => by cases hx⟩
  | y :: L, b, c, h => by
    have h0 : L.foldl (bestStep f) (bestStep f (some b) y) = some c := h
    unfold bestStep at h0
    simp only at h0
    split at h0
    · obtain ⟨h1, h2⟩ := bestFold_le L y c h0
      refine ⟨by omega, fun x hx => ?_⟩
      rcases List.mem_cons.1 hx with q | q
      · rw [q]; exact h1
      · exact h2 x q
    · obtain ⟨h1, h2⟩ := bestFold_le L b c h0
      refine ⟨h1, fun x hx => ?_⟩
      rcases List.mem_cons.1 hx with q | q
      · rw [q]; omega
      · exact h2 x q
theorem bestL_le {f : List (List Int) → Int} {L : List (List (List Int))} {b : List (List Int)} (h : bestL f L = some b) : ∀ x ∈ L, f b ≤ f x := by
  cases L with
  | nil => intro x hx; cases hx
  | cons y L =>
    obtain ⟨h1, h2⟩ := bestFold_le L y b h
    intro x hx
    rcases List.mem_cons.1 hx with q | q
    · rw [q]; exact h1
    · exact h2 x q
end Go.Proofs.YthgmojggpjnckaaGreat
