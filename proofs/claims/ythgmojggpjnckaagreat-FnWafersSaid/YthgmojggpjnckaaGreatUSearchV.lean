/- Proved: the program's search visits what the reference's finds (plain). -/
import Derived.Test.YthgmojggpjnckaaGreatUPkF2
import Derived.Test.YthgmojggpjnckaaGreatUPkF1
namespace Go.Proofs.YthgmojggpjnckaaGreat
open Go.ChangeShapes Go.WideShapes Go.ChangeAt Go.RowKit
set_option linter.unusedVariables false

theorem keysAt_part {t cuts : List (List Int)} {key : List Int} {d n : Nat} (hc : n ≤ cuts.length) : keysAt t (cuts ++ [key]) d n = keysAt t cuts d n := by
  unfold keysAt
  apply List.map_congr_left
  intro k hk
  have := rowsAt_lt hk
  exact getD_front (by omega)
/-- partial cuts stay open with one more key just when the program says so -/
theorem stays_part {mk : MK} {t cuts : List (List Int)} {key : List Int} (h : PartOk mk t cuts) (hlt : cuts.length < t.length) (hf : faults mk t cuts = 0) (hk : KeyOk mk key) :
    decide (faults mk t (cuts ++ [key]) = 0) = stays mk t cuts key := by
  apply Bool.eq_iff_iff.2
  rw [decide_eq_true_iff, faults_zero, stays_iff]
  rw [faults_zero] at hf
  have hL : ∀ d, d < doorsOf t → (locks mk t (cuts ++ [key])).getD d [] = hull mk (keysAt t cuts d cuts.length ++ if (t.getD cuts.length []).getD d 0 == 1 then [key] else []) := by
    intro d hd
    rw [lock_at hd, List.length_append]
    show hull mk (keysAt t (cuts ++ [key]) d (cuts.length + 1)) = _
    rw [keysAt_succ, keysAt_part (Nat.le_refl _), getD_last]
  have hL0 : ∀ d, d < doorsOf t → (locks mk t cuts).getD d [] = hull mk (keysAt t cuts d cuts.length) := fun d hd => lock_at hd
  have hnew : ∀ d, d < doorsOf t → faultAt mk t (cuts ++ [key]) cuts.length d = newBad mk t cuts key d := by
    intro d hd
    unfold faultAt newBad
    rw [getD_last, hL d hd, hL0 d hd]
    by_cases hx : (t.getD cuts.length []).getD d 0 = 0
    · rw [hx]; simp
    · have : ((t.getD cuts.length []).getD d 0 == 0) = false := by simpa using hx
      rw [this, Bool.false_and, Bool.false_and]
  have hold : ∀ k, k < cuts.length → ∀ d, d < doorsOf t → faultAt mk t (cuts ++ [key]) k d = oldBad mk t cuts key d k := by
    intro k hkl d hd
    have hko : KeyOk mk (cuts.getD k []) := by
      have e : cuts.getD k [] = cuts[k] := by simp [hkl]
      rw [e]; exact h.key _ (List.getElem_mem hkl)
    have hfk := hf k hkl d hd
    unfold faultAt at hfk
    unfold faultAt oldBad
    rw [getD_front hkl, hL d hd, hL0 d hd]
    by_cases hx : (t.getD cuts.length []).getD d 0 = 1
    · have : ((t.getD cuts.length []).getD d 0 == 1) = true := by simpa using hx
      rw [this, if_pos rfl, opens_more hko hk, Bool.true_and]
    · have : ((t.getD cuts.length []).getD d 0 == 1) = false := by simpa using hx
      rw [this, if_neg (by decide), List.append_nil, Bool.false_and]
      rw [lock_at hd] at hfk
      exact hfk
  have hlen : (cuts ++ [key]).length = cuts.length + 1 := by simp
  rw [hlen]
  constructor
  · intro H d hd
    refine ⟨by rw [← hnew d hd]; exact H _ (by omega) d hd, fun k hkl => by rw [← hold k hkl d hd]; exact H k (by omega) d hd⟩
  · intro H k hkl d hd
    by_cases e : k = cuts.length
    · rw [e, hnew d hd]; exact (H d hd).1
    · rw [hold k (by omega) d hd]; exact (H d hd).2 k (by omega)

/-- the state of the program's search -/
structure GS (σ : Type) where
  tries : Int
  over : Bool
  val : σ
section
variable {σ : Type}
def sweepV (f : List Int → GS σ → Bool × GS σ) (limit : Int) : List (List Int) → GS σ → Bool × GS σ
  | [], s => (true, s)
  | k :: L, s => if s.tries = limit then (false, ⟨s.tries, true, s.val⟩) else
      if (f k ⟨s.tries + 1, s.over, s.val⟩).1 = true then sweepV f limit L (f k ⟨s.tries + 1, s.over, s.val⟩).2 else f k ⟨s.tries + 1, s.over, s.val⟩
def goV (mk : MK) (t : List (List Int)) (limit : Int) (step : σ → List (List Int) → σ) (more : σ → List (List Int) → Bool) : Nat → List (List Int) → GS σ → Bool × GS σ
  | 0, cuts, s => (more s.val cuts, ⟨s.tries, s.over, step s.val cuts⟩)
  | n + 1, cuts, s => sweepV (fun k s => if stays mk t cuts k = true then goV mk t limit step more n (cuts ++ [k]) s else (true, s)) limit (allK mk) s
/-- the two searches go hand in hand -/
structure Sim (step : σ → List (List Int) → σ) (v0 : σ) (st : SS) (s : GS σ) : Prop where
  tries : s.tries = st.tries
  over : s.over = st.over
  val : s.val = st.found.foldl step v0
theorem sweep_sim {step : σ → List (List Int) → σ} {v0 : σ} {P : SS → Prop} {f : List Int → SS → Bool × SS} {f' : List Int → GS σ → Bool × GS σ} {limit : Int} (hP : ∀ st, P st → P ⟨st.tries, true, st.found⟩) : ∀ (L : List (List Int)) (st : SS) (s : GS σ),
    (∀ k ∈ L, ∀ st s, P st → st.tries ≠ limit → Sim step v0 st s → P (f k ⟨st.tries + 1, st.over, st.found⟩).2 ∧ Sim step v0 (f k ⟨st.tries + 1, st.over, st.found⟩).2 (f' k ⟨s.tries + 1, s.over, s.val⟩).2 ∧ (f' k ⟨s.tries + 1, s.over, s.val⟩).1 = !(f k ⟨st.tries + 1, st.over, st.found⟩).1) →
    P st → Sim step v0 st s → Sim step v0 (sweepS f limit L st).2 (sweepV f' limit L s).2 ∧ (sweepV f' limit L s).1 = !(sweepS f limit L st).1
  | [], st, s, _, _, h => ⟨h, rfl⟩
  | k :: L, st, s, hf, hp, h => by
    have ht := h.tries
    by_cases e : st.tries = limit
    · rw [sweepS_over e]
      unfold sweepV
      rw [if_pos (by omega)]
      exact ⟨⟨ht, rfl, h.val⟩, rfl⟩
    · obtain ⟨q1, q2, q3⟩ := hf k (List.mem_cons_self ..) st s hp e h
      cases e1 : (f k ⟨st.tries + 1, st.over, st.found⟩).1 with
      | true =>
        rw [e1] at q3
        rw [sweepS_end e e1]
        unfold sweepV
        rw [if_neg (by omega), if_neg (by rw [q3]; decide)]
        exact ⟨q2, by rw [q3, e1]⟩
      | false =>
        rw [e1] at q3
        rw [sweepS_on e e1]
        unfold sweepV
        rw [if_neg (by omega), if_pos (by rw [q3]; rfl)]
        exact sweep_sim hP L _ _ (fun k' hk' => hf k' (List.mem_cons_of_mem _ hk')) q1 q2
theorem go_sim {mk : MK} (okm : MkOk mk) {t : List (List Int)} (ok : SysOk mk t) {limit most : Int} {step : σ → List (List Int) → σ} {more : σ → List (List Int) → Bool} {v0 : σ} (hm : ∀ (fs : List (List (List Int))) (x : List (List Int)), (fs.length : Int) < limit → more (fs.foldl step v0) x = !decide (most ≤ ((fs.length + 1 : Nat) : Int))) :
    ∀ (n : Nat) (cuts : List (List Int)) (st : SS) (s : GS σ), cuts.length + n = t.length → (∀ r ∈ cuts, KeyOk mk r) → faults mk t cuts = 0 → 0 ≤ st.tries → st.tries ≤ limit → (∀ x ∈ st.found, Goods mk t x) → (st.found.length : Int) + (if n = 0 then 1 else 0) ≤ st.tries → Sim step v0 st s →
    Sim step v0 (fromS mk t limit most n cuts st).2 (goV mk t limit step more n cuts s).2 ∧ (goV mk t limit step more n cuts s).1 = !(fromS mk t limit most n cuts st).1
  | 0, cuts, st, s, hl, hk, hf, h0, h1, hg, hn, h => by
    rw [if_pos rfl] at hn
    unfold fromS goV
    refine ⟨⟨h.tries, h.over, ?_⟩, ?_⟩
    · simp only [List.foldl_append, List.foldl_cons, List.foldl_nil]
      rw [← h.val]
    · simp only
      rw [h.val, hm _ _ (by omega)]
  | n + 1, cuts, st, s, hl, hk, hf, h0, h1, hg, hn, h => by
    rw [if_neg (Nat.succ_ne_zero _)] at hn
    have hp : PartOk mk t cuts := ⟨ok, by omega, hk⟩
    unfold fromS goV
    refine sweep_sim (P := SOk mk t limit) (fun st h => ⟨h.t0, h.t1, h.cuts, h.many⟩) _ _ _ (fun k hk' st s h e hs => ?_) ⟨h0, h1, hg, by omega⟩ h
    have hko := allK_key okm hk'
    have hx := h.t0
    have hy := h.t1
    have hz := h.many
    have hsl := stays_part hp (by omega) hf hko
    have hkk : ∀ r ∈ cuts ++ [k], KeyOk mk r := fun r hr => by
      rcases List.mem_append.1 hr with hr | hr
      · exact hk r hr
      · rw [List.mem_singleton.1 hr]; exact hko
    by_cases hq : faults mk t (cuts ++ [k]) = 0
    · rw [decide_eq_true hq] at hsl
      simp only [hq, ← hsl, if_true]
      have hb : (st.found.length : Int) + (if n = 0 then 1 else 0) ≤ st.tries + 1 := by split <;> omega
      refine ⟨fromS_ok okm n (cuts ++ [k]) ⟨st.tries + 1, st.over, st.found⟩ (by simp; omega) hkk (fun _ => hq) (by show 0 ≤ st.tries + 1; omega) (by show st.tries + 1 ≤ limit; omega) h.cuts hb, ?_⟩
      exact go_sim okm ok hm n (cuts ++ [k]) ⟨st.tries + 1, st.over, st.found⟩ ⟨s.tries + 1, s.over, s.val⟩ (by simp; omega) hkk hq (by show 0 ≤ st.tries + 1; omega) (by show st.tries + 1 ≤ limit; omega) h.cuts hb ⟨by show s.tries + 1 = st.tries + 1; rw [hs.tries], hs.over, hs.val⟩
    · rw [decide_eq_false hq] at hsl
      simp only [hq, ← hsl, if_false, Bool.false_eq_true]
      exact ⟨⟨by show 0 ≤ st.tries + 1; omega, by show st.tries + 1 ≤ limit; omega, h.cuts, by show (st.found.length : Int) ≤ st.tries + 1; omega⟩, ⟨by show s.tries + 1 = st.tries + 1; rw [hs.tries], hs.over, hs.val⟩, rfl⟩

/-- one row of the program's search as a visit of keys -/
def stepE (f : List Int → GS σ → Bool × GS σ) (limit : Int) (p : GS σ × Bool) (k : List Int) : GS σ × Bool :=
  if p.1.tries = limit then (⟨p.1.tries, true, p.1.val⟩, false) else ((f k ⟨p.1.tries + 1, p.1.over, p.1.val⟩).2, (f k ⟨p.1.tries + 1, p.1.over, p.1.val⟩).1)
def moreE (f : List Int → GS σ → Bool × GS σ) (limit : Int) (p : GS σ × Bool) (k : List Int) : Bool := (stepE f limit p k).2
theorem visits_sweep (f : List Int → GS σ → Bool × GS σ) (limit : Int) : ∀ (L : List (List Int)) (s : GS σ), (visits (stepE f limit) (moreE f limit) (s, true) L).1 = ((sweepV f limit L s).2, (sweepV f limit L s).1)
  | [], s => rfl
  | k :: L, s => by
    have e1 : visits (stepE f limit) (moreE f limit) (s, true) (k :: L) = if moreE f limit (s, true) k = true then visits (stepE f limit) (moreE f limit) (stepE f limit (s, true) k) L else (stepE f limit (s, true) k, false) := rfl
    rw [e1]
    unfold sweepV
    by_cases e : s.tries = limit
    · have h1 : stepE f limit (s, true) k = (⟨s.tries, true, s.val⟩, false) := by unfold stepE; simp only [e, if_true]
      rw [if_pos e, show moreE f limit (s, true) k = false by unfold moreE; rw [h1], if_neg (by decide), h1]
    · have h1 : stepE f limit (s, true) k = ((f k ⟨s.tries + 1, s.over, s.val⟩).2, (f k ⟨s.tries + 1, s.over, s.val⟩).1) := by unfold stepE; simp only [e, if_false]
      rw [if_neg e, show moreE f limit (s, true) k = (f k ⟨s.tries + 1, s.over, s.val⟩).1 by unfold moreE; rw [h1], h1]
      cases e2 : (f k ⟨s.tries + 1, s.over, s.val⟩).1 with
      | true => simp only [if_true]; exact visits_sweep f limit L _
      | false => simp only [Bool.false_eq_true, if_false]; rw [e2]
/-- the same where a key that is turned down leaves the flag as it is -/
def stepG (st : List Int → Bool) (f : List Int → GS σ → Bool × GS σ) (limit : Int) (p : GS σ × Bool) (k : List Int) : GS σ × Bool :=
  if p.1.tries = limit then (⟨p.1.tries, true, p.1.val⟩, false) else if st k = true then ((f k ⟨p.1.tries + 1, p.1.over, p.1.val⟩).2, (f k ⟨p.1.tries + 1, p.1.over, p.1.val⟩).1) else (⟨p.1.tries + 1, p.1.over, p.1.val⟩, p.2)
def moreG (st : List Int → Bool) (f : List Int → GS σ → Bool × GS σ) (limit : Int) (p : GS σ × Bool) (k : List Int) : Bool := (stepG st f limit p k).2
theorem stepG_over {st : List Int → Bool} {f : List Int → GS σ → Bool × GS σ} {limit : Int} {p : GS σ × Bool} {k : List Int} (h : p.1.tries = limit) : stepG st f limit p k = (⟨p.1.tries, true, p.1.val⟩, false) := by unfold stepG; rw [if_pos h]
theorem stepG_no {st : List Int → Bool} {f : List Int → GS σ → Bool × GS σ} {limit : Int} {p : GS σ × Bool} {k : List Int} (h : p.1.tries ≠ limit) (h2 : st k = false) : stepG st f limit p k = (⟨p.1.tries + 1, p.1.over, p.1.val⟩, p.2) := by unfold stepG; rw [if_neg h, if_neg (by rw [h2]; decide)]
theorem stepG_yes {st : List Int → Bool} {f : List Int → GS σ → Bool × GS σ} {limit : Int} {p : GS σ × Bool} {k : List Int} (h : p.1.tries ≠ limit) (h2 : st k = true) : stepG st f limit p k = ((f k ⟨p.1.tries + 1, p.1.over, p.1.val⟩).2, (f k ⟨p.1.tries + 1, p.1.over, p.1.val⟩).1) := by unfold stepG; rw [if_neg h, if_pos h2]
theorem visits_sweepG (st : List Int → Bool) (f : List Int → GS σ → Bool × GS σ) (limit : Int) : ∀ (L : List (List Int)) (s : GS σ), (visits (stepG st f limit) (moreG st f limit) (s, true) L).1 = ((sweepV (fun k s => if st k = true then f k s else (true, s)) limit L s).2, (sweepV (fun k s => if st k = true then f k s else (true, s)) limit L s).1)
  | [], s => rfl
  | k :: L, s => by
    have e1 : visits (stepG st f limit) (moreG st f limit) (s, true) (k :: L) = if moreG st f limit (s, true) k = true then visits (stepG st f limit) (moreG st f limit) (stepG st f limit (s, true) k) L else (stepG st f limit (s, true) k, false) := rfl
    rw [e1]
    unfold sweepV
    by_cases e : s.tries = limit
    · have h1 : stepG st f limit (s, true) k = (⟨s.tries, true, s.val⟩, false) := stepG_over (p := (s, true)) e
      rw [if_pos e, show moreG st f limit (s, true) k = false by unfold moreG; rw [h1], if_neg (by decide), h1]
    · rw [if_neg e]
      cases hs : st k with
      | false =>
        have h1 : stepG st f limit (s, true) k = (⟨s.tries + 1, s.over, s.val⟩, true) := stepG_no (p := (s, true)) e hs
        rw [show moreG st f limit (s, true) k = true by unfold moreG; rw [h1], if_pos rfl, h1]
        simp only [Bool.false_eq_true, if_false, if_true]
        exact visits_sweepG st f limit L _
      | true =>
        have h1 : stepG st f limit (s, true) k = ((f k ⟨s.tries + 1, s.over, s.val⟩).2, (f k ⟨s.tries + 1, s.over, s.val⟩).1) := stepG_yes (p := (s, true)) e hs
        rw [show moreG st f limit (s, true) k = (f k ⟨s.tries + 1, s.over, s.val⟩).1 by unfold moreG; rw [h1], h1]
        simp only [if_true]
        cases e2 : (f k ⟨s.tries + 1, s.over, s.val⟩).1 with
        | true => simp only [if_true]; exact visits_sweepG st f limit L _
        | false => simp only [Bool.false_eq_true, if_false]; rw [e2]
end
end Go.Proofs.YthgmojggpjnckaaGreat
