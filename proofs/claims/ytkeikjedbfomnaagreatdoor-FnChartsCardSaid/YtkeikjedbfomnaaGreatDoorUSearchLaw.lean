/- Proved: a search for designs, row by row (plain). -/
import Derived.Test.YtkeikjedbfomnaaGreatDoorUCandLaw
namespace Go.Proofs.YtkeikjedbfomnaaGreatDoor
open Go.ChangeShapes Go.WideShapes Go.ChangeAt Go.RowKit
set_option linter.unusedVariables false

/-- the state of a search -/
structure SS where
  tries : Int
  over : Bool
  found : List (List (List Int))
/-- one row: its keys in order -/
def sweepS (f : List Int → SS → Bool × SS) (limit : Int) : List (List Int) → SS → Bool × SS
  | [], st => (false, st)
  | k :: L, st => if st.tries = limit then (true, ⟨st.tries, true, st.found⟩) else
      if (f k ⟨st.tries + 1, st.over, st.found⟩).1 = true then f k ⟨st.tries + 1, st.over, st.found⟩ else sweepS f limit L (f k ⟨st.tries + 1, st.over, st.found⟩).2
def fromS (mk : MK) (t : List (List Int)) (limit most : Int) : Nat → List (List Int) → SS → Bool × SS
  | 0, cuts, st => (decide (most ≤ ((st.found.length + 1 : Nat) : Int)), ⟨st.tries, st.over, st.found ++ [cuts]⟩)
  | n + 1, cuts, st => sweepS (fun k s => if faults mk t (cuts ++ [k]) = 0 then fromS mk t limit most n (cuts ++ [k]) s else (false, s)) limit (allK mk) st
theorem sweepS_nil (f : List Int → SS → Bool × SS) (limit : Int) (st : SS) : sweepS f limit [] st = (false, st) := rfl
theorem sweepS_over {f : List Int → SS → Bool × SS} {limit : Int} {k : List Int} {L : List (List Int)} {st : SS} (h : st.tries = limit) : sweepS f limit (k :: L) st = (true, ⟨st.tries, true, st.found⟩) := by
  unfold sweepS; rw [if_pos h]
theorem sweepS_end {f : List Int → SS → Bool × SS} {limit : Int} {k : List Int} {L : List (List Int)} {st : SS} (h : st.tries ≠ limit) (h1 : (f k ⟨st.tries + 1, st.over, st.found⟩).1 = true) : sweepS f limit (k :: L) st = f k ⟨st.tries + 1, st.over, st.found⟩ := by
  unfold sweepS; rw [if_neg h, if_pos h1]
theorem sweepS_on {f : List Int → SS → Bool × SS} {limit : Int} {k : List Int} {L : List (List Int)} {st : SS} (h : st.tries ≠ limit) (h1 : (f k ⟨st.tries + 1, st.over, st.found⟩).1 = false) : sweepS f limit (k :: L) st = sweepS f limit L (f k ⟨st.tries + 1, st.over, st.found⟩).2 := by
  rw [sweepS, if_neg h, if_neg (by rw [h1]; decide)]
/-- a design that a search may find -/
structure Goods (mk : MK) (t x : List (List Int)) : Prop where
  len : x.length = t.length
  key : ∀ r ∈ x, KeyOk mk r
  open_ : faults mk t x = 0
/-- what stays true: the tries are within the limit, each list that is found is a design's -/
structure SOk (mk : MK) (t : List (List Int)) (limit : Int) (st : SS) : Prop where
  t0 : 0 ≤ st.tries
  t1 : st.tries ≤ limit
  cuts : ∀ x ∈ st.found, Goods mk t x
  many : (st.found.length : Int) ≤ st.tries
theorem sweepS_inv {P : SS → Prop} {f : List Int → SS → Bool × SS} {limit : Int} (h1 : ∀ st, P st → P ⟨st.tries, true, st.found⟩) : ∀ (L : List (List Int)) (st : SS), (∀ k ∈ L, ∀ st, P st → st.tries ≠ limit → P (f k ⟨st.tries + 1, st.over, st.found⟩).2) → P st → P (sweepS f limit L st).2
  | [], st, _, h => h
  | k :: L, st, hf, h => by
    by_cases e : st.tries = limit
    · rw [sweepS_over e]; exact h1 _ h
    · have hk := hf k (List.mem_cons_self ..) st h e
      cases e1 : (f k ⟨st.tries + 1, st.over, st.found⟩).1 with
      | true => rw [sweepS_end e e1]; exact hk
      | false => rw [sweepS_on e e1]; exact sweepS_inv h1 L _ (fun k' hk' => hf k' (List.mem_cons_of_mem _ hk')) hk
theorem fromS_ok {mk : MK} (okm : MkOk mk) {t : List (List Int)} {limit most : Int} : ∀ (n : Nat) (cuts : List (List Int)) (st : SS), cuts.length + n = t.length → (∀ r ∈ cuts, KeyOk mk r) → (n = 0 → faults mk t cuts = 0) → 0 ≤ st.tries → st.tries ≤ limit → (∀ x ∈ st.found, Goods mk t x) → (st.found.length : Int) + (if n = 0 then 1 else 0) ≤ st.tries → SOk mk t limit (fromS mk t limit most n cuts st).2
  | 0, cuts, st, hl, hk, hf, h0, h1, hg, hm => by
    rw [if_pos rfl] at hm
    refine ⟨h0, h1, fun x hx => ?_, ?_⟩
    · rcases List.mem_append.1 hx with hx | hx
      · exact hg x hx
      · rw [List.mem_singleton.1 hx]; exact ⟨hl, hk, hf rfl⟩
    · show ((st.found ++ [cuts]).length : Int) ≤ st.tries
      rw [List.length_append, List.length_singleton]; omega
  | n + 1, cuts, st, hl, hk, hf, h0, h1, hg, hm => by
    rw [if_neg (Nat.succ_ne_zero _)] at hm
    unfold fromS
    refine sweepS_inv (P := SOk mk t limit) (fun st h => ⟨h.t0, h.t1, h.cuts, h.many⟩) _ _ (fun k hk' st h e => ?_) ⟨h0, h1, hg, by omega⟩
    have hx := h.t0
    have hy := h.t1
    have hz := h.many
    by_cases hq : faults mk t (cuts ++ [k]) = 0
    · simp only [hq, if_true]
      refine fromS_ok okm n (cuts ++ [k]) ⟨st.tries + 1, st.over, st.found⟩ (by simp; omega) (fun r hr => ?_) (fun _ => hq) (by show 0 ≤ st.tries + 1; omega) (by show st.tries + 1 ≤ limit; omega) h.cuts ?_
      · rcases List.mem_append.1 hr with hr | hr
        · exact hk r hr
        · rw [List.mem_singleton.1 hr]; exact allK_key okm hk'
      · show (st.found.length : Int) + _ ≤ st.tries + 1
        split <;> omega
    · simp only [hq, if_false]
      exact ⟨by show 0 ≤ st.tries + 1; omega, by show st.tries + 1 ≤ limit; omega, h.cuts, by show (st.found.length : Int) ≤ st.tries + 1; omega⟩
end Go.Proofs.YtkeikjedbfomnaaGreatDoor
