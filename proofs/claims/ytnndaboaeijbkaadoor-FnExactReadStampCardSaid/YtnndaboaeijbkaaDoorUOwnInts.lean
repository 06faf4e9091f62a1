/- Proved: a list of integers that lies in a row of its own. -/
import Derived.Test.YtnndaboaeijbkaaDoorUOwnRows
namespace Go.Proofs.YtnndaboaeijbkaaDoor
open Go.ChangeShapes Go.WideShapes Go.ChangeAt Go.RowKit
set_option linter.unusedVariables false

/-- a list that lies in a row of its own, inside the zone -/
def IntsO : Repr (List Int) := fun z w v xs => (∀ x ∈ xs, I64 x) ∧ OwnP (Value.int .i64) 2 0 w v xs ∧ ∀ k, v.ownBlock = some k → z.Has k
theorem OwnP.raise {α : Type} {f : α → Value} {e : TypeId} {B B' : Nat} {w : World} {v : Value} {xs : List α} (h : OwnP f e B w v xs) (hB : ∀ k, v.ownBlock = some k → B' ≤ k) : OwnP f e B' w v xs := by
  obtain ⟨h1, h2⟩ := h
  refine ⟨h1, ?_⟩
  rcases h2 with h2 | ⟨g, cap, cur, hv, hb, r⟩
  · exact .inl h2
  · exact .inr ⟨g, cap, cur, hv, hB g (by rw [hv]; rfl), r⟩
theorem stable_into : Stable IntsO := by
  constructor
  · rintro z w w' v xs ⟨hm, ⟨h1, h2⟩, hz⟩ hs
    refine ⟨hm, ⟨h1, ?_⟩, hz⟩
    rcases h2 with h2 | ⟨g, cap, cur, hv, hb, hg, r⟩
    · exact .inl h2
    · exact .inr ⟨g, cap, cur, hv, hb, by rw [hs g (hz g (by rw [hv]; rfl)) (Array.getElem?_eq_some_iff.1 hg).1]; exact hg, r⟩
  · rintro y z w v xs ⟨hm, ho, hz⟩ hs
    exact ⟨hm, ho, fun k hk => hs.1 k (hz k hk)⟩
theorem IntsO.own {z : Zone} {w : World} {v : Value} {xs : List Int} (h : IntsO z w v xs) : OwnP (Value.int .i64) 2 z.lo w v xs := h.2.1.raise (fun k hk => (h.2.2 k hk).1)
theorem IntsO.ints {z : Zone} {w : World} {v : Value} {xs : List Int} (h : IntsO z w v xs) : IntsR z w v xs := by
  obtain ⟨hm, ⟨h1, h2⟩, hz⟩ := h
  rcases h2 with ⟨rfl, h0⟩ | ⟨g, cap, cur, rfl, hb, hg, hnc, hcm, hcs, htake⟩
  · obtain rfl : xs = [] := List.eq_nil_of_length_eq_zero h0
    exact SliceR.nil _ _ _
  · have hgl : g < w.heap.size := (Array.getElem?_eq_some_iff.1 hg).1
    refine ⟨some ⟨g, 0, none⟩, cap, rfl, hnc, hcm, (fun h => by cases h), fun ad had _ => ?_⟩
    cases had
    refine ⟨rfl, hz g rfl, hgl, fun _ i _ => frozen_of_row w g _ cur _ hg, fun _ => ⟨0, 0, true⟩, fun i _ => ⟨fun k hk => absurd hk.2 (Nat.not_lt_zero _), fun _ => rfl⟩, fun _ => ⟨fun i _ hk => absurd hk.2 (Nat.not_lt_zero _), fun i j _ _ k hk => absurd hk.2 (Nat.not_lt_zero _)⟩, fun i hi' => ?_⟩
    refine ⟨.int .i64 xs[i], ?_, rfl, hm _ (List.getElem_mem _)⟩
    show w.cell? ⟨g, 0 + i, none⟩ = _
    rw [Nat.zero_add, cell_of_row w g i cur _ (0, 0) hg]
    have : (cur.toList.take (xs.length * 1))[i]? = (xs.map (Value.int .i64))[i]? := by rw [htake]
    rw [List.getElem?_take, if_pos (by omega)] at this
    simpa [hi'] using this
theorem OwnP.into {B : Nat} {w : World} {v : Value} {xs : List Int} (h : OwnP (Value.int .i64) 2 B w v xs) (hm : ∀ x ∈ xs, I64 x) {lo hi : Nat} {q : Bool} (hlo : lo ≤ B) (hhi : w.heap.size ≤ hi) : IntsO ⟨lo, hi, q⟩ w v xs :=
  ⟨hm, h.raise (fun k _ => Nat.zero_le k), fun k hk => ⟨Nat.le_trans hlo (h.block k hk).1, Nat.lt_of_lt_of_le (h.block k hk).2 hhi⟩⟩
theorem slRepr_into : SlRepr IntsO := by
  rintro z w u x ⟨_, ho, _⟩
  obtain ⟨a, n, cap, rfl, -⟩ := ho.shape
  exact ⟨(a, n, cap), rfl⟩
abbrev RowsO : Repr (List (List Int)) := SliceR IntsO
theorem stable_rowso : Stable RowsO := stable_slice stable_into
theorem IntsO.nil (z : Zone) (w : World) : IntsO z w (.slice none 0 0) [] := ⟨fun x hx => by simp at hx, OwnP.none, fun k hk => by cases hk⟩
end Go.Proofs.YtnndaboaeijbkaaDoor
