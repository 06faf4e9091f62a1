/- Proved: IsRooms: program and reference compute the same, for every plan of rooms. -/
import Derived.Test.YtegmognpofcfiaaGreatChecked
import Derived.Deep.RegionWith
import Derived.Test.YtegmognpofcfiaaGreatUPkA
namespace Go.Proofs.YtegmognpofcfiaaGreat
open Go.ChangeShapes Go.WideShapes Go.ChangeAt Go.RowKit
set_option linter.unusedVariables false

/-- a door: two rooms, the smaller one first -/
def badDoor (c : Int) (p : List Int) : Bool := decide (p.length ≠ 2) || !rising p c
def roomsOk (c : Int) (ds : List (List Int)) : Bool := !ds.any (badDoor c) && (inB c 2 8 && decide (ds.length ≤ 12))

/-- a plan of rooms by value -/
def RoomsR : Repr (Int × List (List Int)) := fun z w v x => ∃ u, v = .agg #[.int .i64 x.1, u] ∧ I64 x.1 ∧ RowsR z w u x.2
theorem stable_Rooms : Stable RoomsR := ⟨fun ⟨u, h1, h2, h3⟩ hs => ⟨u, h1, h2, stable_rows.keep h3 hs⟩, fun ⟨u, h1, h2, h3⟩ hs => ⟨u, h1, h2, stable_rows.sub h3 hs⟩⟩

theorem roomsOk_bad {c : Int} {ds : List (List Int)} (k : Nat) (hk : k < ds.length) (h : badDoor c ds[k] = true) : roomsOk c ds = false := by
  have : ds.any (badDoor c) = true := by rw [List.any_eq_true]; exact ⟨_, List.getElem_mem hk, h⟩
  unfold roomsOk; rw [this]; rfl
theorem roomsOk_good {c : Int} {ds : List (List Int)} (h : ∀ k (hk : k < ds.length), badDoor c ds[k] = false) : roomsOk c ds = (inB c 2 8 && decide (ds.length ≤ 12)) := by
  have : ds.any (badDoor c) = false := by
    rw [List.any_eq_false]; intro y hy
    obtain ⟨i, hi, rfl⟩ := List.getElem_of_mem hy
    simp [h i hi]
  unfold roomsOk; rw [this]; rfl

/-! ### the reference's -/
/-- a pair as the reference looks at it, wraps and all -/
def specBad (c : Int) (p : List Int) : Bool := decide (p.length ≠ 2) || (!inB (p.getD 0 0) 0 (wrap64 (p.getD 1 0 - 1)) || !inB (p.getD 1 0) 1 (wrap64 (c - 1)))
theorem wrap_sub {x : Int} (h : I64 x) : wrap64 (x - 1) = if x = -9223372036854775808 then 9223372036854775807 else x - 1 := by
  obtain ⟨h1, h2⟩ := h
  unfold wrap64
  split <;> omega
theorem specBad_eq {c : Int} {p : List Int} (hp : ∀ x ∈ p, I64 x) (hc : 2 ≤ c ∧ c ≤ 8) : specBad c p = badDoor c p := by
  unfold specBad badDoor
  by_cases hl : p.length = 2
  · match p, hl with
    | [x, y], _ =>
      have hx := hp x (by simp)
      have hy := hp y (by simp)
      simp only [List.getD_cons_zero, List.getD_cons_succ]
      have hcw : wrap64 (c - 1) = c - 1 := by
        rw [wrap_sub (x := c) ⟨by omega, by omega⟩]
        split <;> omega
      rw [wrap_sub hy, hcw]
      have hr : rising [x, y] c = (decide (0 ≤ x ∧ x < c) && decide (0 ≤ y ∧ y < c ∧ x < y)) := by
        simp [rising, List.range_succ, risingAt]
      rw [hr]
      obtain ⟨g1, g2⟩ := hx
      obtain ⟨g3, g4⟩ := hy
      simp only [inB]
      rw [Bool.eq_iff_iff]
      by_cases e : y = -9223372036854775808
      · rw [if_pos e]; simp; omega
      · rw [if_neg e]; simp; omega
  · simp [hl]
theorem roomsOk_spec {c : Int} {ds : List (List Int)} (hds : ∀ p ∈ ds, ∀ x ∈ p, I64 x) : roomsOk c ds = (!ds.any (specBad c) && (inB c 2 8 && decide (ds.length ≤ 12))) := by
  unfold roomsOk
  by_cases hc : 2 ≤ c ∧ c ≤ 8
  · have : ds.any (badDoor c) = ds.any (specBad c) := by
      rw [Bool.eq_iff_iff, List.any_eq_true, List.any_eq_true]
      constructor
      · rintro ⟨p, hp, h⟩; exact ⟨p, hp, by rw [specBad_eq (hds p hp) hc]; exact h⟩
      · rintro ⟨p, hp, h⟩; exact ⟨p, hp, by rw [← specBad_eq (hds p hp) hc]; exact h⟩
    rw [this]
  · have : inB c 2 8 = false := by simp only [inB, Bool.and_eq_false_iff, decide_eq_false_iff_not]; omega
    rw [this]; simp

theorem specBad_len {c : Int} {p : List Int} (h : p.length ≠ 2) : specBad c p = true := by simp [specBad, h]
theorem specBad_in {c : Int} {p : List Int} (h : p.length = 2) : specBad c p = (!inB (p.getD 0 0) 0 (wrap64 (p.getD 1 0 - 1)) || !inB (p.getD 1 0) 1 (wrap64 (c - 1))) := by simp [specBad, h]
end Go.Proofs.YtegmognpofcfiaaGreat
