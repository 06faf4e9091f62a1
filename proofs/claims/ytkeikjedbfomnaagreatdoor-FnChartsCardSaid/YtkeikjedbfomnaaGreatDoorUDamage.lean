/- Proved: the draw of a text with a fault. -/
import Derived.Test.YtkeikjedbfomnaaGreatDoorChecked
import Derived.Deep.RegionLaw
import Derived.Deep.RegionHeld3
import Derived.Deep.Cut
import Derived.Test.YtkeikjedbfomnaaGreatDoorUPkDa
import Derived.Test.YtkeikjedbfomnaaGreatDoorUPkT1
namespace Go.Proofs.YtkeikjedbfomnaaGreatDoor
open Go.ChangeShapes Go.WideShapes Go.ChangeAt Go.RowKit
set_option linter.unusedVariables false

/-- some text of at most so many bytes -/
def StrD (m : Nat) (v : Value) (_ : World) : Prop := ∃ s : ByteArray, v = .string s ∧ s.size ≤ m
theorem extract_le (t : ByteArray) (i j : Nat) (hj : j ≤ t.size) (hi : i ≤ j) : (t.extract i j).size = j - i := by
  rw [ByteArray.size_extract]; omega

set_option maxRecDepth 20000 in
set_option maxHeartbeats 1000000 in
theorem l01Damage_c (w : World) (g : Nat) (h : Src g w) (t : ByteArray) (ht : t.size ≤ 100000) : Calls Tryz.prog 63 #[.pointer (some ⟨g, 0, none⟩), .string t] w (DrawR g w (StrD (t.size + 1))) := by
  have HN1 := Lib.hid (l01Next_c w g h ((t.size : Int) + 1) (by unfold I64; omega))
  have HN8 := Lib.hid (fun (w' : World) (h : Src g w') => l01Next_c w' g h 8 (by unfold I64; omega))
  have hwr : IntKind.i64.wrap ((t.size : Int) + 1) = (t.size : Int) + 1 := IntWalk.i64_in _ (by omega)
  have HX := Lib.hid (fun (i j : Nat) (hj : j ≤ t.size) (hi : i ≤ j) => extract_le t i j hj hi)
  clear h
  go_enter Tryz.func63, Tryz.ntmps63
  go_wp2_with fail
  refine Calls.mono HN1.out ?_
  rintro e w1 ⟨_, rfl, ⟨x, rfl, hx0, hx1⟩, d1⟩
  obtain ⟨k, rfl⟩ := Int.eq_ofNat_of_zero_le hx0
  have hk : k ≤ t.size := by omega
  go_wp2_with fail
  refine Calls.mono (HN8.out w1 d1.src) ?_
  rintro e w2 ⟨_, rfl, ⟨y, rfl, hy0, hy1⟩, d2⟩
  have d12 := d1.trans d2
  obtain ⟨m, rfl⟩ := Int.eq_ofNat_of_zero_le hy0
  clear hx0 hx1 hy0
  by_cases hm0 : m = 0
  · subst hm0
    have hz : ((0 : Nat) : Int) = 0 := rfl
    rw [hz]
    have hsz := HX.out 0 k hk (Nat.zero_le _)
    have HS := Lib.hid hsz
    clear hsz hy1
    go_wp2_with fail
    go_ret
    exact ⟨_, rfl, ⟨_, rfl, by have := HS.out; omega⟩, d12⟩
  · have hb0 : ((m : Int) == 0) = false := by rw [beq_eq_false_iff_ne]; omega
    by_cases hm1 : m = 1
    · subst hm1
      have hz : ((1 : Nat) : Int) = 1 := rfl
      rw [hz]
      have HLit : Hid (∀ (w' : World) (j : Nat), j < 8 → ∃ s : ByteArray, (w'.alloc (.cells #[.string ⟨#[48]⟩, .string ⟨#[35]⟩, .string ⟨#[46]⟩, .string ⟨#[47]⟩, .string ⟨#[32]⟩, .string ⟨#[97]⟩, .string ⟨#[45]⟩, .string ⟨#[10]⟩] 9)).cell? ⟨w'.heap.size, j, none⟩ = some (.string s) ∧ s.size = 1) := fun w' j hj => by
        have hj' : j = 0 ∨ j = 1 ∨ j = 2 ∨ j = 3 ∨ j = 4 ∨ j = 5 ∨ j = 6 ∨ j = 7 := by omega
        rcases hj' with rfl | rfl | rfl | rfl | rfl | rfl | rfl | rfl <;> exact ⟨_, by simp; rfl, rfl⟩
      have hr0 : Dr g w2 w2 := Dr.refl d2.src
      have hg2 : g < w2.heap.size := d2.src.lt
      have HKeep : Hid (∀ (w5 : World) (j : Nat) (s : ByteArray), (w2.drew.alloc (.cells #[.string ⟨#[48]⟩, .string ⟨#[35]⟩, .string ⟨#[46]⟩, .string ⟨#[47]⟩, .string ⟨#[32]⟩, .string ⟨#[97]⟩, .string ⟨#[45]⟩, .string ⟨#[10]⟩] 9)).cell? ⟨w2.heap.size, j, none⟩ = some (.string s) → Dr g (w2.drew.alloc (.cells #[.string ⟨#[48]⟩, .string ⟨#[35]⟩, .string ⟨#[46]⟩, .string ⟨#[47]⟩, .string ⟨#[32]⟩, .string ⟨#[97]⟩, .string ⟨#[45]⟩, .string ⟨#[10]⟩] 9)) w5 → w5.cell? ⟨w2.heap.size, j, none⟩ = some (.string s)) := fun w5 j s hc d5 => (World.cell?_of_block (a := ⟨w2.heap.size, j, none⟩) (d5.grown.block w2.heap.size (by simp) (fun e => by injection e with e; omega))).trans hc
      have h1 := HX.out 0 k hk (Nat.zero_le _)
      have h2 := HX.out k t.size (Nat.le_refl _) hk
      have HS : Hid (∀ s : ByteArray, s.size = 1 → (¬ (9223372036854775807 < (t.extract 0 k).size + s.size)) ∧ (¬ (9223372036854775807 < (t.extract 0 k).size + s.size + (t.extract k t.size).size)) ∧ ((t.extract 0 k ++ s) ++ t.extract k t.size).size ≤ t.size + 1) := fun s hs => ⟨by omega, by omega, by rw [ByteArray.size_append, ByteArray.size_append]; omega⟩
      have hn1 : ¬ (9223372036854775807 < k + 1) := by omega
      have hn2 : ¬ (9223372036854775807 < k + 1 + (t.size - k)) := by omega
      clear hy1 hm0 h1 h2
      go_wp2_with fail
      go_region_law (first | (go_simp; go_at_call 58; (with_reducible refine (HN8.out _ (Dr.src (w := w2) (by (repeat (first | assumption | (refine Dr.drew ?_) | (refine Dr.alloc ?_ _) | (refine Dr.trans ?_ (by assumption)))); done))).mono ?_); rintro e w5 ⟨_, rfl, ⟨y5, rfl, hy50, hy51⟩, d5⟩; have dd5 : Dr g w2 w5 := (by (repeat (first | assumption | (refine Dr.drew ?_) | (refine Dr.alloc ?_ _) | (refine Dr.trans ?_ (by assumption)))); done); obtain ⟨j, rfl⟩ := Int.eq_ofNat_of_zero_le hy50; have hj8 : j < 8 := (by omega); have hj8i : (j : Int) < 8 := (by omega); obtain ⟨sb, hcb, hsb⟩ := HLit.out w5 j hj8; obtain ⟨b1, b2, b3⟩ := HS.out sb hsb; obtain ⟨sa, hca, hsa⟩ := HLit.out w2.drew j hj8; obtain ⟨a1, a2, a3⟩ := HS.out sa hsa; have B3 := Lib.hid b3; have A3 := Lib.hid a3; clear b3 a3; (try have hc5 := HKeep.out w5 j sa hca d5); clear hca) | fail)
      all_goals go_wp2_with fail
      all_goals go_ret
      all_goals first | exact ⟨_, rfl, ⟨_, rfl, A3.out⟩, d12.trans dd5⟩ | exact ⟨_, rfl, ⟨_, rfl, B3.out⟩, (d12.trans dd5).alloc _⟩
    · have hb1 : ((m : Int) == 1) = false := by rw [beq_eq_false_iff_ne]; omega
      by_cases hm2 : m = 2
      · subst hm2
        have hz : ((2 : Nat) : Int) = 2 := rfl
        rw [hz]
        clear hy1 hm0 hm1
        by_cases hkt : k < t.size
        · have hd1 : decide ((k : Int) < (t.size : Int)) = true := decide_eq_true (by omega)
          have hd2 : decide (k < t.size) = true := decide_eq_true hkt
          have hwk : IntKind.i64.wrap ((k : Int) + 1) = (k : Int) + 1 := IntWalk.i64_in _ (by omega)
          have h1 := HX.out 0 k hk (Nat.zero_le _)
          have h2 := HX.out (k + 1) t.size (Nat.le_refl _) hkt
          have hs1 : ¬ (9223372036854775807 < (t.extract 0 k).size + (t.extract (k + 1) t.size).size) := by omega
          have HS : Hid ((t.extract 0 k ++ t.extract (k + 1) t.size).size ≤ t.size + 1) := by show _ ≤ _; rw [ByteArray.size_append]; omega
          clear h1 h2
          go_wp2_with fail
          go_quiet (fail)
          go_wp2_with fail
          go_ret
          exact ⟨_, rfl, ⟨_, rfl, HS.out⟩, d12.drewN _⟩
        · have hd1 : decide ((k : Int) < (t.size : Int)) = false := decide_eq_false (by omega)
          have hd2 : decide (k < t.size) = false := decide_eq_false hkt
          go_wp2_with fail
          go_ret
          exact ⟨_, rfl, ⟨_, rfl, by omega⟩, d12⟩
      · have hb2 : ((m : Int) == 2) = false := by rw [beq_eq_false_iff_ne]; omega
        clear hm0 hm1 hm2
        go_wp2_with fail
        go_ret
        exact ⟨_, rfl, ⟨_, rfl, by omega⟩, d12⟩
end Go.Proofs.YtkeikjedbfomnaaGreatDoor
