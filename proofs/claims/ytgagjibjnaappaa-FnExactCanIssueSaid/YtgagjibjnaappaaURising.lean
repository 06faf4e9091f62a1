/- Proved: impl.IsRising and spec.l01Rises return whether a list rises strictly within 0 to n - 1, for every list of integers. -/
import Derived.Test.YtgagjibjnaappaaChecked
import Derived.Test.YtgagjibjnaappaaUBase
namespace Go.Proofs.Ytgagjibjnaappaa
open Go.ChangeShapes Go.WideShapes Go.ChangeAt Go.RowKit
/-- strictly rising within 0 to n - 1 -/
def risingAt (xs : List Int) (n : Int) (i : Nat) : Bool := decide (0 ≤ xs.getD i 0 ∧ xs.getD i 0 < n ∧ (0 < i → xs.getD (i-1) 0 < xs.getD i 0))
def rising (xs : List Int) (n : Int) : Bool := (List.range xs.length).all (risingAt xs n)

theorem rising_true {xs n} (h : ∀ i, i < xs.length → risingAt xs n i = true) : rising xs n = true := by
  unfold rising; rw [List.all_eq_true]; intro i hi; exact h i (List.mem_range.1 hi)
theorem rising_false {xs n} (i : Nat) (hi : i < xs.length) (h : risingAt xs n i = false) : rising xs n = false := by
  unfold rising; rw [List.all_eq_false]; exact ⟨i, List.mem_range.2 hi, by simp [h]⟩

set_option maxHeartbeats 400000 in
theorem IsRising_c (w : World) (v : Value) (z : Zone) (xs : List Int) (n : Int) (h : IntsR z w v xs) (hn : I64 n) :
    Calls Try.prog 154 #[v, .int .i64 n] w (RetQ w (.bool (rising xs n))) := by
  obtain ⟨a, len, cap, rfl, hlen, hmax, -, -, -, hel⟩ := IntsR.shape h
  have Hlen := Lib.hid hlen; clear hlen h
  have Hel := Lib.hid hel; clear hel
  unfold I64 at hn
  obtain ⟨n1, n2⟩ := hn
  go_enter Try.func154, Try.ntmps154
  go_wp2
  go_loop [9] (fun t => ∃ i : Nat, i ≤ len ∧ t = .int .i64 i ∧ ∀ j, j < i → risingAt xs n j = true) (fun t => len - (intOf t).toNat)
  case atStart => exact ⟨0, Nat.zero_le _, rfl, by simp⟩
  case round =>
    obtain ⟨i, hi, rfl, hall⟩ := hrel
    have Hall := Lib.hid hall; clear hall
    by_cases hlt : i < len
    · obtain ⟨b, off, rfl, hc, ⟨hx1, hx2⟩, hp⟩ := Hel.out i hlt
      have Hri : Hid (risingAt xs n i = decide (0 ≤ xs.getD i 0 ∧ xs.getD i 0 < n ∧ (0 < i → xs.getD (i-1) 0 < xs.getD i 0))) := rfl
      have Hgo : Hid (risingAt xs n i = true → ∀ j, j < i + 1 → risingAt xs n j = true) := fun h j hj => by
        by_cases e : j = i
        · rw [e]; exact h
        · exact Hall.out j (by omega)
      have Hno : Hid (risingAt xs n i = false → rising xs n = false) := fun h => rising_false i (by have := Hlen.out; omega) h
      generalize hx : xs.getD i 0 = x at *
      generalize hy : xs.getD (i-1) 0 = y at *
      clear hx hy
      by_cases h0 : 0 < i
      · obtain ⟨hp1, hp2, hp3⟩ := hp h0
        clear hp
        go_wp2
        all_goals first
          | (go_round
             case rel => exact ⟨i + 1, by omega, by go_num, Hgo.out (by rw [Hri.out, decide_eq_true_iff]; refine ⟨?_, ?_, fun _ => ?_⟩ <;> omega)⟩
             case measure => simp [intOf]; omega)
          | (go_ret; exact ⟨ret_bool' (Hno.out (by rw [Hri.out, decide_eq_false_iff_not]; intro ⟨g1, g2, g3⟩; have := g3 h0; omega)), Drew.refl _⟩)
      · clear hp
        go_wp2
        all_goals first
          | (go_round
             case rel => exact ⟨i + 1, by omega, by go_num, Hgo.out (by rw [Hri.out, decide_eq_true_iff]; refine ⟨?_, ?_, fun _ => ?_⟩ <;> omega)⟩
             case measure => simp [intOf]; omega)
          | (go_ret; exact ⟨ret_bool' (Hno.out (by rw [Hri.out, decide_eq_false_iff_not]; intro ⟨g1, g2, g3⟩; omega)), Drew.refl _⟩)
    · go_wp2
      go_ret
      exact ⟨ret_bool (rising_true (fun j hj => Hall.out j (by have := Hlen.out; omega))).symm, Drew.refl _⟩

set_option maxHeartbeats 800000 in
theorem l01Rises_c (w : World) (v : Value) (z : Zone) (xs : List Int) (n : Int) (h : IntsR z w v xs) (hn : I64 n) :
    Calls Try.prog 140 #[v, .int .i64 n] w (RetQ w (.bool (rising xs n))) := by
  obtain ⟨a, len, cap, rfl, hlen, hmax, -, -, -, hel⟩ := IntsR.shape h
  have Hlen := Lib.hid hlen; clear hlen h
  have Hel := Lib.hid hel; clear hel
  unfold I64 at hn
  obtain ⟨n1, n2⟩ := hn
  go_enter Try.func140, Try.ntmps140
  go_wp2
  go_loopw [5] (fun t wr => ∃ i : Nat, i ≤ len ∧ t = .int .i64 i ∧ (∀ j, j < i → risingAt xs n j = true) ∧ Drew w wr) (fun t _ => len - (intOf t).toNat)
  case atStart => exact ⟨0, Nat.zero_le _, rfl, by simp, Drew.refl _⟩
  case round =>
    obtain ⟨i, hi, rfl, hall, hd⟩ := hrel
    have Hall := Lib.hid hall; clear hall
    by_cases hlt : i < len
    · obtain ⟨b, off, rfl, hc, ⟨hx1, hx2⟩, hp⟩ := Hel.out i hlt
      have Hri : Hid (risingAt xs n i = decide (0 ≤ xs.getD i 0 ∧ xs.getD i 0 < n ∧ (0 < i → xs.getD (i-1) 0 < xs.getD i 0))) := rfl
      have Hgo : Hid (risingAt xs n i = true → ∀ j, j < i + 1 → risingAt xs n j = true) := fun h j hj => by
        by_cases e : j = i
        · rw [e]; exact h
        · exact Hall.out j (by omega)
      have Hno : Hid (risingAt xs n i = false → rising xs n = false) := fun h => rising_false i (by have := Hlen.out; omega) h
      have hc := (hd.cell _).trans hc
      have hp : 0 < i → wr.cell? ⟨b, off + (i-1), none⟩ = some (.int .i64 (xs.getD (i-1) 0)) ∧ I64 (xs.getD (i-1) 0) := fun h => ⟨(hd.cell _).trans (hp h).1, (hp h).2⟩
      generalize hx : xs.getD i 0 = x at *
      generalize hy : xs.getD (i-1) 0 = y at *
      clear hx hy
      by_cases c1 : x < 0
      · clear hp
        have d1 : decide (x < 0) = true := by simpa using c1
        go_wp2
        go_quiet (fail)
        go_wp2
        go_ret; exact ⟨ret_bool' (Hno.out (by rw [Hri.out, decide_eq_false_iff_not]; intro ⟨g1, g2, g3⟩; omega)), hd.drewN _⟩
      have d1 : decide (x < 0) = false := by simpa using c1
      by_cases c2 : n ≤ x
      · clear hp
        have d2 : decide (n ≤ x) = true := by simpa using c2
        go_wp2
        go_quiet (fail)
        go_wp2
        go_ret; exact ⟨ret_bool' (Hno.out (by rw [Hri.out, decide_eq_false_iff_not]; intro ⟨g1, g2, g3⟩; omega)), hd.drewN _⟩
      have d2 : decide (n ≤ x) = false := by simpa using c2
      by_cases h0 : 0 < i
      · have d3 : decide ((0:Int) < (i:Int)) = true := by simpa using h0
        obtain ⟨hp1, hp2, hp3⟩ := hp h0
        clear hp
        by_cases c4 : x ≤ y
        · have d4 : decide (x ≤ y) = true := by simpa using c4
          go_wp2
          go_quiet (fail)
          go_wp2
          go_ret; exact ⟨ret_bool' (Hno.out (by rw [Hri.out, decide_eq_false_iff_not]; intro ⟨g1, g2, g3⟩; have := g3 h0; omega)), hd.drewN _⟩
        · have d4 : decide (x ≤ y) = false := by simpa using c4
          go_wp2
          go_quiet (fail)
          go_wp2
          go_roundw
          case rel => exact ⟨i + 1, by omega, by go_num, Hgo.out (by rw [Hri.out, decide_eq_true_iff]; refine ⟨?_, ?_, fun _ => ?_⟩ <;> omega), hd.drewN _⟩
          case measure => simp [intOf]; omega
      · clear hp
        have d3 : decide ((0:Int) < (i:Int)) = false := by simpa using h0
        go_wp2
        go_quiet (fail)
        go_wp2
        go_roundw
        case rel => exact ⟨i + 1, by omega, by go_num, Hgo.out (by rw [Hri.out, decide_eq_true_iff]; refine ⟨?_, ?_, fun _ => ?_⟩ <;> omega), hd.drewN _⟩
        case measure => simp [intOf]; omega
    · go_wp2
      go_ret
      exact ⟨ret_bool (rising_true (fun j hj => Hall.out j (by have := Hlen.out; omega))).symm, hd⟩
end Go.Proofs.Ytgagjibjnaappaa
