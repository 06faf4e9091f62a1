/- Proved: slices.IndexFunc and slices.ContainsFunc, for a closure that answers a bool and leaves old memory alone. -/
import Derived.Test.YtaogpbhgoeepbaaChecked
import Derived.Test.YtaogpbhgoeepbaaUBase
namespace Go.Proofs.Ytaogpbhgoeepbaa
open Go.ChangeShapes Go.WideShapes Go.ChangeAt Go.RowKit
set_option linter.unusedVariables false

/-- the first index whose element has it; the length if none -/
def firstIdx {α : Type} (p : α → Bool) : List α → Nat
  | [] => 0
  | x :: xs => if p x then 0 else firstIdx p xs + 1
theorem firstIdx_le {α : Type} (p : α → Bool) (xs : List α) : firstIdx p xs ≤ xs.length := by
  induction xs with
  | nil => simp [firstIdx]
  | cons x xs ih => simp only [firstIdx]; split <;> simp <;> omega
theorem firstIdx_at {α : Type} (p : α → Bool) (xs : List α) (k : Nat) (hk : k < xs.length) (h : p xs[k] = true) (hb : ∀ j (hj : j < xs.length), j < k → p xs[j] = false) : firstIdx p xs = k := by
  induction xs generalizing k with
  | nil => simp at hk
  | cons x xs ih =>
    cases k with
    | zero => simp only [List.getElem_cons_zero] at h; simp [firstIdx, h]
    | succ k =>
      have h0 := hb 0 (by simp) (by omega)
      simp only [List.getElem_cons_zero] at h0
      simp only [firstIdx, h0]
      have := ih k (by simpa using hk) (by simpa using h) (fun j hj hjk => by have := hb (j+1) (by simpa using hj) (by omega); simpa using this)
      simp [this]
theorem firstIdx_none {α : Type} (p : α → Bool) (xs : List α) (h : ∀ j (hj : j < xs.length), p xs[j] = false) : firstIdx p xs = xs.length := by
  induction xs with
  | nil => rfl
  | cons x xs ih =>
    have h0 := h 0 (by simp)
    simp only [List.getElem_cons_zero] at h0
    simp only [firstIdx, h0, List.length_cons]
    simp [ih (fun j hj => by have := h (j+1) (by simpa using hj); simpa using this)]
theorem firstIdx_any {α : Type} (p : α → Bool) (xs : List α) : decide (firstIdx p xs < xs.length) = xs.any p := by
  induction xs with
  | nil => rfl
  | cons x xs ih =>
    simp only [firstIdx, List.any_cons, List.length_cons]
    by_cases h : p x = true
    · simp [h]
    · simp only [Bool.not_eq_true] at h
      simp only [h, Bool.false_or, ← ih]; simp
/-- .. as slices.IndexFunc tells it -/
def idxR {α : Type} (p : α → Bool) (xs : List α) : Int := if firstIdx p xs < xs.length then (firstIdx p xs : Int) else -1
theorem idxR_at {α : Type} (p : α → Bool) (xs : List α) (k : Nat) (hk : k < xs.length) (h : p xs[k] = true) (hb : ∀ j (hj : j < xs.length), j < k → p xs[j] = false) : idxR p xs = k := by
  unfold idxR; rw [firstIdx_at p xs k hk h hb, if_pos hk]
theorem idxR_none {α : Type} (p : α → Bool) (xs : List α) (h : ∀ j (hj : j < xs.length), p xs[j] = false) : idxR p xs = -1 := by
  unfold idxR; rw [firstIdx_none p xs h, if_neg (Nat.lt_irrefl _)]
theorem idxR_any {α : Type} (p : α → Bool) (xs : List α) : decide (0 ≤ idxR p xs) = xs.any p := by
  rw [← firstIdx_any]; unfold idxR
  by_cases h : firstIdx p xs < xs.length
  · rw [if_pos h, decide_eq_true h]; simp
  · rw [if_neg h, decide_eq_false h]; simp


set_option maxRecDepth 20000 in
set_option maxHeartbeats 400000 in
theorem IndexFuncRows_c (w : World) (v : Value) (z : Zone) (xs : List (List Int)) (h : SliceR IntsR z w v xs) (F : FuncId) (hF : Goes Try.prog F) (caps : Array Value) (p : List Int → Bool)
    (hf : ∀ i (hi : i < xs.length) (w1 : World) (u : Value), Below w.heap.size w w1 → IntsR ⟨z.lo, z.hi, false⟩ w1 u xs[i] → Calls Try.prog F (#[u] ++ caps) w1 (Ret w1 fun r _ => r = .bool (p xs[i]))) :
    Calls Try.prog 118 #[v, .func (.func F) #[] caps] w (Ret w fun r _ => r = .int .i64 (idxR p xs)) := by
  obtain ⟨a, n, cap, rfl, hn, hmax, hel⟩ := SliceR.elem stable_ints h
  have Hn := Lib.hid hn; clear hn h
  have Hel := Lib.hid hel; clear hel
  have Hf := Lib.hid hf; clear hf
  unfold Goes at hF
  go_enter Try.func118, Try.ntmps118
  go_wp2
  go_loopw [5, 8] (fun _ t wr => ∃ k : Nat, k ≤ n ∧ t = .int .i64 k ∧ (∀ j (hj : j < xs.length), j < k → p xs[j] = false) ∧ Below w.heap.size w wr) (fun _ t _ => n - (intOf t).toNat)
  case atStart => exact ⟨0, Nat.zero_le _, rfl, by simp, Below.refl _ _⟩
  case round =>
    obtain ⟨k, hk, rfl, hall, hb⟩ := hrel
    have Hall := Lib.hid hall; clear hall
    by_cases hlt : k < n
    · have l1 : k < xs.length := by rw [← Hn.out]; exact hlt
      obtain ⟨b, off, rfl, hb0, u, hc, hu⟩ := Hel.out k l1
      replace hc := (hb.cell hb0).trans hc
      have Hgo : Hid (p xs[k] = false → ∀ j (hj : j < xs.length), j < k + 1 → p xs[j] = false) := fun hp j hj hjk => by
        by_cases e : j = k
        · subst e; exact hp
        · exact Hall.out j hj (by omega)
      have Hyes : Hid (p xs[k] = true → idxR p xs = k) := fun hp => idxR_at p xs k l1 hp Hall.out
      have hcall := Hf.out k l1 wr u hb (stable_ints.below hu hb)
      generalize p xs[k] = y at *
      clear Hall hu
      have hbk : w.heap.size ≤ wr.heap.size := hb.size
      cases y with
      | true =>
        go_wp2_with fail
        refine Calls.mono hcall ?_
        rintro e w2 ⟨r, rfl, rfl, hb2⟩
        clear hcall
        go_wp2_with fail
        go_ret
        exact ⟨_, rfl, congrArg _ (Hyes.out (by simp)).symm, hb.trans (hb2.mono hbk)⟩
      | false =>
        go_wp2_with fail
        refine Calls.mono hcall ?_
        rintro e w2 ⟨r, rfl, rfl, hb2⟩
        clear hcall
        go_wp2_with fail
        go_roundw
        case rel => exact ⟨k + 1, by omega, by go_num, Hgo.out (by simp), hb.trans (hb2.mono hbk)⟩
        case measure => simp [intOf]; omega
    · have hkn : k = n := by omega
      go_wp2
      go_ret
      exact ⟨_, rfl, congrArg _ (idxR_none p xs (fun j hj => Hall.out j hj (by rw [hkn, Hn.out]; exact hj))).symm, hb⟩

set_option maxRecDepth 20000 in
set_option maxHeartbeats 400000 in
theorem IndexFuncInts_c (w : World) (v : Value) (z : Zone) (xs : List (Int)) (h : SliceR IntR z w v xs) (F : FuncId) (hF : Goes Try.prog F) (caps : Array Value) (p : Int → Bool)
    (hf : ∀ i (hi : i < xs.length) (w1 : World) (u : Value), Below w.heap.size w w1 → IntR ⟨z.lo, z.hi, false⟩ w1 u xs[i] → Calls Try.prog F (#[u] ++ caps) w1 (Ret w1 fun r _ => r = .bool (p xs[i]))) :
    Calls Try.prog 123 #[v, .func (.func F) #[] caps] w (Ret w fun r _ => r = .int .i64 (idxR p xs)) := by
  obtain ⟨a, n, cap, rfl, hn, hmax, hel⟩ := SliceR.elem stable_int h
  have Hn := Lib.hid hn; clear hn h
  have Hel := Lib.hid hel; clear hel
  have Hf := Lib.hid hf; clear hf
  unfold Goes at hF
  go_enter Try.func123, Try.ntmps123
  go_wp2
  go_loopw [5, 8] (fun _ t wr => ∃ k : Nat, k ≤ n ∧ t = .int .i64 k ∧ (∀ j (hj : j < xs.length), j < k → p xs[j] = false) ∧ Below w.heap.size w wr) (fun _ t _ => n - (intOf t).toNat)
  case atStart => exact ⟨0, Nat.zero_le _, rfl, by simp, Below.refl _ _⟩
  case round =>
    obtain ⟨k, hk, rfl, hall, hb⟩ := hrel
    have Hall := Lib.hid hall; clear hall
    by_cases hlt : k < n
    · have l1 : k < xs.length := by rw [← Hn.out]; exact hlt
      obtain ⟨b, off, rfl, hb0, u, hc, hu⟩ := Hel.out k l1
      replace hc := (hb.cell hb0).trans hc
      have Hgo : Hid (p xs[k] = false → ∀ j (hj : j < xs.length), j < k + 1 → p xs[j] = false) := fun hp j hj hjk => by
        by_cases e : j = k
        · subst e; exact hp
        · exact Hall.out j hj (by omega)
      have Hyes : Hid (p xs[k] = true → idxR p xs = k) := fun hp => idxR_at p xs k l1 hp Hall.out
      have hcall := Hf.out k l1 wr u hb (stable_int.below hu hb)
      generalize p xs[k] = y at *
      clear Hall hu
      have hbk : w.heap.size ≤ wr.heap.size := hb.size
      cases y with
      | true =>
        go_wp2_with fail
        refine Calls.mono hcall ?_
        rintro e w2 ⟨r, rfl, rfl, hb2⟩
        clear hcall
        go_wp2_with fail
        go_ret
        exact ⟨_, rfl, congrArg _ (Hyes.out (by simp)).symm, hb.trans (hb2.mono hbk)⟩
      | false =>
        go_wp2_with fail
        refine Calls.mono hcall ?_
        rintro e w2 ⟨r, rfl, rfl, hb2⟩
        clear hcall
        go_wp2_with fail
        go_roundw
        case rel => exact ⟨k + 1, by omega, by go_num, Hgo.out (by simp), hb.trans (hb2.mono hbk)⟩
        case measure => simp [intOf]; omega
    · have hkn : k = n := by omega
      go_wp2
      go_ret
      exact ⟨_, rfl, congrArg _ (idxR_none p xs (fun j hj => Hall.out j hj (by rw [hkn, Hn.out]; exact hj))).symm, hb⟩

theorem ContainsFuncRows_c (w : World) (v : Value) (z : Zone) (xs : List (List Int)) (h : SliceR IntsR z w v xs) (F : FuncId) (hF : Goes Try.prog F) (caps : Array Value) (p : List Int → Bool)
    (hf : ∀ i (hi : i < xs.length) (w1 : World) (u : Value), Below w.heap.size w w1 → IntsR ⟨z.lo, z.hi, false⟩ w1 u xs[i] → Calls Try.prog F (#[u] ++ caps) w1 (Ret w1 fun r _ => r = .bool (p xs[i]))) :
    Calls Try.prog 82 #[v, .func (.func F) #[] caps] w (Ret w fun r _ => r = .bool (xs.any p)) := by
  have hc := IndexFuncRows_c w v z xs h F hF caps p hf
  have H := Lib.hid (idxR_any p xs)
  clear hf h
  generalize idxR p xs = k at *
  go_enter Try.func82, Try.ntmps82
  go_wp2_with fail
  refine Calls.mono hc ?_
  rintro e w2 ⟨r, rfl, rfl, hb2⟩
  clear hc
  go_wp2_with fail
  go_ret
  exact ⟨_, rfl, congrArg Value.bool H.out, hb2⟩

theorem ContainsFuncInts_c (w : World) (v : Value) (z : Zone) (xs : List (Int)) (h : SliceR IntR z w v xs) (F : FuncId) (hF : Goes Try.prog F) (caps : Array Value) (p : Int → Bool)
    (hf : ∀ i (hi : i < xs.length) (w1 : World) (u : Value), Below w.heap.size w w1 → IntR ⟨z.lo, z.hi, false⟩ w1 u xs[i] → Calls Try.prog F (#[u] ++ caps) w1 (Ret w1 fun r _ => r = .bool (p xs[i]))) :
    Calls Try.prog 95 #[v, .func (.func F) #[] caps] w (Ret w fun r _ => r = .bool (xs.any p)) := by
  have hc := IndexFuncInts_c w v z xs h F hF caps p hf
  have H := Lib.hid (idxR_any p xs)
  clear hf h
  generalize idxR p xs = k at *
  go_enter Try.func95, Try.ntmps95
  go_wp2_with fail
  refine Calls.mono hc ?_
  rintro e w2 ⟨r, rfl, rfl, hb2⟩
  clear hc
  go_wp2_with fail
  go_ret
  exact ⟨_, rfl, congrArg Value.bool H.out, hb2⟩
end Go.Proofs.Ytaogpbhgoeepbaa
