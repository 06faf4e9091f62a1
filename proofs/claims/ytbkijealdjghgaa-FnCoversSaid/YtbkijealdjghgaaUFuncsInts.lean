/- Proved: slices.IndexFunc and ContainsFunc over lists of integers. -/
import Derived.Test.YtbkijealdjghgaaChecked
import Derived.Test.YtbkijealdjghgaaUPkA
namespace Go.Proofs.Ytbkijealdjghgaa
open Go.ChangeShapes Go.WideShapes Go.ChangeAt Go.RowKit
set_option linter.unusedVariables false

set_option maxRecDepth 20000 in
set_option maxHeartbeats 400000 in
theorem IndexFuncInts_c (w : World) (v : Value) (z : Zone) (xs : List (Int)) (h : SliceR IntR z w v xs) (F : FuncId) (hF : Goes Try.prog F) (caps : Array Value) (p : Int → Bool)
    (hf : ∀ i (hi : i < xs.length) (w1 : World) (u : Value), Below w.heap.size w w1 → IntR ⟨z.lo, z.hi, false⟩ w1 u xs[i] → Calls Try.prog F (#[u] ++ caps) w1 (Ret w1 fun r _ => r = .bool (p xs[i]))) :
    Calls Try.prog 63 #[v, .func (.func F) #[] caps] w (Ret w fun r _ => r = .int .i64 (idxR p xs)) := by
  obtain ⟨a, n, cap, rfl, hn, hmax, hel⟩ := SliceR.elem stable_int h
  have Hn := Lib.hid hn; clear hn h
  have Hel := Lib.hid hel; clear hel
  have Hf := Lib.hid hf; clear hf
  unfold Goes at hF
  go_enter Try.func63, Try.ntmps63
  go_wp2
  go_loopw [5, 8] (fun _ t wr => ∃ k : Nat, k ≤ n ∧ t = .int .i64 k ∧ (∀ j (hj : j < xs.length), j < k → p xs[j] = false) ∧ Below w.heap.size w wr) (fun _ t _ => n - (intOf t).toNat)
  case atStart => exact ⟨0, Nat.zero_le _, rfl, by simp, Below.refl _ _⟩
  case round =>
    obtain ⟨k, hk, rfl, hall, hb⟩ := hrel
    have Hall := Lib.hid hall; clear hall
    by_cases hlt : k < n
    · have l1 : k < xs.length := by rw [← Hn.out]; exact hlt
      obtain ⟨b, off, rfl, hb0, u, hc, hu⟩ := Hel.out k l1
      replace hc := (hb.cell hb0).trans hc
      have Hgo : Hid (p xs[k] = false → ∀ j (hj : j < xs.length), j < k + 1 → p xs[j] = false) := fun hp j hj hjk => by
        by_cases e : j = k
        · subst e; exact hp
        · exact Hall.out j hj (by omega)
      have Hyes : Hid (p xs[k] = true → idxR p xs = k) := fun hp => idxR_at p xs k l1 hp Hall.out
      have hcall := Hf.out k l1 wr u hb (stable_int.below hu hb)
      generalize p xs[k] = y at *
      clear Hall hu
      have hbk : w.heap.size ≤ wr.heap.size := hb.size
      cases y with
      | true =>
        go_wp2_with fail
        refine Calls.mono hcall ?_
        rintro e w2 ⟨r, rfl, rfl, hb2⟩
        clear hcall
        go_wp2_with fail
        go_ret
        exact ⟨_, rfl, congrArg _ (Hyes.out (by simp)).symm, hb.trans (hb2.mono hbk)⟩
      | false =>
        go_wp2_with fail
        refine Calls.mono hcall ?_
        rintro e w2 ⟨r, rfl, rfl, hb2⟩
        clear hcall
        go_wp2_with fail
        go_roundw
        case rel => exact ⟨k + 1, by omega, by go_num, Hgo.out (by simp), hb.trans (hb2.mono hbk)⟩
        case measure => simp [intOf]; omega
    · have hkn : k = n := by omega
      go_wp2
      go_ret
      exact ⟨_, rfl, congrArg _ (idxR_none p xs (fun j hj => Hall.out j hj (by rw [hkn, Hn.out]; exact hj))).symm, hb⟩

theorem ContainsFuncInts_c (w : World) (v : Value) (z : Zone) (xs : List (Int)) (h : SliceR IntR z w v xs) (F : FuncId) (hF : Goes Try.prog F) (caps : Array Value) (p : Int → Bool)
    (hf : ∀ i (hi : i < xs.length) (w1 : World) (u : Value), Below w.heap.size w w1 → IntR ⟨z.lo, z.hi, false⟩ w1 u xs[i] → Calls Try.prog F (#[u] ++ caps) w1 (Ret w1 fun r _ => r = .bool (p xs[i]))) :
    Calls Try.prog 42 #[v, .func (.func F) #[] caps] w (Ret w fun r _ => r = .bool (xs.any p)) := by
  have hc := IndexFuncInts_c w v z xs h F hF caps p hf
  have H := Lib.hid (idxR_any p xs)
  clear hf h
  generalize idxR p xs = k at *
  go_enter Try.func42, Try.ntmps42
  go_wp2_with fail
  refine Calls.mono hc ?_
  rintro e w2 ⟨r, rfl, rfl, hb2⟩
  clear hc
  go_wp2_with fail
  go_ret
  exact ⟨_, rfl, congrArg Value.bool H.out, hb2⟩
end Go.Proofs.Ytbkijealdjghgaa
