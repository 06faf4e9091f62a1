/- Proved: the number of different numbers of a list: program and reference. -/
import Derived.Test.YtnndaboaeijbkaaDoorChecked
import Derived.Test.YtnndaboaeijbkaaDoorUContainsInts
import Derived.Test.YtnndaboaeijbkaaDoorUBase2
namespace Go.Proofs.YtnndaboaeijbkaaDoor
open Go.ChangeShapes Go.WideShapes Go.ChangeAt Go.RowKit
set_option linter.unusedVariables false

def kindsTo (l : List Int) (k : Nat) : Nat := ((List.range k).filter fun i => !has (l.take i) (l.getD i 0)).length
def kinds (l : List Int) : Nat := kindsTo l l.length
theorem kindsTo_succ (l : List Int) (k : Nat) : kindsTo l (k+1) = kindsTo l k + if has (l.take k) (l.getD k 0) = true then 0 else 1 := by
  unfold kindsTo
  rw [List.range_succ, List.filter_append, List.length_append]
  congr 1
  rw [List.filter_cons, List.filter_nil]
  cases h : has (l.take k) (l.getD k 0) <;> rfl
theorem kindsTo_le (l : List Int) (k : Nat) : kindsTo l k ≤ k := by
  have := List.length_filter_le (fun i => !has (l.take i) (l.getD i 0)) (List.range k)
  simpa [kindsTo] using this

set_option maxRecDepth 20000 in
set_option maxHeartbeats 1000000 in
theorem different_c (w : World) (v : Value) (z : Zone) (xs : List Int) (h : IntsR z w v xs) :
    Calls Tryd.prog 62 #[v] w (RetQ w (.int .i64 (kinds xs))) := by
  have hfront := fun (wr : World) (hd : Drew w wr) => stable_ints.drew h hd
  obtain ⟨a, n, cap, rfl, hn, hmax, hcap, -, -, hel⟩ := IntsR.shape h
  have HF := Lib.hid (fun (wr : World) (hd : Drew w wr) (k : Nat) (hk : k ≤ n) => SliceR.front (hfront wr hd) k hk)
  have Hn := Lib.hid hn
  have Hel := Lib.hid hel
  clear hn hel h hfront
  go_enter Tryd.func62, Tryd.ntmps62
  go_wp2_with fail
  go_loopw [3, 4, 5, 8] (fun s3 _ _ s8 wr => ∃ k : Nat, k ≤ n ∧ s8 = .int .i64 k ∧ s3 = .int .i64 (kindsTo xs k) ∧ Drew w wr) (fun _ _ _ s8 _ => n - (intOf s8).toNat)
  case atStart => exact ⟨0, Nat.zero_le _, rfl, rfl, Drew.refl _⟩
  case round =>
    obtain ⟨k, hk, rfl, rfl, hd⟩ := hrel
    by_cases hlt : k < n
    · obtain ⟨b, off, rfl, hc, hx, -⟩ := Hel.out k hlt
      replace hc := (hd.cell _).trans hc
      have hcall := Contains_c wr _ _ _ (xs.getD k 0) (HF.out wr hd k (by omega)) hx
      have HS := Lib.hid (kindsTo_succ xs k)
      have hle := kindsTo_le xs k
      generalize kindsTo xs k = s at *
      cases hq : has (xs.take k) (xs.getD k 0) with
      | true =>
        have HH : Hid (kindsTo xs (k+1) = s) := by have := HS.out; rw [hq, if_pos rfl, Nat.add_zero] at this; exact this
        rw [hq] at hcall
        clear hq HS
        generalize xs.getD k 0 = y at *
        go_wp2_with fail
        refine Calls.mono hcall ?_
        rintro e w2 ⟨rfl, hd2⟩
        clear hcall
        go_wp2_with fail
        go_roundw
        case rel => exact ⟨k + 1, by omega, by go_num, by rw [HH.out], hd.trans hd2⟩
        case measure => simp [intOf]; omega
      | false =>
        have HH : Hid (kindsTo xs (k+1) = s + 1) := by have := HS.out; rw [hq, if_neg (by decide)] at this; exact this
        rw [hq] at hcall
        clear hq HS
        generalize xs.getD k 0 = y at *
        go_wp2_with fail
        refine Calls.mono hcall ?_
        rintro e w2 ⟨rfl, hd2⟩
        clear hcall
        go_wp2_with fail
        go_roundw
        case rel => exact ⟨k + 1, by omega, by go_num, by rw [HH.out]; go_num, hd.trans hd2⟩
        case measure => simp [intOf]; omega
    · have hkn : k = n := by omega
      have HH : Hid (kindsTo xs k = kinds xs) := by show _ = _; rw [hkn, Hn.out]; rfl
      go_wp2_with fail
      go_ret
      exact ⟨ret_int (congrArg (fun q : Nat => (q : Int)) HH.out), hd⟩

set_option maxRecDepth 20000 in
set_option maxHeartbeats 1000000 in
theorem l02Kinds_c (w : World) (v : Value) (z : Zone) (xs : List Int) (h : IntsR z w v xs) :
    Calls Tryd.prog 40 #[v] w (RetQ w (.int .i64 (kinds xs))) := by
  have hfront := fun (wr : World) (hd : Drew w wr) => stable_ints.drew h hd
  obtain ⟨a, n, cap, rfl, hn, hmax, hcap, -, -, hel⟩ := IntsR.shape h
  have HF := Lib.hid (fun (wr : World) (hd : Drew w wr) (k : Nat) (hk : k ≤ n) => SliceR.front (hfront wr hd) k hk)
  have Hn := Lib.hid hn
  have Hel := Lib.hid hel
  clear hn hel h hfront
  go_enter Tryd.func40, Tryd.ntmps40
  go_wp2_with fail
  go_loopw [3, 4] (fun s3 s4 wr => ∃ k : Nat, k ≤ n ∧ s4 = .int .i64 k ∧ s3 = .int .i64 (kindsTo xs k) ∧ Drew w wr) (fun _ s4 _ => n - (intOf s4).toNat)
  case atStart => exact ⟨0, Nat.zero_le _, rfl, rfl, Drew.refl _⟩
  case round =>
    obtain ⟨k, hk, rfl, rfl, hd⟩ := hrel
    by_cases hlt : k < n
    · obtain ⟨b, off, rfl, hc, hx, -⟩ := Hel.out k hlt
      replace hc := (hd.cell _).trans hc
      have HC := Lib.hid (fun (m : Nat) => Has_c (wr.drewN m) _ _ _ (xs.getD k 0) (HF.out _ (hd.drewN m) k (by omega)) hx)
      have HS := Lib.hid (kindsTo_succ xs k)
      have hle := kindsTo_le xs k
      generalize kindsTo xs k = s at *
      have hkc : k ≤ cap := by omega
      cases hq : has (xs.take k) (xs.getD k 0) with
      | true =>
        have HH : Hid (kindsTo xs (k+1) = s) := by have := HS.out; rw [hq, if_pos rfl, Nat.add_zero] at this; exact this
        have HQ := Lib.hid (congrArg Value.bool hq)
        clear hq HS
        generalize xs.getD k 0 = y at *
        go_wp2_with fail
        go_quiet ((go_at_call 56; exact RetQ.quiet (Calls.vq (HC.out _) HQ.out)))
        go_wp2_with fail
        go_roundw
        case rel => exact ⟨k + 1, by omega, by go_num, by rw [HH.out], hd.drewN _⟩
        case measure => simp [intOf]; omega
      | false =>
        have HH : Hid (kindsTo xs (k+1) = s + 1) := by have := HS.out; rw [hq, if_neg (by decide)] at this; exact this
        have HQ := Lib.hid (congrArg Value.bool hq)
        clear hq HS
        generalize xs.getD k 0 = y at *
        go_wp2_with fail
        go_quiet ((go_at_call 56; exact RetQ.quiet (Calls.vq (HC.out _) HQ.out)))
        go_wp2_with fail
        go_roundw
        case rel => exact ⟨k + 1, by omega, by go_num, by rw [HH.out]; go_num, hd.drewN _⟩
        case measure => simp [intOf]; omega
    · have hkn : k = n := by omega
      have HH : Hid (kindsTo xs k = kinds xs) := by show _ = _; rw [hkn, Hn.out]; rfl
      go_wp2_with fail
      go_ret
      exact ⟨ret_int (congrArg (fun q : Nat => (q : Int)) HH.out), hd⟩
end Go.Proofs.YtnndaboaeijbkaaDoor
