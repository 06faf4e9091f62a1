/- Proved: the code of a system, a design, a further row and a key, as the reference tells it. -/
import Derived.Test.YthgmojggpjnckaaGreatChecked
import Derived.Test.YthgmojggpjnckaaGreatURowCode
namespace Go.Proofs.YthgmojggpjnckaaGreat
open Go.ChangeShapes Go.WideShapes Go.ChangeAt Go.RowKit
set_option linter.unusedVariables false

set_option maxHeartbeats 400000 in
theorem l24Entries_c (w : World) (v : Value) (z : Zone) (ps : List Int) (m : Nat) (h : IntsR z w v ps) : Calls Tryz.prog 77 #[v, .int .i64 m] w (RetQ w (.bool (decide (ps.length = m) && allB ps 0 1))) := by
  have H1 : Hid (∀ i, i < ps.length → inB (ps.getD i 0) 0 1 = false → (decide (ps.length = m) && allB ps 0 1) = false) := fun i hi h => by rw [allB_bad i hi h, Bool.and_false]
  have H2 : Hid ((∀ i, i < ps.length → inB (ps.getD i 0) 0 1 = true) → (decide (ps.length = m) && allB ps 0 1) = decide (ps.length = m)) := fun h => by rw [allB_good h, Bool.and_true]
  generalize (decide (ps.length = m) && allB ps 0 1) = res at *
  obtain ⟨a, n, cap, rfl, hn, hmax, -⟩ := SliceR.shape h
  have HX := Lib.hid (fun (k : Nat) (hk : k < n) => ints_at h hk)
  have Hn := Lib.hid hn
  clear hn h
  go_enter Tryz.func77, Tryz.ntmps77
  go_wp2_with fail
  go_loopw [5] (fun s5 wr => ∃ k : Nat, k ≤ n ∧ s5 = .int .i64 k ∧ (∀ i, i < k → inB (ps.getD i 0) 0 1 = true) ∧ Drew w wr) (fun s5 _ => n - (intOf s5).toNat)
  case atStart => exact ⟨0, Nat.zero_le _, rfl, by simp, Drew.refl _⟩
  case round =>
    obtain ⟨k, hk, rfl, hall, hd⟩ := hrel
    have Hall := Lib.hid hall
    clear hall
    by_cases hlt : k < n
    · obtain ⟨b, off, rfl, hi, hc⟩ := HX.out k hlt
      replace hc := hc wr (Ext.ofDrew hd)
      have Hno : Hid (inB (ps.getD k 0) 0 1 = false → res = false) := fun h => H1.out k (by rw [← Hn.out]; exact hlt) h
      have Hgo : Hid (inB (ps.getD k 0) 0 1 = true → ∀ i, i < k + 1 → inB (ps.getD i 0) 0 1 = true) := fun h j hj => by
        by_cases e : j = k
        · rw [e]; exact h
        · exact Hall.out j (by omega)
      generalize ps.getD k 0 = x at *
      have hcall := l01In_c wr x 0 1
      generalize inB x 0 1 = q at *
      cases q with
      | true =>
        have HH := Lib.hid (Hgo.out rfl)
        go_wp2_with fail
        refine Calls.mono hcall ?_
        rintro e w2 ⟨rfl, hd2⟩
        clear hcall
        go_wp2_with fail
        go_roundw
        case rel => exact ⟨k+1, by omega, by go_num, HH.out, hd.trans hd2⟩
        case measure => simp [intOf]; omega
      | false =>
        have HH := Lib.hid (Hno.out rfl)
        go_wp2_with fail
        refine Calls.mono hcall ?_
        rintro e w2 ⟨rfl, hd2⟩
        clear hcall
        go_wp2_with fail
        go_ret
        exact ⟨ret_bool' HH.out, hd.trans hd2⟩
    · have HH : Hid (res = ((n : Int) == (m : Int))) := by
        show _ = _
        rw [H2.out (fun i hi => Hall.out i (by have := Hn.out; omega)), ← Hn.out]
        by_cases e : n = m
        · subst e; simp
        · rw [decide_eq_false e]; symm; rw [beq_eq_false_iff_ne]; omega
      go_wp2_with fail
      go_ret
      exact ⟨ret_bool' HH.out, hd⟩

theorem rowCode_key {mk : MK} {t cuts : List (List Int)} {row key : List Int} (h : designCode mk t cuts = 0) : rowCode mk t cuts row [key] = if keyFault mk key = 0 then rowCode mk t cuts row [] else 2 := by
  have e1 : areKeysB mk [key] = isKeyB mk key := by unfold areKeysB; simp
  have e2 : areKeysB mk [] = true := rfl
  by_cases hk : keyFault mk key = 0
  · have e3 : isKeyB mk key = true := decide_eq_true hk
    rw [if_pos hk]
    cases hr : rowOk t row with
    | false => rw [rowCode_range h (by rw [hr]; rfl), rowCode_range h (by rw [hr]; rfl)]
    | true => rw [rowCode_ok h (by rw [hr, e1, e3]; rfl), rowCode_ok h (by rw [hr, e2]; rfl)]
  · have e3 : isKeyB mk key = false := decide_eq_false hk
    rw [if_neg hk, rowCode_range h (by rw [e1, e3, Bool.and_false])]
end Go.Proofs.YthgmojggpjnckaaGreat
