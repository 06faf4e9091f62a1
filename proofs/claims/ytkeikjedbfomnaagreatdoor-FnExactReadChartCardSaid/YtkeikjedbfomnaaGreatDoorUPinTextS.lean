/- Proved: the text of pins, the reference. -/
import Derived.Test.YtkeikjedbfomnaaGreatDoorChecked
import Derived.Deep.RegionHeld3
import Derived.Test.YtkeikjedbfomnaaGreatDoorUPinText
import Derived.Test.YtkeikjedbfomnaaGreatDoorUPinsSpec
namespace Go.Proofs.YtkeikjedbfomnaaGreatDoor
open Go.ChangeShapes Go.WideShapes Go.ChangeAt Go.RowKit
set_option linter.unusedVariables false

/-- what stands in front of stack i, and its first k numbers -/
def pinQ (ps : List (List Int)) (i k : Nat) : List UInt8 := (if i = 0 then [] else pinsD (ps.take i) ++ [32]) ++ stackD ((ps.getD i []).take k)
theorem take_snocG {α : Type} (d : α) (xs : List α) {k : Nat} (h : k < xs.length) : xs.take (k + 1) = xs.take k ++ [xs.getD k d] := by
  rw [List.take_add_one, List.getElem?_eq_getElem h]
  simp [h]
theorem pinsD_snoc (ps : List (List Int)) {i : Nat} (h : i < ps.length) : pinsD (ps.take (i + 1)) = if i = 0 then stackD (ps.getD i []) else pinsD (ps.take i) ++ ([32] ++ stackD (ps.getD i [])) := by
  unfold pinsD
  rw [take_snocG [] ps h, List.map_append]
  show Lib.join ((ps.take i).map stackD ++ [stackD (ps.getD i [])]) [32] = _
  rw [join_snoc]
  by_cases hi : i = 0
  · subst hi; rfl
  · rw [if_neg hi, if_neg (by simp; exact ⟨hi, fun e => by rw [e] at h; simp at h⟩)]
    rfl
theorem stackD_snoc (st : List Int) {k : Nat} (h : k < st.length) : stackD (st.take (k + 1)) = if k = 0 then numD (st.getD k 0) else stackD (st.take k) ++ ([43] ++ numD (st.getD k 0)) := by
  unfold stackD joinI
  rw [take_snocG 0 st h, List.map_append]
  show Lib.join ((st.take k).map numD ++ [numD (st.getD k 0)]) [43] = _
  rw [join_snoc]
  by_cases hi : k = 0
  · subst hi; rfl
  · rw [if_neg hi, if_neg (by simp; exact ⟨hi, fun e => by rw [e] at h; simp at h⟩)]
theorem pinQ_zero (ps : List (List Int)) : strOf (pinQ ps 0 0) = strOf (pinsD (ps.take 0)) := rfl
theorem pinQ_start (ps : List (List Int)) {i : Nat} (h : i ≠ 0) : strOf (pinsD (ps.take i)) ++ (⟨#[32]⟩ : ByteArray) = strOf (pinQ ps i 0) := by
  have e : (⟨#[32]⟩ : ByteArray) = strOf [32] := rfl
  rw [e, strOf_app]
  unfold pinQ
  rw [if_neg h]
  have e2 : stackD ((ps.getD i []).take 0) = [] := rfl
  rw [e2, List.append_nil]
theorem pinQ_first (ps : List (List Int)) {i : Nat} (h : 0 < (ps.getD i []).length) : strOf (pinQ ps i 0) ++ strOf (numD ((ps.getD i []).getD 0 0)) = strOf (pinQ ps i 1) := by
  rw [strOf_app]
  unfold pinQ
  rw [show (1 : Nat) = 0 + 1 from rfl, stackD_snoc _ h, if_pos rfl]
  have e2 : stackD ((ps.getD i []).take 0) = [] := rfl
  rw [e2, List.append_nil]
theorem pinQ_next (ps : List (List Int)) {i k : Nat} (h0 : k ≠ 0) (h : k < (ps.getD i []).length) : (strOf (pinQ ps i k) ++ (⟨#[43]⟩ : ByteArray)) ++ strOf (numD ((ps.getD i []).getD k 0)) = strOf (pinQ ps i (k + 1)) := by
  have e : (⟨#[43]⟩ : ByteArray) = strOf [43] := rfl
  rw [e, strOf_app, strOf_app]
  unfold pinQ
  rw [stackD_snoc _ h, if_neg h0]
  simp [List.append_assoc]
theorem pinQ_end (ps : List (List Int)) {i : Nat} (h : i < ps.length) : strOf (pinQ ps i (ps.getD i []).length) = strOf (pinsD (ps.take (i + 1))) := by
  unfold pinQ
  rw [pinsD_snoc ps h, List.take_length]
  by_cases hi : i = 0
  · rw [if_pos hi, if_pos hi, List.nil_append]
  · rw [if_neg hi, if_neg hi, List.append_assoc]
theorem pinR_len {ps : List (List Int)} (ok : PinsOk ps) (i : Nat) : (strOf (pinsD (ps.take i))).size ≤ 114 := by
  rw [strOf_size]
  refine pinsD_len ⟨?_, fun k hk => ?_, fun k hk x hx => ?_⟩
  · have := ok.len; rw [List.length_take]; omega
  · rw [List.length_take] at hk
    have e : (ps.take i).getD k [] = ps.getD k [] := getD_take ps [] (by omega)
    rw [e]; exact ok.row k (by omega)
  · rw [List.length_take] at hk
    have e : (ps.take i).getD k [] = ps.getD k [] := getD_take ps [] (by omega)
    rw [e] at hx; exact ok.dig k (by omega) x hx
theorem pinQ_len {ps : List (List Int)} (ok : PinsOk ps) {i : Nat} (hi : i < ps.length) (k : Nat) : (strOf (pinQ ps i k)).size ≤ 133 := by
  have h1 := pinR_len ok i
  rw [strOf_size] at h1 ⊢
  have h2 : (stackD ((ps.getD i []).take k)).length ≤ 18 := stackD_len (by have := ok.row i hi; rw [List.length_take]; omega) (fun x hx => ok.dig i hi x (List.mem_of_mem_take hx))
  unfold pinQ
  rw [List.length_append]
  by_cases h : i = 0
  · rw [if_pos h]; simp only [List.length_nil]; omega
  · rw [if_neg h, List.length_append, List.length_singleton]; omega

set_option maxRecDepth 20000 in
set_option maxHeartbeats 2000000 in
theorem l05Text_c (w : World) (v : Value) (z : Zone) (ps : List (List Int)) (h : RowsR z w v ps) (ok : PinsOk ps) :
    Calls Tryz.prog 73 #[v] w (Ret w fun r _ => r = .string (strOf (pinsD ps))) := by
  have HD := Lib.hid (fun (i k : Nat) (hi : i < ps.length) (hk : k < (ps.getD i []).length) (w' : World) => by
    have hx := ok.dig i hi ((ps.getD i []).getD k 0) (by rw [List.getD_eq_getElem?_getD (l := ps.getD i []), List.getElem?_eq_getElem hk]; exact List.getElem_mem hk)
    have := l01Dec_c ((ps.getD i []).getD k 0).toNat w' (by omega)
    rw [Int.toNat_of_nonneg hx.1] at this
    exact (show Calls Tryz.prog 67 #[.int .i64 ((ps.getD i []).getD k 0)] w' (Ret w' fun r _ => r = .string (strOf (numD ((ps.getD i []).getD k 0)))) from this))
  have HNz : Hid (∀ i k, i < ps.length → k < (ps.getD i []).length → (strOf (numD ((ps.getD i []).getD k 0))).size = 1) := fun i k hi hk => by
    rw [strOf_size]
    exact numD_one (ok.dig i hi _ (by rw [List.getD_eq_getElem?_getD (l := ps.getD i []), List.getElem?_eq_getElem hk]; exact List.getElem_mem hk))
  have HZ := Lib.hid (pinQ_zero ps)
  have HSt := Lib.hid (fun (i : Nat) (h : i ≠ 0) => pinQ_start ps h)
  have HF := Lib.hid (fun (i : Nat) (h : 0 < (ps.getD i []).length) => pinQ_first ps h)
  have HNx := Lib.hid (fun (i k : Nat) (h0 : k ≠ 0) (h : k < (ps.getD i []).length) => pinQ_next ps h0 h)
  have HEn := Lib.hid (fun (i : Nat) (h : i < ps.length) => pinQ_end ps h)
  have HRl := Lib.hid (fun (i : Nat) => pinR_len ok i)
  have HQl := Lib.hid (fun (i k : Nat) (hi : i < ps.length) => pinQ_len ok hi k)
  have HRow := Lib.hid (fun (i : Nat) (hi : i < ps.length) => ok.row i hi)
  have HR : Hid (strOf (pinsD (ps.take ps.length)) = strOf (pinsD ps)) := by show _ = _; rw [List.take_length]
  have H0 : Hid (strOf (pinsD (ps.take 0)) = ⟨#[]⟩) := rfl
  have hp6 := ok.len
  generalize strOf (pinsD ps) = res at *
  generalize hrr : (fun i => strOf (pinsD (ps.take i))) = R at *
  have HER : Hid (∀ i, strOf (pinsD (ps.take i)) = R i) := fun i => by rw [← hrr]
  clear hrr
  generalize hqq : (fun i k => strOf (pinQ ps i k)) = Q at *
  have HEQ : Hid (∀ i k, strOf (pinQ ps i k) = Q i k) := fun i k => by rw [← hqq]
  clear hqq
  obtain ⟨a, n, cap, rfl, hn, -⟩ := SliceR.shape h
  have HT := Lib.hid (fun (k : Nat) (hk : k < n) => rows_at h hk)
  rw [← hn] at HD HNz HEn HQl HRow HR hp6
  clear h ok hn
  go_enter Tryz.func73, Tryz.ntmps73
  go_wp2_with fail
  go_loopw [3, 4, 5] (fun s3 s4 _ wr => ∃ i : Nat, i ≤ n ∧ s4 = .int .i64 (i : Int) ∧ s3 = .string (R i) ∧ Ext w wr) (fun _ s4 _ _ => n - (intOf s4).toNat)
  case atStart => exact ⟨0, Nat.zero_le _, rfl, by rw [← HER.out, H0.out], Ext.refl _⟩
  case round =>
    obtain ⟨i, hi, rfl, rfl, ew⟩ := hrel
    by_cases hlt : i < n
    · obtain ⟨b, off, rfl, a1, n1, c1, hn1, hm1, -, hc1, -, hel⟩ := HT.out i hlt
      have HC1 := Lib.hid hc1
      have HEl := Lib.hid hel
      have HDi := Lib.hid (fun (k : Nat) (hk : k < n1) (w' : World) => HD.out i k hlt (by omega) w')
      have HNi := Lib.hid (fun (k : Nat) (hk : k < n1) => HNz.out i k hlt (by omega))
      have HFi := Lib.hid (fun (hk : 0 < n1) => HF.out i (by omega))
      have HXi := Lib.hid (fun (k : Nat) (h0 : k ≠ 0) (hk : k < n1) => HNx.out i k h0 (by omega))
      have hen := HEn.out i hlt
      rw [← hn1, HEQ.out, HER.out] at hen
      have HEi := Lib.hid hen
      have HQi := Lib.hid (fun (k : Nat) => HQl.out i k hlt)
      have hrl := HRl.out i
      rw [HER.out] at hrl
      have hrow : n1 ≤ 9 := by have := HRow.out i hlt; omega
      obtain ⟨wo, rfl⟩ : ∃ wo, wo = wr := ⟨_, rfl⟩
      have Hst : Hid (i ≠ 0 → R i ++ (⟨#[32]⟩ : ByteArray) = Q i 0) := fun h => by rw [← HER.out, ← HEQ.out]; exact HSt.out i h
      have Hst0 : Hid (i = 0 → R i = Q i 0) := fun h => by rw [h, ← HER.out, ← HEQ.out]; exact HZ.out.symm
      clear HD HNz HF HNx HEn HQl HRl HRow hc1 hel hn1 hen HSt HZ
      have hs1 : ¬ (9223372036854775807 < (R i).size + 1) := by omega
      by_cases hi0 : i = 0
      focus
        have hbi : decide ((0 : Int) < (i : Int)) = false := decide_eq_false (by omega)
        have hbn : decide (0 < i) = false := decide_eq_false (by omega)
        have HS0 := Lib.hid (Hst0.out hi0)
        clear hi0 Hst Hst0
        go_wp2_with fail
      rotate_left
      focus
        have hbi : decide ((0 : Int) < (i : Int)) = true := decide_eq_true (by omega)
        have hbn : decide (0 < i) = true := decide_eq_true (by omega)
        have HS0 := Lib.hid (Hst.out hi0)
        clear hi0 Hst Hst0
        go_wp2_with fail
      all_goals
        go_loopw [3, 5] (fun s3 s5 wr => ∃ k : Nat, k ≤ n1 ∧ s5 = .int .i64 (k : Int) ∧ s3 = .string (Q i k) ∧ Ext wo wr) (fun _ s5 _ => n1 - (intOf s5).toNat)
        case atStart => exact ⟨0, Nat.zero_le _, by go_num, by rw [← HS0.out], Ext.refl _⟩
        case round =>
          obtain ⟨k, hk, rfl, rfl, ew2⟩ := hrel
          have hcx := HC1.out wr (ew.trans ew2)
          have hq := HQi.out k
          rw [HEQ.out] at hq
          by_cases hlk : k < n1
          · obtain ⟨b1, o1, rfl, -, hcy⟩ := HEl.out k hlk
            replace hcy := hcy wr (ew.trans ew2)
            have HDk := Lib.hid (HDi.out k hlk wr)
            have hnz := HNi.out k hlk
            have hs2 : ¬ (9223372036854775807 < (Q i k).size + 1) := by omega
            have Hfst : Hid (k = 0 → Q i k ++ strOf (numD ((ps.getD i []).getD k 0)) = Q i (k + 1)) := fun h => by subst h; rw [← HEQ.out, ← HEQ.out]; exact HFi.out (by omega)
            have Hnxt : Hid (k ≠ 0 → (Q i k ++ (⟨#[43]⟩ : ByteArray)) ++ strOf (numD ((ps.getD i []).getD k 0)) = Q i (k + 1)) := fun h => by rw [← HEQ.out, ← HEQ.out]; exact HXi.out k h hlk
            generalize strOf (numD ((ps.getD i []).getD k 0)) = sk at *
            generalize (ps.getD i []).getD k 0 = x at *
            by_cases hk0 : k = 0
            · have hbk : decide ((0 : Int) < (k : Int)) = false := decide_eq_false (by omega)
              have hbn2 : decide (0 < k) = false := decide_eq_false (by omega)
              have HH := Lib.hid (Hfst.out hk0)
              have hs3 : ¬ (9223372036854775807 < (Q i k).size + sk.size) := by omega
              clear Hfst Hnxt hk0
              go_wp2_with fail
              refine Calls.mono HDk.out ?_
              rintro e w4 hr
              obtain ⟨r, rfl, rfl, e4⟩ := ret_ext hr
              clear hr
              go_wp2_with fail
              go_roundw
              case rel => exact ⟨k + 1, by omega, by go_num, by rw [← HH.out], ew2.trans e4⟩
              case measure => simp [intOf]; omega
            · have hbk : decide ((0 : Int) < (k : Int)) = true := decide_eq_true (by omega)
              have hbn2 : decide (0 < k) = true := decide_eq_true (by omega)
              have HH := Lib.hid (Hnxt.out hk0)
              have hs3 : ¬ (9223372036854775807 < (Q i k).size + 1 + sk.size) := by omega
              clear Hfst Hnxt hk0
              go_wp2_with fail
              refine Calls.mono HDk.out ?_
              rintro e w4 hr
              obtain ⟨r, rfl, rfl, e4⟩ := ret_ext hr
              clear hr
              go_wp2_with fail
              go_roundw
              case rel => exact ⟨k + 1, by omega, by go_num, by rw [← HH.out], ew2.trans e4⟩
              case measure => simp [intOf]; omega
          · have hkn : k = n1 := by omega
            subst hkn
            go_wp2_with fail
            go_roundw
            case rel => exact ⟨i + 1, by omega, by go_num, by rw [← HEi.out], ew.trans ew2⟩
            case measure => simp [intOf]; omega
    · have hin : i = n := by omega
      subst hin
      have HRr := HR.out
      rw [HER.out] at HRr
      have HH := Lib.hid HRr
      clear HRr
      go_wp2_with fail
      go_ret
      exact ⟨_, rfl, by rw [← HH.out]; rfl, ew⟩
end Go.Proofs.YtkeikjedbfomnaaGreatDoor
