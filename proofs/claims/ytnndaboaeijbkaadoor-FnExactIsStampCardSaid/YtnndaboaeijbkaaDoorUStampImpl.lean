/- Proved: the text of a stamp, the program. -/
import Derived.Test.YtnndaboaeijbkaaDoorChecked
import Derived.Laws.Runes
import Derived.Test.YtnndaboaeijbkaaDoorUStampLaw
import Derived.Test.YtnndaboaeijbkaaDoorURepLay
import Derived.Test.YtnndaboaeijbkaaDoorUPkW
namespace Go.Proofs.YtnndaboaeijbkaaDoor
open Go.ChangeShapes Go.WideShapes Go.ChangeAt Go.RowKit
set_option linter.unusedVariables false

theorem padV_cat (n k : Nat) : padV n k = .string ((⟨(List.replicate (k - (Lib.decDigits n).length) 48).toArray⟩ : ByteArray) ++ ⟨(Lib.decDigits n).toArray⟩) := by
  unfold padV padD
  congr 1

set_option maxRecDepth 20000 in
set_option maxHeartbeats 1000000 in
theorem digitsText_c (w : World) (hT : Pow10 w) (n k : Nat) (h : n ≤ 1000000000) (hk : k ≤ 1000000) : Calls Tryd.prog 43 #[.int .i64 (n : Nat), .int .i64 (k : Nat)] w (Ret w fun r _ => r = padV n k) := by
  have HF := Lib.hid (text_c w hT n h)
  have HR := Lib.hid (fun (w' : World) => rep_c w' (k - (Lib.decDigits n).length) (by omega))
  have hL := dec_len n
  have HP := Lib.hid (padV_cat n k)
  unfold numText at HF
  obtain ⟨tx, htx⟩ : ∃ tx : ByteArray, ⟨(Lib.decDigits n).toArray⟩ = tx := ⟨_, rfl⟩
  obtain ⟨rx, hrx⟩ : ∃ rx : ByteArray, ⟨(List.replicate (k - (Lib.decDigits n).length) 48).toArray⟩ = rx := ⟨_, rfl⟩
  have htz : tx.size = (Lib.decDigits n).length := by rw [← htx]; show (Lib.decDigits n).toArray.size = _; simp
  have hrz : rx.size = k - (Lib.decDigits n).length := by rw [← hrx]; show (List.replicate _ (48 : UInt8)).toArray.size = _; simp
  rw [htx] at HF HP
  rw [hrx] at HR HP
  clear htx hrx hT
  generalize padV n k = res at *
  generalize (Lib.decDigits n).length = L at *
  have hsum : ¬ (9223372036854775807 < rx.size + tx.size) := by omega
  by_cases hle : L ≤ k
  · obtain ⟨d, hd⟩ : ∃ d, d = k - L := ⟨_, rfl⟩
    rw [← hd] at HR
    have hwr : IntKind.i64.wrap ((k : Int) - (tx.size : Int)) = (d : Int) := by rw [IntWalk.i64_in _ (by omega)]; omega
    have hmx : (if (d : Int) > 0 then (d : Int) else 0) = (d : Int) := by split <;> omega
    have hm2 : (if 0 < d then (d : Int) else 0) = (d : Int) := by split <;> omega
    clear hd htz hrz hle hL h hk
    go_enter Tryd.func43, Tryd.ntmps43
    go_wp2_with fail
    refine Calls.mono HF.out ?_
    rintro e w1 hr
    obtain ⟨r, rfl, rfl, e1⟩ := ret_ext hr
    clear hr
    go_wp2_with fail
    refine Calls.mono (HR.out w1) ?_
    rintro e w2 hr
    obtain ⟨r, rfl, rfl, e2⟩ := ret_ext hr
    clear hr
    go_wp2_with fail
    go_ret
    exact ⟨_, rfl, HP.out.symm, e1.trans e2⟩
  · have hd : ((k - L : Nat) : Int) = 0 := by omega
    rw [hd] at HR
    have hwr : IntKind.i64.wrap ((k : Int) - (tx.size : Int)) = (k : Int) - (tx.size : Int) := by rw [IntWalk.i64_in _ (by omega)]
    have hmx : max 0 ((k : Int) - (L : Int)) = 0 := by omega
    clear hd hrz hL h hk hle
    go_enter Tryd.func43, Tryd.ntmps43
    go_wp2_with fail
    refine Calls.mono HF.out ?_
    rintro e w1 hr
    obtain ⟨r, rfl, rfl, e1⟩ := ret_ext hr
    clear hr
    go_wp2_with fail
    refine Calls.mono (HR.out w1) ?_
    rintro e w2 hr
    obtain ⟨r, rfl, rfl, e2⟩ := ret_ext hr
    clear hr
    go_wp2_with fail
    go_ret
    exact ⟨_, rfl, HP.out.symm, e1.trans e2⟩

theorem letter_enc {m : Nat} (h : m ≤ 25) : Utf8.encode (65 + (m : Int)) = ⟨#[UInt8.ofNat (65 + m)]⟩ := by
  unfold Utf8.encode
  have hv : Utf8.valid (65 + (m : Int)) = true := by unfold Utf8.valid; simp; omega
  rw [hv]
  have ht : (65 + (m : Int)).toNat = 65 + m := by omega
  simp only [ht, if_true]
  rw [if_pos (by omega)]
theorem stampV_cat (W ser num : Nat) : ∃ a b c : ByteArray, (⟨#[UInt8.ofNat (65 + ser)]⟩ : ByteArray) = a ∧ padV num W = .string b ∧ padV ((100 * num + ser) % 97) 2 = .string c ∧ b.size = (padD num W).length ∧ c.size = (padD ((100 * num + ser) % 97) 2).length ∧ stampV W ser num = .string (((a ++ b) ++ ⟨#[45]⟩) ++ c) := by
  refine ⟨_, ⟨(padD num W).toArray⟩, ⟨(padD ((100 * num + ser) % 97) 2).toArray⟩, rfl, rfl, rfl, by simp [ByteArray.size], by simp [ByteArray.size], ?_⟩
  unfold stampV stampD
  congr 1
  apply ByteArray.ext
  rw [ByteArray.data_append, ByteArray.data_append, ByteArray.data_append]
  apply Array.toList_inj.1
  simp
theorem checkOf_c (w : World) (ser num : Nat) (hs : ser ≤ 25) (hn : num ≤ 1000000) : Calls Tryd.prog 44 #[.int .i64 (ser : Int), .int .i64 (num : Int)] w (RetQ w (.int .i64 (((100 * num + ser) % 97 : Nat) : Int))) := by
  have h1 : IntKind.i64.wrap (100 * (num : Int)) = 100 * (num : Int) := IntWalk.i64_in _ (by omega)
  have h2 : IntKind.i64.wrap (100 * (num : Int) + (ser : Int)) = 100 * (num : Int) + (ser : Int) := IntWalk.i64_in _ (by omega)
  have h3 : (100 * (num : Int) + (ser : Int)).tmod 97 = (((100 * num + ser) % 97 : Nat) : Int) := by rw [Int.tmod_eq_emod_of_nonneg (by omega)]; omega
  have h4 : IntKind.i64.wrap (((100 * num + ser) % 97 : Nat) : Int) = (((100 * num + ser) % 97 : Nat) : Int) := IntWalk.i64_in _ (by omega)
  go_enter Tryd.func44, Tryd.ntmps44
  go_wp2_with fail
  go_ret
  refine ⟨?_, Drew.refl _⟩
  show Ending.returned (Value.int .i64 ((100 * (num : Int) + (ser : Int)) % 97)) = _
  rw [show (100 * (num : Int) + (ser : Int)) % 97 = (((100 * num + ser) % 97 : Nat) : Int) by omega]

set_option maxRecDepth 20000 in
set_option maxHeartbeats 1000000 in
theorem stampText_c (w : World) (hT : Pow10 w) (N ser num : Nat) (hN : N ≤ 262144) (hs : ser ≤ 25) (hn : num ≤ 262144) : Calls Tryd.prog 29 #[.int .i64 (N : Int), .int .i64 (ser : Int), .int .i64 (num : Int)] w (Ret w fun r _ => r = stampV (Lib.decDigits N).length ser num) := by
  have HTx := Lib.hid (fun (w' : World) (e : Ext w w') => text_c w' (hT.ext e) N (by omega))
  have HD1 := Lib.hid (fun (w' : World) (e : Ext w w') => digitsText_c w' (hT.ext e) num (Lib.decDigits N).length (by omega) (by have := dec_le6 (n := N) (by omega); omega))
  have HD2 := Lib.hid (fun (w' : World) (e : Ext w w') => digitsText_c w' (hT.ext e) ((100 * num + ser) % 97) 2 (by omega) (by omega))
  have HC := Lib.hid (fun (w' : World) => checkOf_c w' ser num hs (by omega))
  have henc := letter_enc hs
  have hW6 := dec_le6 (n := N) (by omega)
  have hpl : (padD num (Lib.decDigits N).length).length ≤ 10 := by
    have h6 := dec_le6 (n := num) (by omega)
    unfold padD; rw [List.length_append, List.length_replicate]; omega
  have hcl : (padD ((100 * num + ser) % 97) 2).length ≤ 2 := by
    have h6 := dec_le2 (n := (100 * num + ser) % 97) (by omega)
    unfold padD; rw [List.length_append, List.length_replicate]; omega
  obtain ⟨a, b, c, ha, hb, hc, hbz, hcz, hst⟩ := stampV_cat (Lib.decDigits N).length ser num
  have haz : a.size = 1 := by rw [← ha]; rfl
  obtain ⟨tx, htx, htz⟩ := num_len N
  rw [htx] at HTx
  rw [hb] at HD1
  rw [hc] at HD2
  rw [ha] at henc
  have HS := Lib.hid hst
  clear ha hb hc htx hst hT
  generalize stampV (Lib.decDigits N).length ser num = res at *
  generalize (Lib.decDigits N).length = W at *
  generalize (100 * num + ser) % 97 = ck at *
  have h2c : ((2 : Nat) : Int) = 2 := rfl
  rw [h2c] at HD2
  have h1 : IntKind.i64.wrap (65 + (ser : Int)) = 65 + (ser : Int) := IntWalk.i64_in _ (by omega)
  have h1r : IntKind.i32.wrap (65 + (ser : Int)) = 65 + (ser : Int) := IntWalk.i32_in _ (by omega)
  have hs1 : ¬ (9223372036854775807 < a.size + b.size) := by omega
  have hs2 : ¬ (9223372036854775807 < a.size + b.size + 1) := by omega
  have hs3 : ¬ (9223372036854775807 < a.size + b.size + 1 + c.size) := by omega
  rw [← htz] at HD1
  clear hpl hcl hbz hcz haz h2c hW6 hN hn hs htz
  go_enter Tryd.func29, Tryd.ntmps29
  go_wp2_with fail
  refine Calls.mono (HTx.out w (Ext.refl _)) ?_
  rintro e w1 hr
  obtain ⟨r, rfl, rfl, e1⟩ := ret_ext hr
  clear hr
  go_wp2_with fail
  refine Calls.mono (HD1.out w1 e1) ?_
  rintro e w2 hr
  obtain ⟨r, rfl, rfl, e2⟩ := ret_ext hr
  clear hr
  have et2 := e1.trans e2
  go_wp2_with fail
  refine Calls.mono (HC.out w2) ?_
  rintro e w3 hr
  obtain ⟨rfl, -, e3⟩ := retq_ext hr
  clear hr
  have et3 := et2.trans e3
  go_wp2_with fail
  refine Calls.mono (HD2.out w3 et3) ?_
  rintro e w4 hr
  obtain ⟨r, rfl, rfl, e4⟩ := ret_ext hr
  clear hr
  have et4 := et3.trans e4
  go_wp2_with fail
  go_ret
  exact ⟨_, rfl, HS.out.symm, et4⟩
end Go.Proofs.YtnndaboaeijbkaaDoor
