/- Proved: the text of a stamp, the reference. -/
import Derived.Test.YtnndaboaeijbkaaDoorChecked
import Derived.Deep.RegionHeld3
import Derived.Deep.RegionLaw
import Derived.Test.YtnndaboaeijbkaaDoorUStampImpl
namespace Go.Proofs.YtnndaboaeijbkaaDoor
open Go.ChangeShapes Go.WideShapes Go.ChangeAt Go.RowKit
set_option linter.unusedVariables false

def padI (n i : Nat) : ByteArray := ⟨(List.replicate i 48 ++ Lib.decDigits n).toArray⟩
theorem padI_size (n i : Nat) : (padI n i).size = i + (Lib.decDigits n).length := by
  unfold padI
  show (List.replicate i (48 : UInt8) ++ Lib.decDigits n).toArray.size = _
  simp
theorem padI_succ (n i : Nat) : (⟨#[48]⟩ : ByteArray) ++ padI n i = padI n (i + 1) := by
  apply ByteArray.ext
  rw [ByteArray.data_append]
  unfold padI
  apply Array.toList_inj.1
  simp [List.replicate_succ]

set_option maxRecDepth 20000 in
set_option maxHeartbeats 1000000 in
theorem l28Pad_c (w : World) (n k : Nat) (h : n ≤ 1000000000) (hk : k ≤ 1000000) : Calls Tryd.prog 47 #[.int .i64 (n : Nat), .int .i64 (k : Nat)] w (Ret w fun r _ => r = padV n k) := by
  have HF := Lib.hid (l01Dec_c n w h)
  have h0 : numText n = .string (padI n 0) := rfl
  have HP : Hid (padV n k = .string (padI n (k - (Lib.decDigits n).length))) := rfl
  rw [h0] at HF
  have HZ := Lib.hid (fun i => padI_size n i)
  have HC := Lib.hid (fun i => padI_succ n i)
  have hL := dec_len n
  clear h0
  generalize padV n k = res at *
  generalize padI n = pI at *
  generalize (Lib.decDigits n).length = L at *
  go_enter Tryd.func47, Tryd.ntmps47
  go_wp2_with fail
  refine Calls.mono HF.out ?_
  rintro e w1 hr
  obtain ⟨r, rfl, rfl, e1⟩ := ret_ext hr
  clear hr
  go_wp2_with fail
  go_loopw [5] (fun s5 wr => ∃ i : Nat, i ≤ k - L ∧ s5 = .string (pI i) ∧ Ext w wr) (fun s5 _ => k - (textOf s5).size)
  case atStart => exact ⟨0, Nat.zero_le _, rfl, e1⟩
  case round =>
    obtain ⟨i, hi, rfl, ew⟩ := hrel
    have hz := HZ.out i
    have hz1 := HZ.out (i + 1)
    have hc := HC.out i
    by_cases hlt : (pI i).size < k
    · have hb : decide (((pI i).size : Int) < (k : Int)) = true := decide_eq_true (by omega)
      have hs : ¬ (9223372036854775807 < 1 + (pI i).size) := by omega
      have Hlt := Lib.hid hlt
      have Hz := Lib.hid hz
      have Hz1 := Lib.hid hz1
      have Hc := Lib.hid hc
      clear hz hz1 hc hlt
      go_wp2_with fail
      go_roundw
      case measure => (show k - (textOf (.string ((⟨#[48]⟩ : ByteArray) ++ pI i))).size < k - (textOf (.string (pI i))).size; rw [Hc.out]; show k - (pI (i + 1)).size < k - (pI i).size; have := Hz.out; have := Hz1.out; have := Hlt.out; omega)
      case rel => exact ⟨i + 1, by have := Hz.out; have := Hlt.out; omega, by rw [← Hc.out], ew⟩
    · have hb : decide (((pI i).size : Int) < (k : Int)) = false := decide_eq_false (by omega)
      have hb2 : decide ((pI i).size < k) = false := decide_eq_false hlt
      have hi2 : i = k - L := by omega
      subst hi2
      clear hz hz1 hc hlt
      go_wp2_with fail
      go_ret
      exact ⟨_, rfl, HP.out.symm, ew⟩

theorem l28Check_c (w : World) (ser num : Nat) (hs : ser ≤ 25) (hn : num ≤ 1000000) : Calls Tryd.prog 48 #[.int .i64 (ser : Int), .int .i64 (num : Int)] w (RetQ w (.int .i64 (((100 * num + ser) % 97 : Nat) : Int))) := by
  have h1 : IntKind.i64.wrap (100 * (num : Int)) = 100 * (num : Int) := IntWalk.i64_in _ (by omega)
  have h2 : IntKind.i64.wrap (100 * (num : Int) + (ser : Int)) = 100 * (num : Int) + (ser : Int) := IntWalk.i64_in _ (by omega)
  have h3 : (100 * (num : Int) + (ser : Int)).tmod 97 = (((100 * num + ser) % 97 : Nat) : Int) := by rw [Int.tmod_eq_emod_of_nonneg (by omega)]; omega
  have h4 : IntKind.i64.wrap (((100 * num + ser) % 97 : Nat) : Int) = (((100 * num + ser) % 97 : Nat) : Int) := IntWalk.i64_in _ (by omega)
  go_enter Tryd.func48, Tryd.ntmps48
  go_wp2_with fail
  go_ret
  refine ⟨?_, Drew.refl _⟩
  show Ending.returned (Value.int .i64 ((100 * (num : Int) + (ser : Int)) % 97)) = _
  rw [show (100 * (num : Int) + (ser : Int)) % 97 = (((100 * num + ser) % 97 : Nat) : Int) by omega]

set_option maxRecDepth 20000 in
set_option maxHeartbeats 2000000 in
theorem l28Text_c (w : World) (mk : MK) (ok : MkOk mk) (ser num : Nat) (hs : ser ≤ 25) (hn : num ≤ 262144) : Calls Tryd.prog 31 #[mk.v, .int .i64 (ser : Int), .int .i64 (num : Int)] w (Ret w fun r _ => r = stampV (lenM mk) ser num) := by
  have HDi := Lib.hid (fun (w' : World) => l28Digits_c w' mk ok)
  have hW6 : lenM mk ≤ 6 := dec_le6 (by have := countM_le ok; omega)
  have HD1 := Lib.hid (fun (w' : World) => l28Pad_c w' num (lenM mk) (by omega) (by omega))
  have HD2 := Lib.hid (fun (w' : World) => l28Pad_c w' ((100 * num + ser) % 97) 2 (by omega) (by omega))
  have HC := Lib.hid (fun (w' : World) => l28Check_c w' ser num hs (by omega))
  have hpl : (padD num (lenM mk)).length ≤ 12 := by
    have h6 := dec_le6 (n := num) (by omega)
    unfold padD; rw [List.length_append, List.length_replicate]; omega
  have hcl : (padD ((100 * num + ser) % 97) 2).length ≤ 2 := by
    have h6 := dec_le2 (n := (100 * num + ser) % 97) (by omega)
    unfold padD; rw [List.length_append, List.length_replicate]; omega
  obtain ⟨a, b, c, ha, hb, hc, hbz, hcz, hst⟩ := stampV_cat (lenM mk) ser num
  have haz : a.size = 1 := by rw [← ha]; rfl
  have kc2 := fun (w' : World) (g : Nat) (hc : w'.cell? ⟨g, 0, none⟩ = some (.int .u8 (65 + (ser : Int)))) => conv_at w' g (65 + (ser : Int)) (65 + ser) (by omega) (by omega) hc
  unfold oneByte at kc2
  rw [hb] at HD1
  rw [hc] at HD2
  rw [ha] at kc2
  have HS := Lib.hid hst
  clear ha hb hc hst ok
  generalize stampV (lenM mk) ser num = res at *
  generalize lenM mk = W at *
  generalize (100 * num + ser) % 97 = ck at *
  have h2c : ((2 : Nat) : Int) = 2 := rfl
  rw [h2c] at HD2
  have h1 : IntKind.i64.wrap (65 + (ser : Int)) = 65 + (ser : Int) := IntWalk.i64_in _ (by omega)
  have h1r : IntKind.u8.wrap (65 + (ser : Int)) = 65 + (ser : Int) := IntWalk.u8_in _ (by omega)
  have hs1 : ¬ (9223372036854775807 < a.size + b.size) := by omega
  have hs2 : ¬ (9223372036854775807 < a.size + b.size + 1) := by omega
  have hs3 : ¬ (9223372036854775807 < a.size + b.size + 1 + c.size) := by omega
  obtain ⟨mc, md, ms, mm, ml⟩ := mk
  unfold MK.v at *
  clear hpl hcl hbz hcz haz h2c hW6 hn hs
  go_enter Tryd.func31, Tryd.ntmps31
  go_wp2_with fail
  generalize hw0 : World.alloc _ _ = w0
  obtain ⟨e0, S0⟩ := mk_box (mk := ⟨mc, md, ms, mm, ml⟩) hw0
  clear hw0
  have HCel : Hid (∀ w', Ext w0 w' → w'.cell? ⟨w.heap.size, 0, none⟩ = some (.int .i64 mc) ∧ w'.cell? ⟨w.heap.size, 1, none⟩ = some (.int .i64 md) ∧ w'.cell? ⟨w.heap.size, 2, none⟩ = some (.int .i64 ms) ∧ w'.cell? ⟨w.heap.size, 3, none⟩ = some (.int .i64 mm) ∧ w'.cell? ⟨w.heap.size, 4, none⟩ = some (.int .i64 ml)) := fun w' e => S0.ext e
  obtain ⟨c0, c1, c2, c3, c4⟩ := HCel.out w0 (Ext.refl _)
  have d0 := fun o => (Ext.alloc w0 o).cell c0
  have d1 := fun o => (Ext.alloc w0 o).cell c1
  have d2 := fun o => (Ext.alloc w0 o).cell c2
  have d3 := fun o => (Ext.alloc w0 o).cell c3
  have d4 := fun o => (Ext.alloc w0 o).cell c4
  have HA := Lib.hid (fun (w' : World) (g : Nat) (hc : w'.cell? ⟨g, 0, none⟩ = some (.int .u8 (65 + (ser : Int)))) => kc2 w' g hc)
  go_region_law (first | (go_simp; go_at_call 36; (with_reducible refine (HDi.out _).mono ?_); rintro e w7 hr7; obtain ⟨r7, rfl, rfl, e7⟩ := ret_ext hr7; clear hr7; have e07 : Ext w0 w7 := (by repeat (first | exact Ext.refl _ | assumption | (refine Ext.trans ?_ (Ext.alloc _ _)) | (refine Ext.trans ?_ (Ext.drew _)) | (refine Ext.trans ?_ (by assumption)))); (try ((have hccw7w0 : w7.cell? ⟨w0.heap.size, 0, none⟩ = some (.int .u8 (65 + (ser : Int))) := ?_; have kcw7w0 := HA.out w7 w0.heap.size hccw7w0; rotate_left; focus (refine e7.cell ?_; first | assumption | (simp; done)))))) | (go_simp; go_at_call 47; (with_reducible refine (HD1.out _).mono ?_); rintro e w8 hr8; obtain ⟨r8, rfl, rfl, e8⟩ := ret_ext hr8; clear hr8; have e08 : Ext w0 w8 := (by repeat (first | exact Ext.refl _ | assumption | (refine Ext.trans ?_ (Ext.alloc _ _)) | (refine Ext.trans ?_ (Ext.drew _)) | (refine Ext.trans ?_ (by assumption)))); (try ((have hccw8w0 : w8.cell? ⟨w0.heap.size, 0, none⟩ = some (.int .u8 (65 + (ser : Int))) := ?_; have kcw8w0 := HA.out w8 w0.heap.size hccw8w0; rotate_left; focus (refine e8.cell ?_; first | assumption | (simp; done))))); (try ((have hccw8w7 : w8.cell? ⟨w7.heap.size, 0, none⟩ = some (.int .u8 (65 + (ser : Int))) := ?_; have kcw8w7 := HA.out w8 w7.heap.size hccw8w7; rotate_left; focus (refine e8.cell ?_; first | assumption | (simp; done)))))) | (go_simp; go_at_call 48; (with_reducible refine (HC.out _).mono ?_); rintro e w9 hr9; obtain ⟨rfl, -, e9⟩ := retq_ext hr9; clear hr9; have e09 : Ext w0 w9 := (by repeat (first | exact Ext.refl _ | assumption | (refine Ext.trans ?_ (Ext.alloc _ _)) | (refine Ext.trans ?_ (Ext.drew _)) | (refine Ext.trans ?_ (by assumption)))); (try ((have hccw9w0 : w9.cell? ⟨w0.heap.size, 0, none⟩ = some (.int .u8 (65 + (ser : Int))) := ?_; have kcw9w0 := HA.out w9 w0.heap.size hccw9w0; rotate_left; focus (refine e9.cell ?_; first | assumption | (simp; done))))); (try ((have hccw9w7 : w9.cell? ⟨w7.heap.size, 0, none⟩ = some (.int .u8 (65 + (ser : Int))) := ?_; have kcw9w7 := HA.out w9 w7.heap.size hccw9w7; rotate_left; focus (refine e9.cell ?_; first | assumption | (simp; done))))); (try ((have hccw9w8 : w9.cell? ⟨w8.heap.size, 0, none⟩ = some (.int .u8 (65 + (ser : Int))) := ?_; have kcw9w8 := HA.out w9 w8.heap.size hccw9w8; rotate_left; focus (refine e9.cell ?_; first | assumption | (simp; done)))))) | (go_simp; go_at_call 47; (with_reducible refine (HD2.out _).mono ?_); rintro e w10 hr10; obtain ⟨r10, rfl, rfl, e10⟩ := ret_ext hr10; clear hr10; have e010 : Ext w0 w10 := (by repeat (first | exact Ext.refl _ | assumption | (refine Ext.trans ?_ (Ext.alloc _ _)) | (refine Ext.trans ?_ (Ext.drew _)) | (refine Ext.trans ?_ (by assumption)))); (try ((have hccw10w0 : w10.cell? ⟨w0.heap.size, 0, none⟩ = some (.int .u8 (65 + (ser : Int))) := ?_; have kcw10w0 := HA.out w10 w0.heap.size hccw10w0; rotate_left; focus (refine e10.cell ?_; first | assumption | (simp; done))))); (try ((have hccw10w7 : w10.cell? ⟨w7.heap.size, 0, none⟩ = some (.int .u8 (65 + (ser : Int))) := ?_; have kcw10w7 := HA.out w10 w7.heap.size hccw10w7; rotate_left; focus (refine e10.cell ?_; first | assumption | (simp; done))))); (try ((have hccw10w8 : w10.cell? ⟨w8.heap.size, 0, none⟩ = some (.int .u8 (65 + (ser : Int))) := ?_; have kcw10w8 := HA.out w10 w8.heap.size hccw10w8; rotate_left; focus (refine e10.cell ?_; first | assumption | (simp; done))))); (try ((have hccw10w9 : w10.cell? ⟨w9.heap.size, 0, none⟩ = some (.int .u8 (65 + (ser : Int))) := ?_; have kcw10w9 := HA.out w10 w9.heap.size hccw10w9; rotate_left; focus (refine e10.cell ?_; first | assumption | (simp; done)))))) | fail)
  all_goals go_wp2_with fail
  all_goals go_ret
  all_goals exact ⟨_, rfl, HS.out.symm, e0.trans (by repeat (first | exact Ext.refl _ | assumption | (refine Ext.trans ?_ (Ext.alloc _ _)) | (refine Ext.trans ?_ (Ext.drew _)) | (refine Ext.trans ?_ (by assumption))))⟩
end Go.Proofs.YtnndaboaeijbkaaDoor
