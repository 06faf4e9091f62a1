/- Proved: reading a stamp, the reference. -/
import Derived.Test.YtnndaboaeijbkaaDoorChecked
import Derived.Test.YtnndaboaeijbkaaDoorUStampRead
import Derived.Test.YtnndaboaeijbkaaDoorUStampSpec
namespace Go.Proofs.YtnndaboaeijbkaaDoor
open Go.ChangeShapes Go.WideShapes Go.ChangeAt Go.RowKit
set_option linter.unusedVariables false

set_option maxRecDepth 20000 in
set_option maxHeartbeats 1000000 in
theorem l28Read_c (w : World) (mk : MK) (ok : MkOk mk) (s : ByteArray) (hs : s.size ≤ maxLen) :
    Calls Tryd.prog 21 #[mk.v, .string s] w (Ret w fun r _ => ReadRes (lenM mk) (countM mk) s.data.toList r) := by
  have HDi := Lib.hid (fun (w' : World) => l28Digits_c w' mk ok)
  have HCo := Lib.hid (fun (w' : World) => l02Count_c mk ok mk.c.toNat [] (by simp) w' (.slice none 0 0) (.old w') (SliceR.nil _ _ _) (fun i hi => by simp at hi))
  have hcn : (keysR mk mk.d.toNat mk.c.toNat []).length = countM mk := rfl
  rw [hcn] at HCo
  have HSt := Lib.hid (fun (w' : World) (a b : Nat) (ha : a ≤ 25) (hb : b ≤ 262144) => l28Text_c w' mk ok a b ha hb)
  have hN := countM_le ok
  have hW6 : lenM mk ≤ 6 := dec_le6 (by omega)
  have HCm := Lib.hid (fun (a b : Nat) (st : ByteArray) (h : stampV (lenM mk) a b = .string st) => stampV_eq (s := s) h)
  have HV : Hid (∀ W a b, ∃ st, stampV W a b = .string st) := fun W a b => ⟨_, rfl⟩
  have hl := len_bytes s
  have HNo := Lib.hid (fun h => readB_no (W := lenM mk) (N := countM mk) (s := s.data.toList) h)
  have HIs := Lib.hid (fun h => readB_is (W := lenM mk) (N := countM mk) (s := s.data.toList) h)
  have HDg := Lib.hid (fun (i : Nat) (h1 : 1 ≤ i) (h2 : i ≤ lenM mk) (h : byteN s.data.toList i < 48 ∨ 57 < byteN s.data.toList i) => readB_digit (W := lenM mk) (N := countM mk) rfl h1 h2 h)
  have HB := fun (i : Nat) (h : i < s.size) => byte_at h
  have HBl := Lib.hid (fun i => byteN_lt s.data.toList i)
  have HI := Lib.hid (fun i => numI_in s.data.toList i)
  have HIs2 := Lib.hid (fun i => numI_succ s.data.toList i)
  have HI0 : Hid (numI s.data.toList 0 = 0) := rfl
  have HRn := Lib.hid (fun (h : readB (lenM mk) (countM mk) s.data.toList = false) (a b : Int) => readRes_no h a b)
  have HRi := Lib.hid (fun (q : Bool) (h : readB (lenM mk) (countM mk) s.data.toList = q) (a b : Int) (ha : a = (byteN s.data.toList 0 : Int) - 65) (hb : b = numI s.data.toList (lenM mk)) => readRes_is h ha hb)
  rw [hl] at HNo HIs
  generalize readB (lenM mk) (countM mk) s.data.toList = q at *
  generalize ReadRes (lenM mk) (countM mk) s.data.toList = RR at *
  generalize lenM mk = W at *
  generalize countM mk = N at *
  generalize byteN s.data.toList = B at *
  generalize numI s.data.toList = nI at *
  generalize hL : s.data.toList = l at *
  clear hL hl hcn ok
  obtain ⟨mc, md, ms, mm, ml⟩ := mk
  unfold MK.v at *
  have hw4 : IntKind.i64.wrap ((W : Int) + 4) = (W : Int) + 4 := IntWalk.i64_in _ (by omega)
  by_cases hsz : s.size = W + 4
  · have h0 : 0 < s.size := by omega
    have hb0 := HBl.out 0
    have hne : ((s.size : Int) == (W : Int) + 4) = true := by rw [beq_iff_eq]; omega
    have Hsz := Lib.hid hsz
    by_cases h65 : B 0 < 65
    · have HQ := Lib.hid (HRn.out (HNo.out (fun h => by omega)) 0 0)
      have hd65 : decide ((B 0 : Int) < 65) = true := decide_eq_true (by omega)
      clear hs
      go_enter Tryd.func21, Tryd.ntmps21
      go_wp2_with fail
      generalize hw0 : World.alloc _ _ = w0
      obtain ⟨e0, S0⟩ := mk_box (mk := ⟨mc, md, ms, mm, ml⟩) hw0
      clear hw0
      obtain ⟨c0, c1, c2, c3, c4⟩ := S0
      go_wp2_with fail
      refine Calls.mono (HDi.out w0) ?_
      rintro e w1 hr
      obtain ⟨r, rfl, rfl, e1⟩ := ret_ext hr
      clear hr
      go_wp2_with fail
      go_ret3
      exact ⟨_, rfl, HQ.out, e0.trans e1⟩
    · by_cases h90 : 90 < B 0
      · have HQ := Lib.hid (HRn.out (HNo.out (fun h => by omega)) 0 0)
        have hd65 : decide ((B 0 : Int) < 65) = false := decide_eq_false (by omega)
        have hd90 : decide ((90 : Int) < (B 0 : Int)) = true := decide_eq_true (by omega)
        clear hs
        go_enter Tryd.func21, Tryd.ntmps21
        go_wp2_with fail
        generalize hw0 : World.alloc _ _ = w0
        obtain ⟨e0, S0⟩ := mk_box (mk := ⟨mc, md, ms, mm, ml⟩) hw0
        clear hw0
        obtain ⟨c0, c1, c2, c3, c4⟩ := S0
        go_wp2_with fail
        refine Calls.mono (HDi.out w0) ?_
        rintro e w1 hr
        obtain ⟨r, rfl, rfl, e1⟩ := ret_ext hr
        clear hr
        go_wp2_with fail
        go_ret3
        exact ⟨_, rfl, HQ.out, e0.trans e1⟩
      · have hd65 : decide ((B 0 : Int) < 65) = false := decide_eq_false (by omega)
        have hd90 : decide ((90 : Int) < (B 0 : Int)) = false := decide_eq_false (by omega)
        have hw65 : IntKind.u8.wrap ((B 0 : Int) - 65) = (B 0 : Int) - 65 := IntWalk.u8_in _ (by omega)
        have hw65i : IntKind.i64.wrap ((B 0 : Int) - 65) = (B 0 : Int) - 65 := IntWalk.i64_in _ (by omega)
        clear hs
        go_enter Tryd.func21, Tryd.ntmps21
        go_wp2_with fail
        generalize hw0 : World.alloc _ _ = w0
        obtain ⟨e0, S0⟩ := mk_box (mk := ⟨mc, md, ms, mm, ml⟩) hw0
        clear hw0
        have HS := Lib.hid S0
        obtain ⟨c0, c1, c2, c3, c4⟩ := S0
        go_wp2_with fail
        refine Calls.mono (HDi.out w0) ?_
        rintro e w1 hr
        obtain ⟨r, rfl, rfl, e1⟩ := ret_ext hr
        clear hr c0 c1 c2 c3 c4
        go_wp2_with fail
        go_loopw [7, 8] (fun s9 s10 wr => ∃ i j : Nat, s10 = .int .i64 (i : Int) ∧ s9 = .int .i64 (nI j) ∧ i = j + 1 ∧ j ≤ W ∧ 0 ≤ nI j ∧ Ext w0 wr) (fun _ s10 _ => W + 1 - (intOf s10).toNat)
        case atStart => exact ⟨1, 0, rfl, by rw [HI0.out], rfl, Nat.zero_le _, by rw [HI0.out]; exact Int.le_refl _, e1⟩
        case round =>
          obtain ⟨i, j, rfl, rfl, hij, hj, hpos, ew⟩ := hrel
          have Hij := Lib.hid hij
          have hin := HI.out j (by omega)
          obtain ⟨c0, c1, c2, c3, c4⟩ := HS.out.ext ew
          by_cases hle : i ≤ W
          · have his : i < s.size := by omega
            have hbi := HBl.out i
            have hsucc := HIs2.out j
            rw [← hij] at hsucc
            have HS2 : Hid (nI i = nI j * 10 + (B i : Int) - 48) := hsucc
            have hleb : decide ((i : Int) ≤ (W : Int)) = true := decide_eq_true (by omega)
            by_cases h48 : B i < 48
            · have HQ := Lib.hid (HRn.out (HDg.out i (by omega) hle (.inl h48)) 0 0)
              have hd48 : decide ((B i : Int) < 48) = true := decide_eq_true (by omega)
              clear hij hsucc hsz
              go_wp2_with fail
              refine Calls.mono (HDi.out wr) ?_
              rintro e w2 hr
              obtain ⟨r, rfl, rfl, e2⟩ := ret_ext hr
              clear hr
              go_wp2_with fail
              go_ret3
              exact ⟨_, rfl, HQ.out, (e0.trans ew).trans e2⟩
            · by_cases h57 : 57 < B i
              · have HQ := Lib.hid (HRn.out (HDg.out i (by omega) hle (.inr h57)) 0 0)
                have hd48 : decide ((B i : Int) < 48) = false := decide_eq_false (by omega)
                have hd57 : decide ((57 : Int) < (B i : Int)) = true := decide_eq_true (by omega)
                clear hij hsucc hsz
                go_wp2_with fail
                refine Calls.mono (HDi.out wr) ?_
                rintro e w2 hr
                obtain ⟨r, rfl, rfl, e2⟩ := ret_ext hr
                clear hr
                go_wp2_with fail
                go_ret3
                exact ⟨_, rfl, HQ.out, (e0.trans ew).trans e2⟩
              · have hd48 : decide ((B i : Int) < 48) = false := decide_eq_false (by omega)
                have hd57 : decide ((57 : Int) < (B i : Int)) = false := decide_eq_false (by omega)
                have hwi : IntKind.i64.wrap ((i : Int) + 1) = (i : Int) + 1 := IntWalk.i64_in _ (by omega)
                have hw1 : IntKind.i64.wrap (10 * nI j) = 10 * nI j := IntWalk.i64_in _ (by omega)
                have hw2 : IntKind.u8.wrap ((B i : Int) - 48) = (B i : Int) - 48 := IntWalk.u8_in _ (by omega)
                have hw2i : IntKind.i64.wrap ((B i : Int) - 48) = (B i : Int) - 48 := IntWalk.i64_in _ (by omega)
                have hw3 : IntKind.i64.wrap (10 * nI j + ((B i : Int) - 48)) = 10 * nI j + ((B i : Int) - 48) := IntWalk.i64_in _ (by omega)
                have HS3 : Hid (10 * nI j + ((B i : Int) - 48) = nI i) := by show _ = _; rw [HS2.out]; omega
                have HP3 : Hid (0 ≤ nI i) := by show _ ≤ _; rw [HS2.out]; omega
                clear hij hsucc hsz
                go_wp2_with fail
                refine Calls.mono (HDi.out wr) ?_
                rintro e w2 hr
                obtain ⟨r, rfl, rfl, e2⟩ := ret_ext hr
                clear hr
                go_wp2_with fail
                go_roundw
                case measure => simp [intOf]; omega
                case rel => exact ⟨i + 1, i, by go_num, by rw [← HS3.out], rfl, by omega, HP3.out, ew.trans e2⟩
          · have hjW : j = W := by omega
            subst hjW
            have hgt : decide ((i : Int) ≤ (j : Int)) = false := decide_eq_false (by omega)
            clear hij
            go_wp2_with fail
            refine Calls.mono (HDi.out wr) ?_
            rintro e w2 hr
            obtain ⟨r, rfl, rfl, e2⟩ := ret_ext hr
            clear hr
            have ew2 := ew.trans e2
            obtain ⟨c0, c1, c2, c3, c4⟩ := HS.out.ext ew2
            go_wp2_with fail
            refine Calls.mono (HCo.out w2) ?_
            rintro e w3 hr
            obtain ⟨r, rfl, rfl, e3⟩ := ret_ext hr
            clear hr c0 c1 c2 c3 c4
            have ew3 := ew2.trans e3
            obtain ⟨c0, c1, c2, c3, c4⟩ := HS.out.ext ew3
            by_cases hlt : nI j < (N : Int)
            · have hlb : decide (nI j < (N : Int)) = true := decide_eq_true hlt
              have hq := HIs.out ⟨Hsz.out, by omega, by omega, by omega, by omega⟩
              obtain ⟨a, ha⟩ : ∃ a, a = B 0 - 65 := ⟨_, rfl⟩
              obtain ⟨b, hb⟩ : ∃ b, b = (nI j).toNat := ⟨_, rfl⟩
              rw [← ha, ← hb] at hq
              have hai : (B 0 : Int) - 65 = (a : Int) := by omega
              have hbi : nI j = (b : Int) := by omega
              obtain ⟨st, hst⟩ := HV.out j a b
              have hcm := HCm.out a b st hst
              have HT := Lib.hid (HSt.out w3 a b (by omega) (by omega))
              rw [hst] at HT
              rw [← hq] at hcm
              have HQ := Lib.hid (HRi.out q rfl ((B 0 : Int) - 65) (nI j) rfl rfl)
              rw [hai, hbi] at HQ
              have hlb2 : decide ((b : Int) < (N : Int)) = true := decide_eq_true (by omega)
              have hlb3 : decide (b < N) = true := decide_eq_true (by omega)
              clear ha hb hst hq HIs HNo HRi HRn HCm HV hlt
              rw [hai, hbi]
              go_wp2_with fail
              refine Calls.mono HT.out ?_
              rintro e w4 hr
              obtain ⟨r, rfl, rfl, e4⟩ := ret_ext hr
              clear hr
              have e5 := (e0.trans ew3).trans e4
              go_wp2_with fail
              go_ret3
              exact ⟨_, rfl, HQ.out, e5⟩
            · have hlb : decide (nI j < (N : Int)) = false := decide_eq_false hlt
              have HQ := Lib.hid (HRn.out (HNo.out (fun h => by omega)) ((B 0 : Int) - 65) (nI j))
              go_wp2_with fail
              go_ret3
              exact ⟨_, rfl, HQ.out, e0.trans ew3⟩
  · have HQ := Lib.hid (HRn.out (HNo.out (fun h => hsz h.1)) 0 0)
    have hne : ((s.size : Int) == (W : Int) + 4) = false := by rw [beq_eq_false_iff_ne]; omega
    have hne2 : ((s.size : Int) != (W : Int) + 4) = true := by rw [bne, hne]; rfl
    have hne3 : ¬ ((s.size : Int) = (W : Int) + 4) := by omega
    clear hsz
    go_enter Tryd.func21, Tryd.ntmps21
    go_wp2_with fail
    generalize hw0 : World.alloc _ _ = w0
    obtain ⟨e0, S0⟩ := mk_box (mk := ⟨mc, md, ms, mm, ml⟩) hw0
    clear hw0
    obtain ⟨c0, c1, c2, c3, c4⟩ := S0
    go_wp2_with fail
    refine Calls.mono (HDi.out w0) ?_
    rintro e w1 hr
    obtain ⟨r, rfl, rfl, e1⟩ := ret_ext hr
    clear hr
    go_wp2_with fail
    go_ret3
    exact ⟨_, rfl, HQ.out, e0.trans e1⟩
end Go.Proofs.YtnndaboaeijbkaaDoor
