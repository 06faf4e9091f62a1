/- Proved: reading a stamp, the program. -/
import Derived.Test.YtnndaboaeijbkaaDoorChecked
import Derived.Test.YtnndaboaeijbkaaDoorUStampImpl
namespace Go.Proofs.YtnndaboaeijbkaaDoor
open Go.ChangeShapes Go.WideShapes Go.ChangeAt Go.RowKit
set_option linter.unusedVariables false

/-- what reading a text as a stamp gives -/
def ReadRes (W N : Nat) (l : List UInt8) (r : Value) : Prop := ∃ a b : Int, r = .tuple #[.int .i64 a, .int .i64 b, .bool (readB W N l)] ∧ (readB W N l = true → a = (byteN l 0 : Int) - 65 ∧ b = numI l W)
theorem readRes_no {W N : Nat} {l : List UInt8} (h : readB W N l = false) (a b : Int) : ReadRes W N l (.tuple #[.int .i64 a, .int .i64 b, .bool false]) := ⟨a, b, by rw [h], fun h2 => by rw [h] at h2; cases h2⟩
theorem readRes_is {W N : Nat} {l : List UInt8} {q : Bool} (h : readB W N l = q) {a b : Int} (ha : a = (byteN l 0 : Int) - 65) (hb : b = numI l W) : ReadRes W N l (.tuple #[.int .i64 a, .int .i64 b, .bool q]) := ⟨a, b, by rw [h], fun _ => ⟨ha, hb⟩⟩
theorem len_bytes (s : ByteArray) : s.data.toList.length = s.size := by rw [Array.length_toList]; rfl
theorem byte_at {s : ByteArray} {i : Nat} (h : i < s.size) : s[i].toNat = byteN s.data.toList i := by
  unfold byteN
  have h2 : i < s.data.toList.length := by rw [len_bytes]; exact h
  rw [List.getD_eq_getElem?_getD, List.getElem?_eq_getElem h2]
  rfl
theorem stampV_eq {W a b : Nat} {s st : ByteArray} (h : stampV W a b = .string st) : (st.toList == s.toList) = (stampD W a b == s.data.toList) := by
  unfold stampV at h
  injection h with h
  rw [← h, ByteArray.toList_mk, ByteArray.toList_eq]

set_option maxRecDepth 20000 in
set_option maxHeartbeats 1000000 in
theorem readStamp_c (w : World) (hT : Pow10 w) (N : Nat) (hN : N ≤ 262144) (s : ByteArray) (hs : s.size ≤ maxLen) :
    Calls Tryd.prog 23 #[.int .i64 (N : Int), .string s] w (Ret w fun r _ => ReadRes (Lib.decDigits N).length N s.data.toList r) := by
  have HTx := Lib.hid (text_c w hT N (by omega))
  have HSt := Lib.hid (fun (w' : World) (e : Ext w w') (a b : Nat) (ha : a ≤ 25) (hb : b ≤ 262144) => stampText_c w' (hT.ext e) N a b hN ha hb)
  have HCm := Lib.hid (fun (a b : Nat) (st : ByteArray) (h : stampV (Lib.decDigits N).length a b = .string st) => stampV_eq (s := s) h)
  have HV : Hid (∀ W a b, ∃ st, stampV W a b = .string st) := fun W a b => ⟨_, rfl⟩
  have hl := len_bytes s
  have HNo := Lib.hid (fun h => readB_no (W := (Lib.decDigits N).length) (N := N) (s := s.data.toList) h)
  have HIs := Lib.hid (fun h => readB_is (W := (Lib.decDigits N).length) (N := N) (s := s.data.toList) h)
  have HB := fun (i : Nat) (h : i < s.size) => byte_at h
  have HBl := Lib.hid (fun i => byteN_lt s.data.toList i)
  have HI := Lib.hid (fun i => numI_in s.data.toList i)
  have HIs2 := Lib.hid (fun i => numI_succ s.data.toList i)
  have HI0 : Hid (numI s.data.toList 0 = 0) := rfl
  have HRn := Lib.hid (fun (h : readB (Lib.decDigits N).length N s.data.toList = false) (a b : Int) => readRes_no h a b)
  have HRi := Lib.hid (fun (q : Bool) (h : readB (Lib.decDigits N).length N s.data.toList = q) (a b : Int) (ha : a = (byteN s.data.toList 0 : Int) - 65) (hb : b = numI s.data.toList (Lib.decDigits N).length) => readRes_is h ha hb)
  have hW6 : (Lib.decDigits N).length ≤ 6 := dec_le6 (by omega)
  rw [hl] at HNo HIs
  obtain ⟨tx, htx, htz⟩ := num_len N
  rw [htx] at HTx
  generalize readB (Lib.decDigits N).length N s.data.toList = q at *
  generalize ReadRes (Lib.decDigits N).length N s.data.toList = RR at *
  generalize hWW : (Lib.decDigits N).length = W at *
  generalize byteN s.data.toList = B at *
  generalize numI s.data.toList = nI at *
  generalize hL : s.data.toList = l at *
  clear hL hWW htx hT hl
  by_cases hsz : s.size = W + 4
  · have h0 : 0 < s.size := by omega
    have hb0 := HBl.out 0
    have hw4 : IntKind.i64.wrap ((W : Int) + 4) = (W : Int) + 4 := IntWalk.i64_in _ (by omega)
    have hne : ((s.size : Int) == (W : Int) + 4) = true := by rw [beq_iff_eq]; omega
    have hwb : ∀ i : Nat, IntKind.i64.wrap (B i : Int) = (B i : Int) := fun i => by have := HBl.out i; exact IntWalk.i64_in _ (by omega)
    have hw65 : IntKind.i64.wrap ((B 0 : Int) - 65) = (B 0 : Int) - 65 := IntWalk.i64_in _ (by omega)
    have Hsz := Lib.hid hsz
    clear hs
    go_enter Tryd.func23, Tryd.ntmps23
    go_wp2_with fail
    refine Calls.mono HTx.out ?_
    rintro e w1 hr
    obtain ⟨r, rfl, rfl, e1⟩ := ret_ext hr
    clear hr
    go_wp2_with fail
    go_loopw [9, 10] (fun s9 s10 wr => ∃ i j : Nat, s10 = .int .i64 (i : Int) ∧ s9 = .int .i64 (nI j) ∧ i = j + 1 ∧ j ≤ W ∧ Ext w wr) (fun _ s10 _ => W + 1 - (intOf s10).toNat)
    case atStart => exact ⟨1, 0, rfl, by rw [HI0.out], rfl, Nat.zero_le _, e1⟩
    case round =>
      obtain ⟨i, j, rfl, rfl, hij, hj, ew⟩ := hrel
      have Hij := Lib.hid hij
      have hin := HI.out j (by omega)
      by_cases hle : i ≤ W
      · have his : i < s.size := by omega
        have hbi := HBl.out i
        have hsucc := HIs2.out j
        rw [← hij] at hsucc
        have HS2 : Hid (nI i = nI j * 10 + (B i : Int) - 48) := hsucc
        have hwi : IntKind.i64.wrap ((i : Int) + 1) = (i : Int) + 1 := IntWalk.i64_in _ (by omega)
        have hw1 : IntKind.i64.wrap (nI j * 10) = nI j * 10 := IntWalk.i64_in _ (by omega)
        have hw2 : IntKind.i64.wrap (nI j * 10 + (B i : Int)) = nI j * 10 + (B i : Int) := IntWalk.i64_in _ (by omega)
        have hw3 : IntKind.i64.wrap (nI j * 10 + (B i : Int) - 48) = nI j * 10 + (B i : Int) - 48 := IntWalk.i64_in _ (by omega)
        clear hij hsucc hsz
        go_wp2_with fail
        go_roundw
        case measure => simp [intOf]; omega
        case rel => exact ⟨i + 1, i, by go_num, by rw [HS2.out], rfl, by omega, ew⟩
      · have hjW : j = W := by omega
        subst hjW
        have hgt : ¬ (i : Int) ≤ (j : Int) := by omega
        clear hij
        go_wp2_with fail
        refine Calls.mono (within_c wr ((B 0 : Int) - 65) 0 25) ?_
        rintro e w2 hr
        obtain ⟨rfl, hd2, g2⟩ := retq_ext hr
        clear hr
        have e2 := ew.trans g2
        cases h0 : inB ((B 0 : Int) - 65) 0 25 with
        | false =>
          have hno : ¬ (s.size = j + 4 ∧ 65 ≤ B 0 ∧ B 0 ≤ 90 ∧ 0 ≤ nI j ∧ nI j < N) := fun h => by
            have : inB ((B 0 : Int) - 65) 0 25 = true := inB_iff.2 (by omega)
            rw [h0] at this; cases this
          have HQ := Lib.hid (HRn.out (HNo.out hno) 0 0)
          go_wp2_with fail
          go_ret3
          exact ⟨_, rfl, HQ.out, e2⟩
        | true =>
          have h65 := inB_iff.1 h0
          have hwN : IntKind.i64.wrap ((N : Int) - 1) = (N : Int) - 1 := IntWalk.i64_in _ (by omega)
          go_wp2_with fail
          refine Calls.mono (within_c w2 (nI j) 0 ((N : Int) - 1)) ?_
          rintro e w3 hr
          obtain ⟨rfl, hd3, g3⟩ := retq_ext hr
          clear hr
          have e3 := e2.trans g3
          cases h1 : inB (nI j) 0 ((N : Int) - 1) with
          | false =>
            have hno : ¬ (s.size = j + 4 ∧ 65 ≤ B 0 ∧ B 0 ≤ 90 ∧ 0 ≤ nI j ∧ nI j < N) := fun h => by
              have : inB (nI j) 0 ((N : Int) - 1) = true := inB_iff.2 (by omega)
              rw [h1] at this; cases this
            have HQ := Lib.hid (HRn.out (HNo.out hno) 0 0)
            go_wp2_with fail
            go_ret3
            exact ⟨_, rfl, HQ.out, e3⟩
          | true =>
            have hn := inB_iff.1 h1
            have hq := HIs.out ⟨Hsz.out, by omega, by omega, by omega, by omega⟩
            obtain ⟨a, ha⟩ : ∃ a, a = B 0 - 65 := ⟨_, rfl⟩
            obtain ⟨b, hb⟩ : ∃ b, b = (nI j).toNat := ⟨_, rfl⟩
            rw [← ha, ← hb] at hq
            have hai : (B 0 : Int) - 65 = (a : Int) := by omega
            have hbi : nI j = (b : Int) := by omega
            obtain ⟨st, hst⟩ := HV.out j a b
            have hcm := HCm.out a b st hst
            have HT := Lib.hid (HSt.out w3 e3 a b (by omega) (by omega))
            rw [hst] at HT
            rw [← hq] at hcm
            have HQ := Lib.hid (HRi.out q rfl ((B 0 : Int) - 65) (nI j) rfl rfl)
            have HQn := Lib.hid (fun (h : q = false) => HRn.out h 0 0)
            rw [hai, hbi] at HQ
            clear ha hb hst hq h65 hn HIs HNo HRi HRn HCm HV
            rw [hai, hbi]
            go_wp2_with fail
            refine Calls.mono HT.out ?_
            rintro e w4 hr
            obtain ⟨r, rfl, rfl, e4⟩ := ret_ext hr
            clear hr
            have e5 := e3.trans e4
            cases q with
            | true =>
              go_wp2_with fail
              go_ret3
              exact ⟨_, rfl, HQ.out, e5⟩
            | false =>
              have HQ3 := Lib.hid (HQn.out rfl)
              go_wp2_with fail
              go_ret3
              exact ⟨_, rfl, HQ3.out, e5⟩
  · have HQ := Lib.hid (HRn.out (HNo.out (fun h => hsz h.1)) 0 0)
    have hw4 : IntKind.i64.wrap ((W : Int) + 4) = (W : Int) + 4 := IntWalk.i64_in _ (by omega)
    have hne : ((s.size : Int) == (W : Int) + 4) = false := by rw [beq_eq_false_iff_ne]; omega
    clear hsz
    go_enter Tryd.func23, Tryd.ntmps23
    go_wp2_with fail
    refine Calls.mono HTx.out ?_
    rintro e w1 hr
    obtain ⟨r, rfl, rfl, e1⟩ := ret_ext hr
    clear hr
    go_wp2_with fail
    go_ret3
    exact ⟨_, rfl, HQ.out, e1⟩
end Go.Proofs.YtnndaboaeijbkaaDoor
