/- Proved: a stamp with another secret, the program. -/
import Derived.Test.YtnndaboaeijbkaaDoorChecked
import Derived.Test.YtnndaboaeijbkaaDoorUMoveSec
import Derived.Test.YtnndaboaeijbkaaDoorUPkSm
namespace Go.Proofs.YtnndaboaeijbkaaDoor
open Go.ChangeShapes Go.WideShapes Go.ChangeAt Go.RowKit
set_option linter.unusedVariables false

theorem moveM_no {mk : MK} {l : List UInt8} {f t : Int} (h : isMaker mk = false) : moveM mk l f t = .tuple #[.string ⟨#[]⟩, .int .i64 1] := by
  have h1 : ∀ x, codeM mk 0 x = 1 := fun x => by unfold codeM; rw [if_neg (by rw [h]; decide)]
  unfold moveM
  rw [h1, if_pos (by decide)]
theorem codeM_bad {mk : MK} {x : Int} (h : isMaker mk = true) (hx : inB x 0 ((countM mk : Int) - 1) = false) : codeM mk 0 x = 2 := by
  unfold codeM
  rw [if_pos h, if_neg (by rw [hx]; simp)]
theorem codeM_good {mk : MK} {x : Int} (h : isMaker mk = true) (hx : inB x 0 ((countM mk : Int) - 1) = true) : codeM mk 0 x = 0 := codeM_is h (by decide) (inB_iff.1 hx)
theorem moveM_f {mk : MK} {l : List UInt8} {f t : Int} (h : isMaker mk = true) (hx : inB f 0 ((countM mk : Int) - 1) = false) : moveM mk l f t = .tuple #[.string ⟨#[]⟩, .int .i64 2] := by
  unfold moveM
  rw [codeM_bad h hx, if_pos (by decide)]
theorem moveM_t {mk : MK} {l : List UInt8} {f t : Int} (h : isMaker mk = true) (hf : inB f 0 ((countM mk : Int) - 1) = true) (hx : inB t 0 ((countM mk : Int) - 1) = false) : moveM mk l f t = .tuple #[.string ⟨#[]⟩, .int .i64 2] := by
  unfold moveM
  rw [codeM_good h hf, codeM_bad h hx, if_neg (by decide), if_pos (by decide)]
theorem moveM_b {mk : MK} {l : List UInt8} {f t : Int} (h : isMaker mk = true) (hf : inB f 0 ((countM mk : Int) - 1) = true) (hx : inB t 0 ((countM mk : Int) - 1) = true) : moveM mk l f t = if readB (lenM mk) (countM mk) l = true then .tuple #[stampV (lenM mk) (byteN l 0 - 65) ((numI l (lenM mk) - f + t + (countM mk : Int)) % (countM mk : Int)).toNat, .int .i64 0] else .tuple #[.string ⟨#[]⟩, .int .i64 6] := by
  unfold moveM
  rw [codeM_good h hf, codeM_good h hx, if_neg (by decide), if_neg (by decide)]

set_option maxRecDepth 20000 in
set_option maxHeartbeats 1000000 in
theorem MoveSecret_c (w : World) (hT : Pow10 w) (mk : MK) (s : ByteArray) (hs : s.size ≤ maxLen) (f t : Int) : Calls Tryd.prog 16 #[mk.v, .string s, .int .i64 f, .int .i64 t] w (Ret w fun r _ => r = moveM mk s.data.toList f t) := by
  have HC := Lib.hid (fun (w' : World) => CountKeys_c w' mk)
  have hcn : (allK mk).length = countM mk := rfl
  rw [hcn] at HC
  have HRd := Lib.hid (fun (h : isMaker mk = true) (w' : World) (e : Ext w w') => readStamp_c w' (hT.ext e) (countM mk) (countM_le (mkOk h)) s hs)
  have hln : (Lib.decDigits (countM mk)).length = lenM mk := rfl
  rw [hln] at HRd
  unfold ReadRes at HRd
  have HTx := Lib.hid (fun (h : isMaker mk = true) (a b : Nat) (ha : a ≤ 25) (hb : b ≤ 262144) (w' : World) (e : Ext w w') => stampText_c w' (hT.ext e) (countM mk) a b (countM_le (mkOk h)) ha hb)
  rw [hln] at HTx
  have HNm : Hid (isMaker mk = true → countM mk ≤ 262144) := fun h => countM_le (mkOk h)
  have HY := Lib.hid (fun (h : readB (lenM mk) (countM mk) s.data.toList = true) => readB_yes h)
  have H1 := Lib.hid (fun (h : isMaker mk = false) => moveM_no (l := s.data.toList) (f := f) (t := t) h)
  have H2 := Lib.hid (fun (h : isMaker mk = true) (hx : inB f 0 ((countM mk : Int) - 1) = false) => moveM_f (l := s.data.toList) (t := t) h hx)
  have H3 := Lib.hid (fun (h : isMaker mk = true) (hf : inB f 0 ((countM mk : Int) - 1) = true) (hx : inB t 0 ((countM mk : Int) - 1) = false) => moveM_t (l := s.data.toList) h hf hx)
  have H4 := Lib.hid (fun (h : isMaker mk = true) (hf : inB f 0 ((countM mk : Int) - 1) = true) (hx : inB t 0 ((countM mk : Int) - 1) = true) => moveM_b (l := s.data.toList) h hf hx)
  have HV : Hid (∀ W a b, ∃ st, stampV W a b = .string st) := fun W a b => ⟨_, rfl⟩
  clear hcn hln hT hs
  generalize moveM mk s.data.toList f t = res at *
  generalize lenM mk = W at *
  generalize countM mk = N at *
  generalize readB W N s.data.toList = b at *
  generalize isMaker mk = q at *
  generalize numI s.data.toList W = nn at *
  generalize byteN s.data.toList 0 = b0 at *
  obtain ⟨c, d, s', m, l⟩ := mk
  unfold MK.v at *
  go_enter Tryd.func16, Tryd.ntmps16
  go_wp2_with fail
  generalize hw2 : World.alloc w _ = w1
  obtain ⟨e1, S1⟩ := mk_box (mk := ⟨c, d, s', m, l⟩) hw2
  clear hw2
  obtain ⟨c0, c1, c2, c3, c4⟩ := S1
  go_wp2_with fail
  refine Calls.mono (HC.out w1) ?_
  rintro e w2 hr
  obtain ⟨r, rfl, rfl, e2⟩ := ret_ext hr
  clear hr c0 c1 c2 c3 c4
  have et := e1.trans e2
  cases q with
  | false =>
    have HH := Lib.hid (H1.out rfl)
    clear H1 H2 H3 H4
    go_wp2_with fail
    go_ret2
    exact ⟨_, rfl, HH.out.symm, et⟩
  | true =>
    have hN := HNm.out rfl
    have H2' := Lib.hid (H2.out rfl)
    have H3' := Lib.hid (H3.out rfl)
    have H4' := Lib.hid (H4.out rfl)
    have HRd' := Lib.hid (HRd.out rfl)
    have HTx' := Lib.hid (HTx.out rfl)
    clear H1 H2 H3 H4 HRd HTx HNm
    have hwN : IntKind.i64.wrap ((N : Int) - 1) = (N : Int) - 1 := IntWalk.i64_in _ (by omega)
    go_wp2_with fail
    refine Calls.mono (within_c w2 f 0 ((N : Int) - 1)) ?_
    rintro e w3 hr
    obtain ⟨rfl, hd3, g3⟩ := retq_ext hr
    clear hr
    have et3 := et.trans g3
    cases h0 : inB f 0 ((N : Int) - 1) with
    | false =>
      have HH := Lib.hid (H2'.out h0)
      clear H2' H3' H4' h0
      go_wp2_with fail
      go_ret2
      exact ⟨_, rfl, HH.out.symm, et3⟩
    | true =>
      have h0' := inB_iff.1 h0
      have H3x := Lib.hid (H3'.out h0)
      have H4x := Lib.hid (H4'.out h0)
      clear H2' H3' H4' h0
      go_wp2_with fail
      refine Calls.mono (within_c w3 t 0 ((N : Int) - 1)) ?_
      rintro e w4 hr
      obtain ⟨rfl, hd4, g4⟩ := retq_ext hr
      clear hr
      have et4 := et3.trans g4
      cases h1 : inB t 0 ((N : Int) - 1) with
      | false =>
        have HH := Lib.hid (H3x.out h1)
        clear H3x H4x h1
        go_wp2_with fail
        go_ret2
        exact ⟨_, rfl, HH.out.symm, et4⟩
      | true =>
        have h1' := inB_iff.1 h1
        have HH := Lib.hid (H4x.out h1)
        have HRd2 := Lib.hid (HRd'.out w4 et4)
        clear H3x H4x h1 HRd'
        go_wp2_with fail
        refine Calls.mono HRd2.out ?_
        rintro e w5 hr
        obtain ⟨r, rfl, ⟨x, y, rfl, hxy⟩, e5⟩ := ret_ext hr
        clear hr
        have et5 := et4.trans e5
        cases b with
        | false =>
          have HH2 : Hid (res = .tuple #[.string ⟨#[]⟩, .int .i64 6]) := HH.out
          clear HH hxy HRd2 HY
          go_wp2_with fail
          go_ret2
          exact ⟨_, rfl, HH2.out.symm, et5⟩
        | true =>
          obtain ⟨rfl, rfl⟩ := hxy rfl
          obtain ⟨-, h65, h90, hn0, hn1, -⟩ := HY.out rfl
          have HH2 : Hid (res = .tuple #[stampV W (b0 - 65) ((y - f + t + (N : Int)) % (N : Int)).toNat, .int .i64 0]) := HH.out
          have hm0 := Int.emod_nonneg (y - f + t + (N : Int)) (show (N : Int) ≠ 0 by omega)
          have hm1 := Int.emod_lt_of_pos (y - f + t + (N : Int)) (show (0 : Int) < (N : Int) by omega)
          obtain ⟨ix, hix⟩ : ∃ ix, ix = ((y - f + t + (N : Int)) % (N : Int)).toNat := ⟨_, rfl⟩
          have hmi : (y - f + t + (N : Int)) % (N : Int) = (ix : Int) := by omega
          have hmi2 : (y - f + t + (N : Int)).tmod (N : Int) = (ix : Int) := by rw [Int.tmod_eq_emod_of_nonneg (by omega)]; exact hmi
          rw [← hix] at HH2
          have HT3 := Lib.hid (HTx'.out (b0 - 65) ix (by omega) (by omega) w5 et5)
          obtain ⟨st, hst⟩ := HV.out W (b0 - 65) ix
          rw [hst] at HT3 HH2
          have hb6 : ((b0 - 65 : Nat) : Int) = (b0 : Int) - 65 := by omega
          rw [hb6] at HT3
          have hw1 : IntKind.i64.wrap (y - f) = y - f := IntWalk.i64_in _ (by omega)
          have hw2 : IntKind.i64.wrap (y - f + t) = y - f + t := IntWalk.i64_in _ (by omega)
          have hw3 : IntKind.i64.wrap (y - f + t + (N : Int)) = y - f + t + (N : Int) := IntWalk.i64_in _ (by omega)
          have hw4 : IntKind.i64.wrap (ix : Int) = (ix : Int) := IntWalk.i64_in _ (by omega)
          have hN0 : ((N : Int) == 0) = false := by rw [beq_eq_false_iff_ne]; omega
          have hN1 : ¬ N = 0 := by omega
          clear HH HRd2 HY HTx' hst hm0 hm1 hix hb6 h65 h90 hn0 hn1 h0' h1'
          go_wp2_with fail
          refine Calls.mono HT3.out ?_
          rintro e w6 hr
          obtain ⟨r, rfl, rfl, e6⟩ := ret_ext hr
          clear hr
          go_wp2_with fail
          go_ret2
          exact ⟨_, rfl, HH2.out.symm, et5.trans e6⟩
end Go.Proofs.YtnndaboaeijbkaaDoor
