/- Proved: whether a text is a stamp, both sides. -/
import Derived.Test.YtnndaboaeijbkaaDoorChecked
import Derived.Test.YtnndaboaeijbkaaDoorUStampReadS
namespace Go.Proofs.YtnndaboaeijbkaaDoor
open Go.ChangeShapes Go.WideShapes Go.ChangeAt Go.RowKit
set_option linter.unusedVariables false

def isStampB (mk : MK) (l : List UInt8) : Bool := isMaker mk && readB (lenM mk) (countM mk) l

set_option maxRecDepth 20000 in
set_option maxHeartbeats 1000000 in
theorem IsStamp_c (w : World) (hT : Pow10 w) (mk : MK) (s : ByteArray) (hs : s.size ≤ maxLen) : Calls Tryd.prog 9 #[mk.v, .string s] w (Ret w fun r _ => r = .bool (isStampB mk s.data.toList)) := by
  have HC := Lib.hid (fun (w' : World) => CountKeys_c w' mk)
  have HRd := Lib.hid (fun (h : isMaker mk = true) (w' : World) (e : Ext w w') => readStamp_c w' (hT.ext e) (countM mk) (countM_le (mkOk h)) s hs)
  have HR : Hid (isStampB mk s.data.toList = (isMaker mk && readB (lenM mk) (countM mk) s.data.toList)) := rfl
  have hcn : (allK mk).length = countM mk := rfl
  have hln : (Lib.decDigits (countM mk)).length = lenM mk := rfl
  rw [hcn] at HC
  rw [hln] at HRd
  unfold ReadRes at HRd
  clear hcn hln hT hs
  generalize readB (lenM mk) (countM mk) s.data.toList = b at *
  generalize isStampB mk s.data.toList = res at *
  generalize isMaker mk = q at *
  generalize countM mk = N at *
  obtain ⟨c, d, s', m, l⟩ := mk
  unfold MK.v at *
  go_enter Tryd.func9, Tryd.ntmps9
  go_wp2_with fail
  generalize hw2 : World.alloc w _ = w1
  obtain ⟨e1, S1⟩ := mk_box (mk := ⟨c, d, s', m, l⟩) hw2
  clear hw2
  obtain ⟨c0, c1, c2, c3, c4⟩ := S1
  go_wp2_with fail
  refine Calls.mono (HC.out w1) ?_
  rintro e w2 hr
  obtain ⟨r, rfl, rfl, e2⟩ := ret_ext hr
  clear hr c0 c1 c2 c3 c4
  have et := e1.trans e2
  cases q with
  | false =>
    go_wp2_with fail
    go_ret
    exact ⟨_, rfl, by rw [HR.out]; rfl, et⟩
  | true =>
    have HT2 := Lib.hid (HRd.out rfl w2 et)
    clear HRd
    go_wp2_with fail
    refine Calls.mono HT2.out ?_
    rintro e w3 hr
    obtain ⟨r, rfl, ⟨x, y, rfl, -⟩, e3⟩ := ret_ext hr
    clear hr
    go_wp2_with fail
    go_ret
    exact ⟨_, rfl, by rw [HR.out]; rfl, et.trans e3⟩

set_option maxRecDepth 20000 in
set_option maxHeartbeats 1000000 in
theorem IsStampSpec_c (w : World) (mk : MK) (s : ByteArray) (hs : s.size ≤ maxLen) : Calls Tryd.prog 7 #[mk.v, .string s] w (Ret w fun r _ => r = .bool (isStampB mk s.data.toList)) := by
  have HM := Lib.hid (fun (w' : World) => IsMakerSpec_c w' mk)
  have HRd := Lib.hid (fun (h : isMaker mk = true) (w' : World) => l28Read_c w' mk (mkOk h) s hs)
  have HR : Hid (isStampB mk s.data.toList = (isMaker mk && readB (lenM mk) (countM mk) s.data.toList)) := rfl
  unfold ReadRes at HRd
  clear hs
  generalize readB (lenM mk) (countM mk) s.data.toList = b at *
  generalize isStampB mk s.data.toList = res at *
  generalize isMaker mk = q at *
  obtain ⟨c, d, s', m, l⟩ := mk
  unfold MK.v at *
  go_enter Tryd.func7, Tryd.ntmps7
  go_wp2_with fail
  generalize hw2 : World.alloc w _ = w1
  obtain ⟨e1, S1⟩ := mk_box (mk := ⟨c, d, s', m, l⟩) hw2
  clear hw2
  have HS := Lib.hid S1
  obtain ⟨c0, c1, c2, c3, c4⟩ := S1
  go_wp2_with fail
  refine Calls.mono (HM.out w1) ?_
  rintro e w2 hr
  obtain ⟨r, rfl, rfl, e2⟩ := ret_ext hr
  clear hr c0 c1 c2 c3 c4
  obtain ⟨c0, c1, c2, c3, c4⟩ := HS.out.ext e2
  have et := e1.trans e2
  cases q with
  | false =>
    go_wp2_with fail
    go_ret
    exact ⟨_, rfl, by rw [HR.out]; rfl, et⟩
  | true =>
    have HT2 := Lib.hid (HRd.out rfl w2)
    clear HRd HM
    go_wp2_with fail
    refine Calls.mono HT2.out ?_
    rintro e w3 hr
    obtain ⟨r, rfl, ⟨x, y, rfl, -⟩, e3⟩ := ret_ext hr
    clear hr
    go_wp2_with fail
    go_ret
    exact ⟨_, rfl, by rw [HR.out]; rfl, et.trans e3⟩
end Go.Proofs.YtnndaboaeijbkaaDoor
