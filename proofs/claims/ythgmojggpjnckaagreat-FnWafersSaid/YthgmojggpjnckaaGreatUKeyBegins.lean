/- Proved: whether cuts may begin a key, the reference. -/
import Derived.Test.YthgmojggpjnckaaGreatChecked
import Derived.Deep.RegionHeld3
import Derived.Test.YthgmojggpjnckaaGreatUKeyEnum
import Derived.Test.YthgmojggpjnckaaGreatUPkB
namespace Go.Proofs.YthgmojggpjnckaaGreat
open Go.ChangeShapes Go.WideShapes Go.ChangeAt Go.RowKit
set_option linter.unusedVariables false

theorem begins_run {mk : MK} {l : List Int} {i : Nat} (hi : i < l.length) (h : mk.m < (runAt l i : Int)) : begins mk l = false := by
  unfold begins
  by_cases h0 : 0 ≤ mk.m
  · have := (mostTo_gt l mk.m.toNat l.length).2 ⟨i, hi, by omega⟩
    rw [decide_eq_false (by omega), Bool.and_false]
  · rw [decide_eq_false (by omega), Bool.and_false]
theorem begins_far {mk : MK} {l : List Int} {i : Nat} (hi : i < l.length) (h : farAt mk.s l i = true) : begins mk l = false := by
  unfold begins; rw [farTo_yes hi h]; rfl
theorem begins_true {mk : MK} {l : List Int} (h1 : farTo mk.s l l.length = false) (h2 : (mostTo l l.length : Int) ≤ mk.m) : begins mk l = true := by
  unfold begins; rw [h1, decide_eq_true h2]; rfl
/-- a maker whose numbers lie in their ranges -/
structure MkOk (mk : MK) : Prop where
  c6 : 2 ≤ mk.c ∧ mk.c ≤ 6
  d8 : 2 ≤ mk.d ∧ mk.d ≤ 8
  m1 : 1 ≤ mk.m
  s1 : 1 ≤ mk.s
theorem mkOk {mk : MK} (h : isMaker mk = true) : MkOk mk := by
  have := isMaker_iff.1 h
  exact ⟨this.1, this.2.1, this.2.2.2.1.1, this.2.2.1.1⟩
def Small (l : List Int) : Prop := ∀ i, i < l.length → 0 ≤ l.getD i 0 ∧ l.getD i 0 ≤ 7

set_option maxRecDepth 20000 in
set_option maxHeartbeats 1000000 in
theorem l02Begins_c (w : World) (mk : MK) (hm1 : 1 ≤ mk.m) (hs1 : 1 ≤ mk.s) (v : Value) (z : Zone) (xs : List Int) (h : IntsR z w v xs) (hs : Small xs) :
    Calls Tryz.prog 148 #[mk.v, v] w (Ret w fun r _ => r = .bool (begins mk xs)) := by
  have HR1 : Hid (∀ i, i < xs.length → mk.m < (runAt xs i : Int) → begins mk xs = false) := fun i hi h => begins_run hi h
  have HF1 : Hid (∀ i, i < xs.length → farAt mk.s xs i = true → begins mk xs = false) := fun i hi h => begins_far hi h
  have HT1 : Hid (farTo mk.s xs xs.length = false → (mostTo xs xs.length : Int) ≤ mk.m → begins mk xs = true) := begins_true
  have HSm := Lib.hid hs
  generalize begins mk xs = q at *
  obtain ⟨c, d, s, m, l⟩ := mk
  unfold MK.v at *
  simp only at hm1 hs1 HR1 HF1 HT1 ⊢
  obtain ⟨a, n, cap, rfl, hn, hmax, -, -, -, hel⟩ := IntsR.shape h
  clear h hs
  have Hn := Lib.hid hn
  have Hel := Lib.hid hel
  clear hn hel
  go_enter Tryz.func148, Tryz.ntmps148
  go_wp2_with fail
  generalize hw0 : World.alloc _ _ = w0
  obtain ⟨e0, S0⟩ := mk_box (mk := ⟨c, d, s, m, l⟩) hw0
  clear hw0
  have HS := Lib.hid S0
  obtain ⟨c0, c1, c2, c3, c4⟩ := S0
  go_wp2_with fail
  clear c0 c1 c2 c3 c4
  go_loopw [5, 6] (fun s5 s6 wr => ∃ i : Nat, i ≤ n ∧ s6 = .int .i64 i ∧ s5 = .int .i64 (runBefore xs i : Nat) ∧ farTo s xs i = false ∧ (mostTo xs i : Int) ≤ m ∧ Drew w0 wr) (fun _ s6 _ => n - (intOf s6).toNat)
  case atStart => exact ⟨0, Nat.zero_le _, rfl, rfl, rfl, by simp [mostTo]; omega, Drew.refl _⟩
  case round =>
    obtain ⟨i, hi, rfl, rfl, hfar, hmo, hd⟩ := hrel
    have Hfar := Lib.hid hfar
    have Hmo := Lib.hid hmo
    clear hfar hmo
    have hr1 := runBefore_le xs i
    obtain ⟨c0, c1, c2, c3, c4⟩ := HS.out.ext (Ext.ofDrew hd)
    by_cases hlt : i < n
    · obtain ⟨b, off, rfl, hc, hx, hprev⟩ := Hel.out i hlt
      replace hc := e0.cell hc
      replace hc := (hd.cell _).trans hc
      have hxin := HSm.out i (by have := Hn.out; omega)
      by_cases hi0 : i = 0
      · subst hi0
        have HM : Hid (mostTo xs 1 = 1) := rfl
        have HR : Hid (runBefore xs 1 = 1) := rfl
        have HF : Hid (farTo s xs 1 = false) := by show _ = _; rw [farTo_succ, Hfar.out, farAt_zero]; rfl
        have hz2 : runBefore xs 0 = 0 := rfl
        rw [hz2]
        clear hprev hz2 hr1
        generalize xs.getD 0 0 = x at *
        have hb1 : decide (m < 1) = false := decide_eq_false (by omega)
        go_wp2_with fail
        go_quiet (fail)
        go_wp2_with fail
        go_quiet (fail)
        go_wp2_with fail
        go_roundw
        case rel => exact ⟨1, by omega, by go_num, by rw [HR.out]; go_num, HF.out, by rw [HM.out]; omega, by first | exact hd.drewN _ | exact (hd.drewN _).drewN _⟩
        case measure => simp [intOf]; omega
      · obtain ⟨hc', hx'⟩ := hprev (by omega)
        replace hc' := (hd.cell _).trans (e0.cell hc')
        have hyin := HSm.out (i-1) (by have := Hn.out; omega)
        have HFS : Hid (farTo s xs (i+1) = farAt s xs i) := by show _ = _; rw [farTo_succ, Hfar.out]; rfl
        have HFA := Lib.hid (farAt_pos (s := s) (l := xs) (show 0 < i by omega))
        have HB : Hid (runBefore xs i = runAt xs (i-1)) := by show _ = _; obtain ⟨j, rfl⟩ : ∃ j, i = j + 1 := ⟨i-1, by omega⟩; rfl
        have HRA : Hid (runAt xs i = if xs.getD i 0 = xs.getD (i-1) 0 then runAt xs (i-1) + 1 else 1) := by show _ = _; obtain ⟨j, rfl⟩ : ∃ j, i = j + 1 := ⟨i-1, by omega⟩; rfl
        have HR : Hid (runBefore xs (i+1) = runAt xs i) := rfl
        have HM := Lib.hid (mostTo_succ xs i)
        have hwi : IntKind.i64.wrap ((i : Int) - 1) = ((i - 1 : Nat) : Int) := by rw [IntWalk.i64_in _ (by omega)]; omega
        have hgt : decide (0 < i) = true := decide_eq_true (by omega)
        have HRi := Lib.hid (HR1.out i (by have := Hn.out; omega))
        have HFi := Lib.hid (HF1.out i (by have := Hn.out; omega))
        clear hprev hx hx'
        generalize xs.getD i 0 = x at *
        generalize xs.getD (i-1) 0 = y at *
        have hwxy : IntKind.i64.wrap (x - y) = x - y := IntWalk.i64_in _ (by omega)
        have hin1 : i - 1 < n := by omega
        have hin2 : ((i - 1 : Nat) : Int) < (n : Int) := by omega
        have HRR : ∃ rn : Nat, runAt xs i = rn ∧ rn = (if x = y then runAt xs (i-1) + 1 else 1) := ⟨_, rfl, HRA.out⟩
        obtain ⟨rn, hrn1, hrn2⟩ := HRR
        have Hrn1 := Lib.hid hrn1
        have hrb : rn ≤ i + 1 := by have := (runAt_pos xs i).2; omega
        clear hrn1 HRA
        by_cases hxy : x = y
        · have hbq : (x != y) = false := by simpa using hxy
          rw [if_pos hxy] at hrn2
          rw [HB.out] at hr1 ⊢
          clear HB
          by_cases hrm : m < (rn : Int)
          · have HH := Lib.hid (HRi.out (by rw [Hrn1.out]; exact hrm))
            have hrm' : m < ((runAt xs (i-1) : Nat) : Int) + 1 := by omega
            clear hrn2 hxy
            generalize runAt xs (i-1) = r at *
            have hb1 : decide (m < (r : Int) + 1) = true := decide_eq_true hrm'
            go_wp2_with fail
            go_quiet (fail)
            go_wp2_with fail
            generalize hwq : World.drewN wr _ = wq
            have hdq : Drew wr wq := by rw [← hwq]; exact (Drew.refl _).drewN _
            replace hc := (hdq.cell _).trans hc
            replace hc' := (hdq.cell _).trans hc'
            replace hd := hd.trans hdq
            clear c0 c1 c2 c3 c4 hwq
            obtain ⟨c0, c1, c2, c3, c4⟩ := HS.out.ext (Ext.ofDrew hd)
            go_quiet ((go_at_call 172; exact RetQ.quiet (l01Abs_c _ _ (by omega) (by omega))))
            go_wp2_with fail
            go_ret
            exact ⟨_, rfl, by rw [HH.out]; rfl, e0.trans (Ext.ofDrew (by first | exact hd.drewN _ | exact (hd.drewN _).drewN _))⟩
          · have hrm' : ¬ m < ((runAt xs (i-1) : Nat) : Int) + 1 := by omega
            have hns : ¬ s < ((x - y).natAbs : Int) := by subst hxy; rw [Int.sub_self]; simp only [Int.natAbs_zero]; omega
            have HF : Hid (farTo s xs (i+1) = false) := by show _ = _; rw [HFS.out, HFA.out]; exact decide_eq_false hns
            have Hrn2 := Lib.hid hrn2
            clear hrn2 hxy HFS HFA HRi HFi
            generalize runAt xs (i-1) = r at *
            have hb1 : decide (m < (r : Int) + 1) = false := decide_eq_false hrm'
            have hb2 : decide (s < ((x - y).natAbs : Int)) = false := decide_eq_false hns
            go_wp2_with fail
            go_quiet (fail)
            go_wp2_with fail
            generalize hwq : World.drewN wr _ = wq
            have hdq : Drew wr wq := by rw [← hwq]; exact (Drew.refl _).drewN _
            replace hc := (hdq.cell _).trans hc
            replace hc' := (hdq.cell _).trans hc'
            replace hd := hd.trans hdq
            clear c0 c1 c2 c3 c4 hwq
            obtain ⟨c0, c1, c2, c3, c4⟩ := HS.out.ext (Ext.ofDrew hd)
            go_quiet ((go_at_call 172; exact RetQ.quiet (l01Abs_c _ _ (by omega) (by omega))))
            go_wp2_with fail
            go_roundw
            case rel => exact ⟨i+1, by omega, by go_num, by rw [HR.out, Hrn1.out, Hrn2.out]; go_num, HF.out, by rw [HM.out, Hrn1.out]; have := Hmo.out; omega, by first | exact hd.drewN _ | exact (hd.drewN _).drewN _⟩
            case measure => simp [intOf]; omega
        · have hbq : (x != y) = true := by simpa using hxy
          rw [if_neg hxy] at hrn2
          have Hrn2 := Lib.hid hrn2
          clear hrn2 HB hxy HRi
          generalize runBefore xs i = r at *
          by_cases hfa : s < ((x - y).natAbs : Int)
          · have HH := Lib.hid (HFi.out (by rw [HFA.out]; exact decide_eq_true hfa))
            clear HFS HFA HFi
            have hb1 : decide (m < 1) = false := decide_eq_false (by omega)
            have hb2 : decide (s < ((x - y).natAbs : Int)) = true := decide_eq_true hfa
            go_wp2_with fail
            go_quiet (fail)
            go_wp2_with fail
            generalize hwq : World.drewN wr _ = wq
            have hdq : Drew wr wq := by rw [← hwq]; exact (Drew.refl _).drewN _
            replace hc := (hdq.cell _).trans hc
            replace hc' := (hdq.cell _).trans hc'
            replace hd := hd.trans hdq
            clear c0 c1 c2 c3 c4 hwq
            obtain ⟨c0, c1, c2, c3, c4⟩ := HS.out.ext (Ext.ofDrew hd)
            go_quiet ((go_at_call 172; exact RetQ.quiet (l01Abs_c _ _ (by omega) (by omega))))
            go_wp2_with fail
            go_ret
            exact ⟨_, rfl, by rw [HH.out]; rfl, e0.trans (Ext.ofDrew (by first | exact hd.drewN _ | exact (hd.drewN _).drewN _))⟩
          · have HF : Hid (farTo s xs (i+1) = false) := by show _ = _; rw [HFS.out, HFA.out]; exact decide_eq_false hfa
            clear HFS HFA HFi
            have hb1 : decide (m < 1) = false := decide_eq_false (by omega)
            have hb2 : decide (s < ((x - y).natAbs : Int)) = false := decide_eq_false hfa
            go_wp2_with fail
            go_quiet (fail)
            go_wp2_with fail
            generalize hwq : World.drewN wr _ = wq
            have hdq : Drew wr wq := by rw [← hwq]; exact (Drew.refl _).drewN _
            replace hc := (hdq.cell _).trans hc
            replace hc' := (hdq.cell _).trans hc'
            replace hd := hd.trans hdq
            clear c0 c1 c2 c3 c4 hwq
            obtain ⟨c0, c1, c2, c3, c4⟩ := HS.out.ext (Ext.ofDrew hd)
            go_quiet ((go_at_call 172; exact RetQ.quiet (l01Abs_c _ _ (by omega) (by omega))))
            go_wp2_with fail
            go_roundw
            case rel => exact ⟨i+1, by omega, by go_num, by rw [HR.out, Hrn1.out, Hrn2.out]; go_num, HF.out, by rw [HM.out, Hrn1.out, Hrn2.out]; have := Hmo.out; omega, by first | exact hd.drewN _ | exact (hd.drewN _).drewN _⟩
            case measure => simp [intOf]; omega
    · have hin : i = n := by omega
      have HH := Lib.hid (HT1.out (by rw [← Hn.out, ← hin]; exact Hfar.out) (by rw [← Hn.out, ← hin]; exact Hmo.out))
      go_wp2_with fail
      go_ret
      exact ⟨_, rfl, by rw [HH.out]; rfl, e0.trans (Ext.ofDrew hd)⟩
end Go.Proofs.YthgmojggpjnckaaGreat
