/- Proved: the first rule that cuts do not keep, as the reference tells it. -/
import Derived.Test.YtnndaboaeijbkaaDoorChecked
import Derived.Test.YtnndaboaeijbkaaDoorUKeyLaw
import Derived.Test.YtnndaboaeijbkaaDoorUAbs
namespace Go.Proofs.YtnndaboaeijbkaaDoor
open Go.ChangeShapes Go.WideShapes Go.ChangeAt Go.RowKit
set_option linter.unusedVariables false

def runBefore (l : List Int) : Nat → Nat
  | 0 => 0
  | i+1 => runAt l i
theorem runBefore_le (l : List Int) (i : Nat) : runBefore l i ≤ i := by
  cases i with
  | zero => exact Nat.le_refl _
  | succ i => exact (runAt_pos l i).2
theorem farAt_zero (s : Int) (l : List Int) : farAt s l 0 = false := rfl
theorem farAt_pos {s : Int} {l : List Int} {i : Nat} (h : 0 < i) : farAt s l i = decide (s < ((l.getD i 0 - l.getD (i-1) 0).natAbs : Int)) := by
  unfold farAt; rw [decide_eq_true h]; rfl
theorem keyFault_len {mk : MK} {l : List Int} (h : (l.length : Int) ≠ mk.c) : keyFault mk l = 1 := by unfold keyFault; rw [if_pos h]
theorem keyFault_cuts {mk : MK} {l : List Int} (h : (l.length : Int) = mk.c) (h2 : cutsOk mk l = false) : keyFault mk l = 2 := by
  unfold keyFault; rw [if_neg (by omega), if_pos h2]
theorem keyFault_far {mk : MK} {l : List Int} (h : (l.length : Int) = mk.c) (h2 : cutsOk mk l = true) (h3 : farTo mk.s l l.length = true) : keyFault mk l = 3 := by
  unfold keyFault; rw [if_neg (by omega), if_neg (by rw [h2]; decide), if_pos h3]
theorem keyFault_run {mk : MK} {l : List Int} (h : (l.length : Int) = mk.c) (h2 : cutsOk mk l = true) (h3 : farTo mk.s l l.length = false) (h4 : mk.m < (mostTo l l.length : Int)) : keyFault mk l = 4 := by
  unfold keyFault; rw [if_neg (by omega), if_neg (by rw [h2]; decide), if_neg (by rw [h3]; decide), if_pos h4]
theorem keyFault_kinds {mk : MK} {l : List Int} (h : (l.length : Int) = mk.c) (h2 : cutsOk mk l = true) (h3 : farTo mk.s l l.length = false) (h4 : ¬ mk.m < (mostTo l l.length : Int)) : keyFault mk l = if (kinds l : Int) < mk.l then 5 else 0 := by
  unfold keyFault; rw [if_neg (by omega), if_neg (by rw [h2]; decide), if_neg (by rw [h3]; decide), if_neg h4]
theorem cuts_in {mk : MK} {l : List Int} (h : cutsOk mk l = true) (i : Nat) (hi : i < l.length) : 0 ≤ l.getD i 0 ∧ l.getD i 0 ≤ mk.d - 1 := by
  unfold cutsOk at h
  obtain ⟨h1, -⟩ := Bool.and_eq_true_iff.1 h
  have := (List.all_eq_true.1 h1) _ (List.getElem_mem hi)
  have e : l.getD i 0 = l[i] := by simp [hi]
  rw [e]; exact inB_iff.1 this

set_option maxRecDepth 20000 in
set_option maxHeartbeats 1000000 in
theorem l02Fault_c (w : World) (mk : MK) (hd8 : 2 ≤ mk.d ∧ mk.d ≤ 8) (v : Value) (z : Zone) (xs : List Int) (h : IntsR z w v xs) :
    Calls Tryd.prog 30 #[mk.v, v] w (Ret w fun r _ => r = .int .i64 (keyFault mk xs)) := by
  have hcut := fun (w' : World) (he : Ext w w') => l02Cuts_c w' mk hd8 v z xs (stable_ints.ext h he)
  have hkin := fun (w' : World) (he : Ext w w') => l02Kinds_c w' v z xs (stable_ints.ext h he)
  have HC := Lib.hid hcut
  have HK := Lib.hid hkin
  clear hcut hkin
  have H1 : Hid ((xs.length : Int) ≠ mk.c → keyFault mk xs = 1) := keyFault_len
  have H2 : Hid ((xs.length : Int) = mk.c → cutsOk mk xs = false → keyFault mk xs = 2) := keyFault_cuts
  have H3 : Hid ((xs.length : Int) = mk.c → cutsOk mk xs = true → farTo mk.s xs xs.length = true → keyFault mk xs = 3) := keyFault_far
  have H4 : Hid ((xs.length : Int) = mk.c → cutsOk mk xs = true → farTo mk.s xs xs.length = false → mk.m < (mostTo xs xs.length : Int) → keyFault mk xs = 4) := keyFault_run
  have H5 : Hid ((xs.length : Int) = mk.c → cutsOk mk xs = true → farTo mk.s xs xs.length = false → ¬ mk.m < (mostTo xs xs.length : Int) → keyFault mk xs = if (kinds xs : Int) < mk.l then 5 else 0) := keyFault_kinds
  have H6 : Hid (cutsOk mk xs = true → ∀ i, i < xs.length → 0 ≤ xs.getD i 0 ∧ xs.getD i 0 ≤ mk.d - 1) := cuts_in
  generalize keyFault mk xs = kf at *
  generalize hq : cutsOk mk xs = q at *
  clear hq
  obtain ⟨c, d, s, m, l⟩ := mk
  unfold MK.v at *
  simp only at hd8 HC H1 H2 H3 H4 H5 H6 ⊢
  obtain ⟨a, n, cap, rfl, hn, hmax, -, -, -, hel⟩ := IntsR.shape h
  clear h
  have Hn := Lib.hid hn
  have Hel := Lib.hid hel
  clear hn hel
  go_enter Tryd.func30, Tryd.ntmps30
  by_cases hlc : (n : Int) = c
  · have hb : ((n : Int) != c) = false := by simpa using hlc
    have Hlc : Hid ((xs.length : Int) = c) := by show _ = _; rw [← Hn.out]; exact hlc
    clear hlc
    go_wp2_with fail
    generalize hw0 : World.alloc _ _ = w0
    have e0 : Ext w w0 := by rw [← hw0]; exact Ext.alloc _ _
    have c2 : w0.cell? ⟨w.heap.size, 2, none⟩ = some (.int .i64 s) := by rw [← hw0]; clear hw0; go_simp
    have c3 : w0.cell? ⟨w.heap.size, 3, none⟩ = some (.int .i64 m) := by rw [← hw0]; clear hw0; go_simp
    have c4 : w0.cell? ⟨w.heap.size, 4, none⟩ = some (.int .i64 l) := by rw [← hw0]; clear hw0; go_simp
    clear hw0
    refine Calls.mono (HC.out w0 e0) ?_
    rintro e w1 hr
    obtain ⟨r, rfl, rfl, e1⟩ := ret_ext hr
    clear hr
    replace c2 := e1.cell c2
    replace c3 := e1.cell c3
    replace c4 := e1.cell c4
    cases q with
    | false =>
      have HH := Lib.hid (H2.out Hlc.out rfl)
      go_wp2_with fail
      go_ret
      exact ⟨.int .i64 2, rfl, congrArg (Value.int .i64) HH.out.symm, e0.trans e1⟩
    | true =>
      have et := e0.trans e1
      have H6' := Lib.hid (H6.out rfl)
      clear H6
      go_wp2_with fail
      go_loopw [5, 6, 7] (fun s5 s6 s7 wr => ∃ i : Nat, i ≤ n ∧ s7 = .int .i64 i ∧ s5 = .int .i64 (runBefore xs i) ∧ s6 = .int .i64 (mostTo xs i) ∧ farTo s xs i = false ∧ Drew w1 wr) (fun _ _ s7 _ => n - (intOf s7).toNat)
      case atStart => exact ⟨0, Nat.zero_le _, rfl, rfl, rfl, rfl, Drew.refl _⟩
      case round =>
        obtain ⟨i, hi, rfl, rfl, rfl, hfar, hd⟩ := hrel
        have Hfar := Lib.hid hfar
        clear hfar
        have c2' := (hd.cell _).trans c2
        have c3' := (hd.cell _).trans c3
        have c4' := (hd.cell _).trans c4
        have hm1 := mostTo_le xs i
        have hr1 := runBefore_le xs i
        by_cases hlt : i < n
        · obtain ⟨b, off, rfl, hc, hx, hprev⟩ := Hel.out i hlt
          replace hc := (et.cell hc)
          replace hc := (hd.cell _).trans hc
          have hxin := H6'.out i (by have := Hn.out; omega)
          by_cases hi0 : i = 0
          · subst hi0
            have HM : Hid (mostTo xs 1 = 1) := rfl
            have HR : Hid (runBefore xs 1 = 1) := rfl
            have HF : Hid (farTo s xs 1 = false) := by show _ = _; rw [farTo_succ, Hfar.out, farAt_zero]; rfl
            have hz : mostTo xs 0 = 0 := rfl
            have hz2 : runBefore xs 0 = 0 := rfl
            rw [hz, hz2]
            clear hprev hz hz2 hm1 hr1
            generalize xs.getD 0 0 = x at *
            go_wp2_with fail
            go_quiet (fail)
            go_wp2_with fail
            go_quiet (fail)
            go_wp2_with fail
            go_roundw
            case rel => exact ⟨1, by omega, by go_num, by rw [HR.out]; go_num, by rw [HM.out]; go_num, HF.out, hd.drewN _⟩
            case measure => simp [intOf]; omega
          · obtain ⟨hc', hx'⟩ := hprev (by omega)
            replace hc' := (hd.cell _).trans (et.cell hc')
            have hyin := H6'.out (i-1) (by have := Hn.out; omega)
            have HFS : Hid (farTo s xs (i+1) = farAt s xs i) := by show _ = _; rw [farTo_succ, Hfar.out]; rfl
            have HFA := Lib.hid (farAt_pos (s := s) (l := xs) (show 0 < i by omega))
            have HB : Hid (runBefore xs i = runAt xs (i-1)) := by show _ = _; obtain ⟨j, rfl⟩ : ∃ j, i = j + 1 := ⟨i-1, by omega⟩; rfl
            have HRA : Hid (runAt xs i = if xs.getD i 0 = xs.getD (i-1) 0 then runAt xs (i-1) + 1 else 1) := by show _ = _; obtain ⟨j, rfl⟩ : ∃ j, i = j + 1 := ⟨i-1, by omega⟩; rfl
            have HR : Hid (runBefore xs (i+1) = runAt xs i) := rfl
            have HM := Lib.hid (mostTo_succ xs i)
            have hwi : IntKind.i64.wrap ((i : Int) - 1) = ((i - 1 : Nat) : Int) := by rw [IntWalk.i64_in _ (by omega)]; omega
            have hgt : decide (0 < i) = true := decide_eq_true (by omega)
            have HT : Hid (farAt s xs i = true → farTo s xs xs.length = true) := fun hf => farTo_yes (by have := Hn.out; omega) hf
            clear hprev hx hx'
            generalize xs.getD i 0 = x at *
            generalize xs.getD (i-1) 0 = y at *
            have hwxy : IntKind.i64.wrap (x - y) = x - y := IntWalk.i64_in _ (by omega)
            by_cases hfa : s < ((x - y).natAbs : Int)
            · have HH := Lib.hid (H3.out Hlc.out (by trivial) (HT.out (by rw [HFA.out]; exact decide_eq_true hfa)))
              go_wp2_with fail
              go_quiet ((go_at_call 46; exact RetQ.quiet (l01Abs_c _ _ (by omega) (by omega))))
              go_wp2_with fail
              go_ret
              exact ⟨.int .i64 3, rfl, congrArg (Value.int .i64) HH.out.symm, et.trans (Ext.ofDrew (hd.drewN _))⟩
            · have HF : Hid (farTo s xs (i+1) = false) := by show _ = _; rw [HFS.out, HFA.out]; exact decide_eq_false hfa
              clear HFS HFA HT
              by_cases hxy : x = y
              · have hbq : (x != y) = false := by simpa using hxy
                have HRR : Hid (runAt xs i = runAt xs (i-1) + 1) := by show _ = _; rw [HRA.out, if_pos hxy]
                rw [HB.out] at hr1 ⊢
                clear HRA HB hxy
                generalize runAt xs (i-1) = r at *
                generalize mostTo xs i = mm at *
                go_wp2_with fail
                go_quiet ((go_at_call 46; exact RetQ.quiet (l01Abs_c _ _ (by omega) (by omega))))
                go_wp2_with fail
                go_quiet (fail)
                go_wp2_with fail
                go_roundw
                case rel => exact ⟨i+1, by omega, by go_num, by rw [HR.out, HRR.out]; go_num, by rw [HM.out, HRR.out]; go_num, HF.out, hd.drewN _⟩
                case measure => simp [intOf]; omega
              · have hbq : (x != y) = true := by simpa using hxy
                have HRR : Hid (runAt xs i = 1) := by show _ = _; rw [HRA.out, if_neg hxy]
                clear HRA HB hxy
                generalize runBefore xs i = r at *
                generalize mostTo xs i = mm at *
                go_wp2_with fail
                go_quiet ((go_at_call 46; exact RetQ.quiet (l01Abs_c _ _ (by omega) (by omega))))
                go_wp2_with fail
                go_quiet (fail)
                go_wp2_with fail
                go_roundw
                case rel => exact ⟨i+1, by omega, by go_num, by rw [HR.out, HRR.out]; go_num, by rw [HM.out, HRR.out]; go_num, HF.out, hd.drewN _⟩
                case measure => simp [intOf]; omega
        · have hin : i = n := by omega
          have HL : Hid (i = xs.length) := by show _ = _; rw [← Hn.out]; exact hin
          have HF := Lib.hid Hfar.out
          have H4' : Hid (m < (mostTo xs i : Int) → kf = 4) := fun h => H4.out Hlc.out (by trivial) (by rw [← HL.out]; exact HF.out) (by rw [← HL.out]; exact h)
          have H5' : Hid (¬ m < (mostTo xs i : Int) → kf = if (kinds xs : Int) < l then 5 else 0) := fun h => H5.out Hlc.out (by trivial) (by rw [← HL.out]; exact HF.out) (by have := HL.out; subst this; omega)
          have HKq := Lib.hid (fun (w' : World) (he : Ext w w') => HK.out w' he)
          clear H4 H5 HK Hfar hr1
          generalize mostTo xs i = mm at *
          generalize kinds xs = kk at *
          by_cases hmm : m < (mm : Int)
          · have HH := Lib.hid (H4'.out hmm)
            go_wp2_with fail
            go_ret
            exact ⟨.int .i64 4, rfl, congrArg (Value.int .i64) HH.out.symm, et.trans (Ext.ofDrew hd)⟩
          · have HH := Lib.hid (H5'.out hmm)
            by_cases hkk : (kk : Int) < l
            · have HH2 : Hid (kf = 5) := by show _ = _; rw [HH.out, if_pos hkk]
              go_wp2_with fail
              go_quiet ((go_at_call 40; exact RetQ.quiet (HKq.out _ (et.trans (Ext.ofDrew (hd.drewN _))))))
              go_wp2_with fail
              go_ret
              exact ⟨.int .i64 5, rfl, congrArg (Value.int .i64) HH2.out.symm, et.trans (Ext.ofDrew (hd.drewN _))⟩
            · have HH2 : Hid (kf = 0) := by show _ = _; rw [HH.out, if_neg hkk]
              go_wp2_with fail
              go_quiet ((go_at_call 40; exact RetQ.quiet (HKq.out _ (et.trans (Ext.ofDrew (hd.drewN _))))))
              go_wp2_with fail
              go_ret
              exact ⟨.int .i64 0, rfl, congrArg (Value.int .i64) HH2.out.symm, et.trans (Ext.ofDrew (hd.drewN _))⟩
  · have hb : ((n : Int) != c) = true := by simpa using hlc
    have HH := Lib.hid (H1.out (by rw [← Hn.out]; exact hlc))
    clear hlc
    go_wp2_with fail
    go_ret
    exact ⟨.int .i64 1, rfl, congrArg (Value.int .i64) HH.out.symm, Ext.alloc _ _⟩
end Go.Proofs.YtnndaboaeijbkaaDoor
