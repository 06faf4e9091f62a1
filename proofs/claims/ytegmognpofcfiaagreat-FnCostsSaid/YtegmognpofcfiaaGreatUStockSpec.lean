/- Proved: StockOf of the reference. -/
import Derived.Test.YtegmognpofcfiaaGreatChecked
import Derived.Deep.RegionHeld3
import Derived.Test.YtegmognpofcfiaaGreatUStockImpl
import Derived.Test.YtegmognpofcfiaaGreatUPinsSpec
namespace Go.Proofs.YtegmognpofcfiaaGreat
open Go.ChangeShapes Go.WideShapes Go.ChangeAt Go.RowKit
set_option linter.unusedVariables false

set_option maxRecDepth 20000 in
set_option maxHeartbeats 2000000 in
theorem StockOfSpec_c (w : World) (mk : MK) (hmk : isMaker mk = true) (v : Value) (z : Zone) (ls : List (List (List Int))) (h : LocksR z w v ls) (hl40 : ls.length ≤ 40) (hok : ∀ i, i < ls.length → LockOk mk (ls.getD i [])) :
    Calls Tryz.prog 101 #[mk.v, v] w (Ret w (Stock3 w (stockL mk.d ls) 0)) := by
  have hm := isMaker_iff.1 hmk
  have hcall := fun w' => IsMakerSpec_c w' mk
  rw [hmk] at hcall
  have hIL := fun (w' : World) (u : Value) (y : Zone) (l : List (List Int)) (g : RowsR y w' u l) (ok : LockOk mk l) => IsLockSpec_c w' mk u y l g ok
  obtain ⟨a, n, cap, rfl, hn, hmax, -⟩ := SliceR.shape h
  rw [← hn] at hl40
  obtain ⟨mc, md, ms, mm, ml⟩ := mk
  obtain ⟨D, rfl⟩ : ∃ D : Nat, md = D := ⟨md.toNat, by simp only at hm; omega⟩
  simp only at hm
  have HCl := Lib.hid hcall
  have HIL := Lib.hid hIL
  have HL := Lib.hid (fun (k : Nat) (hk : k < n) => locks_at h hk)
  have Hn := Lib.hid hn
  have hD8 : D ≤ 8 := by omega
  have hD2 : 2 ≤ D := by omega
  have HOk : Hid (∀ i, i < n → LockOk ⟨mc, D, ms, mm, ml⟩ (ls.getD i [])) := fun i hi => hok i (by omega)
  clear hcall hIL hn h hok hm hmk
  unfold MK.v at *
  go_enter Tryz.func101, Tryz.ntmps101
  go_wp2_with fail
  generalize hw0 : World.alloc _ _ = w0
  obtain ⟨e0, S0⟩ := mk_box (mk := ⟨mc, D, ms, mm, ml⟩) hw0
  clear hw0
  refine Calls.mono (HCl.out w0) ?_
  rintro e w1' hr
  obtain ⟨r, rfl, rfl, e1'⟩ := ret_ext hr
  clear hr
  have HS0 := Lib.hid (S0.ext e1')
  have et0 := e0.trans e1'
  clear S0
  go_wp2_with fail
  go_loopw [8] (fun s wr => ∃ k : Nat, k ≤ n ∧ s = .int .i64 k ∧ Ext w1' wr) (fun s _ => n - (intOf s).toNat)
  case atStart => exact ⟨0, Nat.zero_le _, rfl, Ext.refl _⟩
  case round =>
   obtain ⟨k, hk, rfl, ew⟩ := hrel
   have etw := et0.trans ew
   by_cases hlt : k < n
   · obtain ⟨bl, ol, rfl, a3, n3, k3, -, hcl, yl, -, hyl⟩ := HL.out k hlt
     have hc := hcl wr etw
     have hcall := Lib.hid (fun (w' : World) (e : Ext wr w') => HIL.out w' _ _ _ (hyl w' (etw.trans e)) (HOk.out k hlt))
     obtain ⟨c0, c1, c2, c3, c4⟩ := HS0.out.ext ew
     clear hcl hyl
     go_wp2_with fail
     go_region_law (first | (go_simp; go_at_call 184; refine (hcall.out _ (by repeat (first | exact Ext.refl _ | assumption | (refine Ext.trans ?_ (Ext.alloc _ _)) | (refine Ext.trans ?_ (Ext.drew _)) | (refine Ext.trans ?_ (by assumption))))).mono ?_; rintro e w7 hr; obtain ⟨r, rfl, rfl, e7⟩ := ret_ext hr; clear hr; have e72 : Ext wr w7 := (by repeat (first | exact Ext.refl _ | assumption | (refine Ext.trans ?_ (Ext.alloc _ _)) | (refine Ext.trans ?_ (Ext.drew _)) | (refine Ext.trans ?_ (by assumption))))) | fail)
     all_goals (go_wp2_with fail; go_roundw)
     any_goals (simp [intOf]; omega)
     all_goals exact ⟨k + 1, by omega, by go_num, ew.trans e72⟩
   · have hkn : n = k := by omega
     subst hkn
     obtain ⟨w1, rfl⟩ : ∃ w1, w1 = wr := ⟨_, rfl⟩
     obtain ⟨c0, c1, c2, c3, c4⟩ := HS0.out.ext ew
     have S0 := HS0.out
     have e1 := ew
     have et := etw
     have hb40 : ¬ ((n : Int) > 40) := by omega
     clear hlt HIL
     have hmake : ∀ w', (Instr.makeSlice 29 (.int .i64 D) (.int .i64 D)).run Tryz.prog w' = .ok (.slice (some ⟨w'.heap.size, 0, none⟩) D D) (w'.alloc (.cells (madeCells #[.int .i64 0] D) 2)) := fun w' => by
       obtain ⟨i, hi, hz0, hz1, hz2⟩ := info_parts Tryz.infoI64
       have hr := run_make (P := Tryz.prog) w' 29 2 i (.int .i64 0) Tryz.underlying29 hi hz0 .i64 .i64 D D (by omega) (Int.le_refl _) (by rw [hz2]; omega) (by omega)
       simp only [Int.toNat_natCast, hz1, Nat.mul_one] at hr
       exact hr
     generalize hZ : Obj.cells (madeCells #[.int .i64 0] D) 2 = Z at *
     have HZ := Lib.hid hZ
     clear hZ
     go_upto_region 10 with fail
     go_cut [9, 10, 11] (fun s9 s10 s11 wx => ∃ g0 g1 g2 : Nat, s9 = .slice (some ⟨g0, 0, none⟩) D D ∧ s10 = .slice (some ⟨g1, 0, none⟩) D D ∧ s11 = .slice (some ⟨g2, 0, none⟩) D D ∧ (w1.heap.size ≤ g0 ∧ g0 < w1.heap.size + 3 ∧ w1.heap.size ≤ g1 ∧ g1 < w1.heap.size + 3 ∧ w1.heap.size ≤ g2 ∧ g2 < w1.heap.size + 3 ∧ g0 ≠ g1 ∧ g0 ≠ g2 ∧ g1 ≠ g2) ∧ wx.heap.size = w1.heap.size + 3 ∧ Rows3 wx w1.heap.size g0 g1 g2 D (zeroS D) ∧ Ext w1 wx)
     case first =>
       have R3 : ∀ wx, wx = ((w1.drew.alloc Z).alloc Z).alloc Z → Ext w1 wx ∧ wx.heap.size = w1.heap.size + 3 ∧ ∀ g, w1.heap.size ≤ g → g < w1.heap.size + 3 → OwnP (Value.int .i64) 2 w1.heap.size wx (.slice (some ⟨g, 0, none⟩) D D) (List.replicate D 0) := by
         rintro wx rfl
         have a0 : ∀ w' : World, w1.heap.size ≤ w'.heap.size → OwnP (Value.int .i64) 2 w1.heap.size (w'.alloc Z) (.slice (some ⟨w'.heap.size, 0, none⟩) D D) (List.replicate D 0) := fun w' hB => by
           rw [← HZ.out]
           unfold OwnP
           have e1 : (madeCells #[Value.int .i64 0] D).toList = (List.replicate D (0 : Int)).map (Value.int .i64) := by rw [toList_madeCells_one]; simp
           rw [← e1, List.length_replicate]
           exact World.ownsRow_lit w' _ D hB (by unfold maxLen; omega) (by rw [size_madeCells]; simp)
         refine ⟨(((Ext.drew _).trans (Ext.alloc _ _)).trans (Ext.alloc _ _)).trans (Ext.alloc _ _), by simp, fun g h1 h2 => ?_⟩
         have k1 : (w1.drew.alloc Z).heap.size = w1.heap.size + 1 := World.size_alloc _ _
         have k2 : ((w1.drew.alloc Z).alloc Z).heap.size = w1.heap.size + 2 := by rw [World.size_alloc, k1]
         have q0 := ((a0 w1.drew (Nat.le_refl _)).alloc Z).alloc Z
         have q1 := (a0 (w1.drew.alloc Z) (by omega)).alloc Z
         have q2 := a0 ((w1.drew.alloc Z).alloc Z) (by omega)
         rw [k1] at q1
         rw [k2] at q2
         rcases (by omega : g = w1.heap.size ∨ g = w1.heap.size + 1 ∨ g = w1.heap.size + 2) with rfl | rfl | rfl
         · exact q0
         · exact q1
         · exact q2
       have HR3 := Lib.hid R3
       clear R3
       go_region_held3 (fun w' => w'.cell? ⟨w.heap.size, 1, none⟩ = some (.int .i64 D)) (exact Ext.cell (w := w1) (by repeat (first | exact Ext.refl _ | assumption | (refine Ext.trans ?_ (Ext.alloc _ _)) | (refine Ext.trans ?_ (Ext.drew _)) | (refine Ext.trans ?_ (by assumption)))) c1) (fail)
       all_goals
         obtain ⟨x1, x2, x3⟩ := HR3.out _ rfl
         clear HR3 HL HCl HOk
         go_wp2_with fail
         go_meet
         first | exact ⟨_, _, _, rfl, rfl, rfl, ⟨by omega, by omega, by omega, by omega, by omega, by omega, by omega, by omega, by omega⟩, x2, ⟨x3 _ (by omega) (by omega), x3 _ (by omega) (by omega), x3 _ (by omega) (by omega)⟩, x1⟩ | skip
     case rest =>
       obtain ⟨g0, g1, g2, rfl, rfl, rfl, ⟨p1, p2, p3, p4, p5, p6, n1, n2, n3⟩, hsz, R0, ex⟩ := hcut
       generalize hB : w1.heap.size = B at *
       have HB := Lib.hid hB
       clear hB hmake HZ c0 c1 c2 c3 c4
       have HS := Lib.hid (S0.ext e1)
       have HLS := Lib.hid (fun (i : Nat) => (Len3.zero D).locks (E := (D : Int)) ls i)
       have HW3 : Hid (∀ i, Wide3 (locksS D (zeroS D) ls i)) := fun i => (Wide3.zero D).locks ls i
       have HSS : Hid (∀ i, locksS D (zeroS D) ls (i+1) = pinsS (locksS D (zeroS D) ls i) (pinsL D (ls.getD i [])) (pinsL D (ls.getD i [])).length) := fun i => rfl
       have HRes : Hid (stockL D ls = locksS D (zeroS D) ls n) := by show _ = _; unfold stockL; rw [Int.toNat_natCast, Hn.out]
       have HZ0 : Hid (zeroS D = locksS D (zeroS D) ls 0) := rfl
       generalize stockL D ls = res at *
       clear S0 HCl HS0
       have R1 : Rows3 wc B g0 g1 g2 D (locksS D (zeroS D) ls 0) := by rw [← HZ0.out]; exact R0
       clear R0 HZ0
       generalize locksS D (zeroS D) ls = LS at *
       go_wp2_with fail
       go_loopw [12, 13, 14, 15, 16] (fun s _ _ _ _ wr => ∃ i : Nat, i ≤ n ∧ s = .int .i64 i ∧ Rows3 wr B g0 g1 g2 D (LS i) ∧ Ext w1 wr ∧ B + 3 ≤ wr.heap.size) (fun s _ _ _ _ _ => n - (intOf s).toNat)
       case atStart => exact ⟨0, Nat.zero_le _, rfl, R1, ex, by omega⟩
       case round =>
         obtain ⟨i, hi, rfl, hR, ew, hsw⟩ := hrel
         have etw := et.trans ew
         by_cases hlt : i < n
         · obtain ⟨bl, ol, rfl, a3, n3', k3, -, hcl, yl, -, hyl⟩ := HL.out i hlt
           have hc := hcl wr etw
           have ok := HOk.out i hlt
           have HCP := Lib.hid (fun (w' : World) (e : Ext wr w') => l05Pins_c w' ⟨mc, D, ms, mm, ml⟩ _ _ _ (hyl w' (etw.trans e)) ok)
           obtain ⟨c0, c1, c2, c3, c4⟩ := HS.out.ext ew
           have HPin : Hid (∀ c, c < (pinsL (D : Int) (ls.getD i [])).length → 2 ≤ ((pinsL (D : Int) (ls.getD i [])).getD c []).length ∧ ∀ x ∈ (pinsL (D : Int) (ls.getD i [])).getD c [], 0 ≤ x ∧ x < D) := fun c hc => pins_in ok hc
           have HSi := Lib.hid (HSS.out i)
           have HCQ : Hid (∀ (w' : World), Ext wr w' → Calls Tryz.prog 185 #[.agg #[.int .i64 mc, .int .i64 D, .int .i64 ms, .int .i64 mm, .int .i64 ml], .agg #[.slice a3 n3' k3]] w' (Ret w' fun r w'' => RowsR (.new w' w'') w'' r (pinsL (D : Int) (ls.getD i [])))) := fun w' e => HCP.out w' e
           clear HCP
           generalize pinsL (D : Int) (ls.getD i []) = ps at *
           clear hcl hyl ok
           have hL3 := HLS.out i
           have HRX := Lib.hid hR
           generalize hLSi : LS i = S at *
           clear hLSi hR
           go_wp2_with fail
           go_upto_region 14 with fail
           go_cut [13] (fun s13 wx => RowsR ⟨wr.heap.size, wx.heap.size, true⟩ wx s13 ps ∧ Ext wr wx)
           case first =>
             go_region_law (first | (go_simp; go_at_call 185; refine (HCQ.out _ (by repeat (first | exact Ext.refl _ | assumption | (refine Ext.trans ?_ (Ext.alloc _ _)) | (refine Ext.trans ?_ (Ext.drew _)) | (refine Ext.trans ?_ (by assumption))))).mono ?_; rintro e w7 hr; obtain ⟨r, rfl, hps, e7⟩ := ret_ext hr; clear hr; have e72 : Ext wr w7 := (by repeat (first | exact Ext.refl _ | assumption | (refine Ext.trans ?_ (Ext.alloc _ _)) | (refine Ext.trans ?_ (Ext.drew _)) | (refine Ext.trans ?_ (by assumption))))) | fail)
             all_goals (go_wp2_with fail; go_meet; exact ⟨hps, e72⟩)
           case rest =>
           obtain ⟨hps, eX⟩ := hcut
           obtain ⟨w7, rfl⟩ : ∃ w7, w7 = wc := ⟨_, rfl⟩
           clear c0 c1 c2 c3 c4 HCQ
           obtain ⟨ap, np, kp, rfl, hnp, hmp, -⟩ := SliceR.shape hps
           have HP := Lib.hid (fun (c : Nat) (hc : c < np) => rows_in (Z := ⟨B, B + 3, true⟩) hps (fun k h1 h2 => by have q1 := h1.1; have q2 := h2.2; simp only at q1 q2; omega) hc)
           have e17 : Ext w1 w7 := ew.trans eX
           have Hnp := Lib.hid hnp
           have R7 : Rows3 w7 B g0 g1 g2 D (pinsS S ps 0) := HRX.out.ext eX
           have h7s : B + 3 ≤ w7.heap.size := Nat.le_trans hsw eX.size
           have HLp := Lib.hid (fun c => hL3.pins ps c)
           have HPS : Hid (∀ c, pinsS S ps (c+1) = stackS (pinsS S ps c) (ps.getD c [])) := fun c => rfl
           clear hnp hps hL3 HRX hc
           generalize pinsS S ps = PS at *
           obtain ⟨wo, rfl⟩ : ∃ wo, wo = wr := ⟨_, rfl⟩
           go_wp2_with fail
           go_loopw [14, 15, 16] (fun s _ _ wr => ∃ c : Nat, c ≤ np ∧ s = .int .i64 c ∧ Rows3 wr B g0 g1 g2 D (PS c) ∧ Within ⟨B, B + 3, true⟩ w7 wr) (fun s _ _ _ => np - (intOf s).toNat)
           case atStart => exact ⟨0, Nat.zero_le _, rfl, R7, Within.refl _ _⟩
           case round =>
             obtain ⟨c, hcn, rfl, hRc, hwc⟩ := hrel
             by_cases hltc : c < np
             · obtain ⟨b, off, hae, a1, m1, cc1, hm1, hcap1, hmx1, hrow, hel⟩ := HP.out c hltc
               subst hae
               obtain ⟨hm2, hin⟩ := HPin.out c (by rw [← Hnp.out]; exact hltc)
               rw [← hm1] at hm2
               obtain ⟨b1, o1, ha1, -⟩ := hel 0 (by omega)
               subst ha1
               have HX : Hid (∀ j, j < m1 → ∀ w', Within ⟨B, B + 3, true⟩ w7 w' → w'.cell? ⟨b1, o1 + j, none⟩ = some (.int .i64 ((ps.getD c []).getD j 0))) := fun j hj w' hw => by
                 obtain ⟨b1', o1', he, hx⟩ := hel j hj
                 injection he with he; injection he with he1 he2 _
                 subst he1; subst he2
                 exact hx w' hw
               have HI : Hid (∀ j, j < m1 → ∃ k : Nat, (ps.getD c []).getD j 0 = (k : Int) ∧ k < D) := fun j hj => by
                 have hjl : j < (ps.getD c []).length := by omega
                 obtain ⟨q1, q2⟩ := hin _ (List.getElem_mem hjl)
                 rw [getElem_getD0] at q1 q2
                 exact ⟨((ps.getD c []).getD j 0).toNat, by omega, by omega⟩
               have hrowc := hrow wr hwc
               have HROW := Lib.hid hrow
               have HSc : Hid (PS (c+1) = stackS (PS c) (ps.getD c [])) := HPS.out c
               have Hm1 := Lib.hid hm1
               have hLc := HLp.out c
               clear hrow hel hm1 hin
               generalize ps.getD c [] = st at *
               generalize PS c = T at *
               obtain ⟨k0, hk0, hk0D⟩ := HI.out 0 (by omega)
               obtain ⟨kl, hkl, hklD⟩ := HI.out (m1 - 1) (by omega)
               have hx0 := HX.out 0 (by omega) wr hwc
               rw [Nat.add_zero, hk0] at hx0
               obtain ⟨y0, f0⟩ := OwnP.getD hRc.o0 hk0D
               obtain ⟨x, hx⟩ : ∃ x, T.1.getD k0 0 = x := ⟨_, rfl⟩
               rw [hx] at y0
               obtain ⟨vv, hw1⟩ : ∃ vv, IntKind.i64.wrap (x + 1) = vv := ⟨_, rfl⟩
               have hw2 : wrap64 (x + 1) = vv := (IntWalk.i64_left _).symm.trans hw1
               have Hb0 : Hid (bump T.1 (st.getD 0 0) = T.1.set k0 vv) := by show _ = _; rw [hk0, bump_nat, hx, hw1]
               clear hx
               have hwm : IntKind.i64.wrap ((m1 : Int) - 1) = ((m1 - 1 : Nat) : Int) := by rw [IntWalk.i64_in _ (by omega)]; omega
               have Hk0 := Lib.hid hk0
               have Hkl := Lib.hid hkl
               have HRc := Lib.hid hRc
               have Hwc := Lib.hid hwc
               have hm10 : 0 < m1 := by omega
               have hm11 : m1 - 1 < m1 := by omega
               clear hk0 hkl hRc hwc
               go_upto_region 20 with fail
               generalize hwA : World.setCell _ _ _ = wA
               have RA := HRc.out.set0 n1 n2 k0 vv
               rw [hwA] at RA
               clear hw1 hw2
               have hwcA : Within ⟨B, B + 3, true⟩ w7 wA := by rw [← hwA]; exact Hwc.out.setCell ⟨p1, p2⟩ _
               clear hwA y0 f0 hx0 hrowc HRc Hwc
               have hrowc := HROW.out wA hwcA
               have hxl := HX.out (m1 - 1) (by omega) wA hwcA
               rw [Hkl.out] at hxl
               obtain ⟨y2, f2⟩ := OwnP.getD RA.o2 hklD
               have HRA := Lib.hid RA
               have HwA := Lib.hid hwcA
               simp only at y2
               obtain ⟨x, hx⟩ : ∃ x, T.2.2.getD kl 0 = x := ⟨_, rfl⟩
               rw [hx] at y2
               obtain ⟨vl, hw1⟩ : ∃ vv, IntKind.i64.wrap (x + 1) = vv := ⟨_, rfl⟩
               have hw2 : wrap64 (x + 1) = vl := (IntWalk.i64_left _).symm.trans hw1
               have Hbl : Hid (bump T.2.2 (st.getD (m1 - 1) 0) = T.2.2.set kl vl) := by show _ = _; rw [Hkl.out, bump_nat, hx, hw1]
               clear RA hwcA hx
               go_upto_region 21 with fail
               generalize hwB : World.setCell _ _ _ = wB
               have RB := HRA.out.set2 n2 n3 kl vl
               rw [hwB] at RB
               clear hw1 hw2
               have hwcB : Within ⟨B, B + 3, true⟩ w7 wB := by rw [← hwB]; exact HwA.out.setCell ⟨p5, p6⟩ _
               clear hwB y2 f2 hxl HRA HwA hrowc
               have HRB := Lib.hid RB
               clear RB
               have RB' : Rows3 wB B g0 g1 g2 D (T.1.set k0 vv, (wafTo T.2.1 st 0, T.2.2.set kl vl)) := HRB.out
               have HWL : Hid (∀ j, (wafTo T.2.1 st j).length = D) := fun j => by show _ = _; rw [wafTo_len, hLc.l1]
               have HWS : Hid (∀ j, wafTo T.2.1 st (j+1) = bump (wafTo T.2.1 st j) (st.getD (j+1) 0)) := fun j => rfl
               have HEnd : Hid (∀ W, Rows3 W B g0 g1 g2 D (T.1.set k0 vv, (wafTo T.2.1 st (m1 - 2), T.2.2.set kl vl)) → Rows3 W B g0 g1 g2 D (PS (c+1))) := fun W h => by
                 have e : PS (c+1) = (T.1.set k0 vv, (wafTo T.2.1 st (m1 - 2), T.2.2.set kl vl)) := by
                   rw [HSc.out]
                   show (bump T.1 (st.getD 0 0), (wafTo T.2.1 st (st.length - 2), bump T.2.2 (st.getD (st.length - 1) 0))) = _
                   rw [← Hm1.out, Hb0.out, Hbl.out]
                 rw [e]; exact h
               clear HRB hLc HSc Hb0 Hbl Hk0 Hkl
               generalize wafTo T.2.1 st = WT at *
               generalize T.1.set k0 vv = t0 at *
               generalize T.2.2.set kl vl = t2 at *
               go_wp2_with fail
               go_loopw [16] (fun s wr => ∃ j : Nat, 1 ≤ j ∧ j ≤ m1 - 1 ∧ s = .int .i64 j ∧ Rows3 wr B g0 g1 g2 D (t0, (WT (j - 1), t2)) ∧ Within ⟨B, B + 3, true⟩ w7 wr) (fun s _ => (m1 - 1) - (intOf s).toNat)
               case atStart => exact ⟨1, Nat.le_refl _, by omega, rfl, RB', hwcB⟩
               case round =>
                 obtain ⟨j, hj1, hj, rfl, hRj, hwj⟩ := hrel
                 by_cases hltj : j < m1 - 1
                 · obtain ⟨kj, hkj, hkjD⟩ := HI.out j (by omega)
                   have hxj := HX.out j (by omega) wr hwj
                   have hrowc := HROW.out wr hwj
                   rw [hkj] at hxj
                   obtain ⟨y1, f1⟩ := OwnP.getD hRj.o1 hkjD
                   simp only at y1
                   obtain ⟨x, hx⟩ : ∃ x, (WT (j - 1)).getD kj 0 = x := ⟨_, rfl⟩
                   rw [hx] at y1
                   obtain ⟨vj, hw1⟩ : ∃ vv, IntKind.i64.wrap (x + 1) = vv := ⟨_, rfl⟩
                   have hw2 : wrap64 (x + 1) = vj := (IntWalk.i64_left _).symm.trans hw1
                   have HT := Lib.hid (show WT (j + 1 - 1) = (WT (j - 1)).set kj vj by
                     have := HWS.out (j - 1)
                     rw [show j - 1 + 1 = j by omega] at this
                     rw [Nat.add_sub_cancel, this, hkj, bump_nat, hx, hw1])
                   have HRj := Lib.hid hRj
                   have Hwj := Lib.hid hwj
                   have hj2 : (j : Int) < ((m1 - 1 : Nat) : Int) := by omega
                   have hjm : j < m1 := by omega
                   clear hkj hx hRj hwj
                   go_wp2_with fail
                   generalize hwD : World.setCell _ _ _ = wD
                   have RD := HRj.out.set1 n1 n3 kj vj
                   rw [hwD] at RD
                   have hwcD : Within ⟨B, B + 3, true⟩ w7 wD := by rw [← hwD]; exact Hwj.out.setCell ⟨p3, p4⟩ _
                   clear hwD
                   go_roundw
                   case rel => exact ⟨j + 1, by omega, by omega, by go_num, by rw [HT.out]; exact RD, hwcD⟩
                   case measure => simp [intOf]; omega
                 · have hjj : j = m1 - 1 := by omega
                   subst hjj
                   have HRF := Lib.hid (HEnd.out wr (by rw [show m1 - 2 = m1 - 1 - 1 by omega]; exact hRj))
                   have HwF := Lib.hid hwj
                   clear hRj hwj
                   go_wp2_with fail
                   go_roundw
                   case rel => exact ⟨c + 1, by omega, by go_num, HRF.out, HwF.out⟩
                   case measure => simp [intOf]; omega
             · have hcc : c = np := by omega
               subst hcc
               have HRn : Hid (Rows3 wr B g0 g1 g2 D (LS (i + 1))) := by show Rows3 _ _ _ _ _ _ _; rw [HSi.out, ← Hnp.out]; exact hRc
               have ewn : Ext w1 wr := Below.trans e17 (hwc.below (by show w1.heap.size ≤ B; rw [HB.out]; exact Nat.le_refl _))
               have hss := hwc.size
               clear hRc HP
               go_wp2_with fail
               go_roundw
               case rel => exact ⟨i + 1, by omega, by go_num, HRn.out, ewn, by omega⟩
               case measure => simp [intOf]; omega
         · have hin : i = n := by omega
           subst hin
           have HR' := Lib.hid hR
           have HWi := Lib.hid (HW3.out i)
           clear hR
           go_wp2_with fail
           have hs3 := hsw
           have h1s : w.heap.size ≤ B := by rw [← HB.out]; exact et.size
           have hR2 := HR'.out
           have hW2 := HWi.out
           refine bodyPost_ret (v := .tuple #[.slice (some ⟨g0, 0, none⟩) D D, .slice (some ⟨g1, 0, none⟩) D D, .slice (some ⟨g2, 0, none⟩) D D, .int .i64 0]) (by simp [results, Tryz.results101, go_sem]) rfl ⟨_, rfl, ?_, etw⟩
           rw [HRes.out]
           exact ⟨_, _, _, g0, g0 + 1, g1, g1 + 1, g2, g2 + 1, rfl, ⟨by omega, by omega, by omega, by omega, by omega, by omega, by omega, by omega, by omega⟩, OwnP.inOne hR2.o0 hW2.w0, OwnP.inOne hR2.o1 hW2.w1, OwnP.inOne hR2.o2 hW2.w2⟩
end Go.Proofs.YtegmognpofcfiaaGreat
