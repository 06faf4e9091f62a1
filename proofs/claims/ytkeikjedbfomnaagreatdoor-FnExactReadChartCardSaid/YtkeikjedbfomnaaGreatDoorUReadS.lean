/- Proved: reading a chart, the reference. -/
import Derived.Test.YtkeikjedbfomnaaGreatDoorChecked
import Derived.Deep.RegionHeld3
import Derived.Deep.Cut
import Derived.Deep.CutBlock
import Derived.Test.YtkeikjedbfomnaaGreatDoorUPkRdA
import Derived.Test.YtkeikjedbfomnaaGreatDoorUPkRdB
import Derived.Test.YtkeikjedbfomnaaGreatDoorUChartS
import Derived.Test.YtkeikjedbfomnaaGreatDoorUPkD
namespace Go.Proofs.YtkeikjedbfomnaaGreatDoor
open Go.ChangeShapes Go.WideShapes Go.ChangeAt Go.RowKit
set_option linter.unusedVariables false

/-- where the two lists begin -/
theorem two_startS {w : World} : Two (fun _ => False) w.heap.size ((w.alloc (.cells #[] 46)).alloc (.cells #[] 46)) (.slice (some ⟨w.heap.size, 0, none⟩) 0 0) [] (.slice (some ⟨w.heap.size + 1, 0, none⟩) 0 0) [] (fun _ => False) (fun _ => False) ∧
    Ext w ((w.alloc (.cells #[] 46)).alloc (.cells #[] 46)) := by
  have hs : (w.alloc (.cells #[] 46)).heap.size = w.heap.size + 1 := by simp
  have o1 := OwnA.empty (b := true) (A := fun _ => False) (E := IntsR) (e := 46) (B := w.heap.size) (w := w.alloc (.cells #[] 46)) (by omega)
  rw [hs] at o1
  refine ⟨⟨OwnA.below stable_ints (OwnA.empty (Nat.le_refl _)) (Ext.alloc _ _), o1, fun _ h => h.elim, (fun _ _ h => h), (fun _ _ h => h), (fun k h h2 => ?_), (fun _ h => h.elim), (fun _ h => h.elim), fun k hk => hk.elim⟩, (Ext.alloc _ _).trans (Ext.alloc _ _)⟩
  injection h with h
  injection h2 with h2
  simp only at h h2
  omega

set_option maxRecDepth 20000 in
set_option maxHeartbeats 900000 in
theorem ReadChartSpec_c (w : World) (s : ByteArray) (hs : s.size ≤ maxLen) :
    Calls Tryz.prog 5 #[.string s] w (Ret w (ReadR w (readC s))) := by
  have R0 := res_new w 26
  have e0 : Ext w (w.alloc (.cells #[.int .i64 0, .int .i64 0, .int .i64 0, .int .i64 0, .int .i64 0, .slice none 0 0] 26)) := Ext.alloc _ _
  unfold maxLen at hs
  have HBad : Hid (∀ (W : World) (c : Int), readC s = noRes c → Ext w W → Ret w (ReadR w (readC s)) (.returned (.tuple #[.agg #[.int .i64 0, .int .i64 0, .int .i64 0, .int .i64 0, .int .i64 0, .slice none 0 0], .slice none 0 0, .int .i64 c])) ((((((W.setCell ⟨w.heap.size, 0, none⟩ (.int .i64 0)).setCell ⟨w.heap.size, 1, none⟩ (.int .i64 0)).setCell ⟨w.heap.size, 2, none⟩ (.int .i64 0)).setCell ⟨w.heap.size, 3, none⟩ (.int .i64 0)).setCell ⟨w.heap.size, 4, none⟩ (.int .i64 0)).setCell ⟨w.heap.size, 5, none⟩ (.slice none 0 0))) := fun W c h e => ⟨_, rfl, ReadR.bad h, ext_putS e (Nat.le_refl _) _ _ _ _ _ _⟩
  by_cases hlong : 240 < s.size
  · have HB := Lib.hid (readC_long hlong)
    have hb : decide ((240 : Int) < (s.size : Int)) = true := decide_eq_true (by omega)
    clear HBad
    go_enter Tryz.func5, Tryz.ntmps5
    go_wp2_with fail
    obtain ⟨r0, r1, r2, r3, r4, r5, f0, f1, f2, f3, f4, f5⟩ := R0
    refine bodyPost_ret (v := .tuple #[.agg #[.int .i64 0, .int .i64 0, .int .i64 0, .int .i64 0, .int .i64 0, .slice none 0 0], .slice none 0 0, .int .i64 3]) (by simp [results, Tryz.results5, go_sem, r0, r1, r2, r3, r4, r5]) rfl ⟨_, rfl, ReadR.bad HB.out, e0⟩
  · have hb : decide ((240 : Int) < (s.size : Int)) = false := decide_eq_false (by omega)
    have Hs : Hid (¬ 240 < s.size) := hlong
    have HSp := Lib.hid (fun (w' : World) (t : ByteArray) (ht : t.size ≤ 240) => l01Split_c w' t (by omega) 10 10 rfl)
    have HSw := Lib.hid (fun (w' : World) (t : ByteArray) (ht : t.size ≤ 240) => l01Split_c w' t (by omega) 32 32 rfl)
    have HMk := Lib.hid (fun (w' : World) (t : ByteArray) (ht : t.size ≤ 240) => l27Maker_c w' t (by omega))
    have HRk := Lib.hid (fun (w' : World) (t : ByteArray) (ht : t.size ≤ 240) => l02Read_c w' t (by omega))
    have Hsz : Hid (∀ i (h : i < (splitL 10 s.data.toList).length), (strOf (splitL 10 s.data.toList)[i]).size ≤ 240) := fun i h => by
      rw [strOf_size]
      exact Nat.le_trans (splitL_le 10 s.data.toList _ (List.getElem_mem h)) (by rw [len_str]; omega)
    have HszM : Hid (∀ (b : UInt8) (l : List UInt8), l.length ≤ 240 → ∀ x ∈ (splitL b l).map strOf, x.size ≤ maxLen) := fun b l hl x hx => by
      obtain ⟨y, hy, rfl⟩ := List.mem_map.1 hx
      rw [strOf_size]
      have := splitL_le b l y hy
      unfold maxLen; omega
    go_enter Tryz.func5, Tryz.ntmps5
    go_wp2_with fail
    generalize w.alloc (.cells #[.int .i64 0, .int .i64 0, .int .i64 0, .int .i64 0, .int .i64 0, .slice none 0 0] 26) = w0 at *
    refine Calls.mono (HSp.out w0 s (by omega)) ?_
    rintro e w1 hr
    obtain ⟨r, rfl, o1, e1⟩ := ret_ext hr
    clear hr
    have hst := OwnP.reads o1 (E := StrR) (fun _ x hx => ⟨rfl, HszM.out 10 s.data.toList (by rw [len_str]; omega) x hx⟩) (Nat.le_refl w0.heap.size) (Nat.le_refl _)
    obtain ⟨a1, n1, k1, rfl, hn1, hn1m, hnk1⟩ := ownP_caps o1
    rw [List.length_map] at hn1
    have hn10 : 0 < n1 := by rw [hn1]; exact splitL_pos _ _
    have Hn1 := Lib.hid hn1
    have Hn1m : Hid (n1 ≤ 241) := by
      show _ ≤ _
      rw [hn1, splitL_count]
      have : s.data.toList.count 10 ≤ s.size := by rw [← len_str]; exact List.count_le_length
      omega
    obtain ⟨bb, rfl, -, -, hc0, -⟩ := OwnP.elem o1 ⟨#[]⟩ 0 hn10
    have HEl : Hid (∀ i (h : i < (splitL 10 s.data.toList).length), ∀ w', Ext w1 w' → w'.cell? ⟨bb, i, none⟩ = some (.string (strOf (splitL 10 s.data.toList)[i]))) := fun i h w' e => by
      obtain ⟨bb', he, -, -, hc, -⟩ := OwnP.elem o1 ⟨#[]⟩ i (by rw [hn1]; exact h)
      injection he with he; injection he with he _ _
      subst he
      rw [List.getD_eq_getElem?_getD, List.getElem?_eq_getElem (by rw [List.length_map]; exact h), List.getElem_map] at hc
      exact e.cell hc
    have HE1 := Lib.hid (e0.trans e1)
    have HR1 := Lib.hid (R0.ext e1)
    have hpos : 0 < (splitL 10 s.data.toList).length := splitL_pos _ _
    have hc00 := HEl.out 0 hpos w1 (Ext.refl _)
    have hmk := HMk.out w1 (strOf (splitL 10 s.data.toList)[0]) (Hsz.out 0 hpos)
    rw [data_strOf] at hmk
    have HHd : Hid ((splitL 10 s.data.toList).headD [] = (splitL 10 s.data.toList)[0]) := by
      show _ = _
      generalize splitL 10 s.data.toList = ls at *
      cases ls with
      | nil => simp at hpos
      | cons a l => rfl
    clear hst hn1 o1 hc0 e0 e1 R0 HMk
    generalize hw00 : strOf (splitL 10 s.data.toList)[0] = word0 at *
    rw [← HHd.out] at hmk
    clear hw00 HHd hpos hlong hs
    go_wp2_with fail
    refine Calls.mono hmk ?_
    rintro e w2 hr
    obtain ⟨r, rfl, ⟨mk, q, rfl, hline⟩, e2⟩ := ret_ext hr
    clear hr hmk hc00
    have HLn := Lib.hid hline
    have HE2 := Lib.hid e2
    obtain ⟨mc, md, ms, mm, ml⟩ := mk
    unfold MK.v
    clear hline e2
    simp only
    go_upto_region 5 with fail
    generalize hwb : World.alloc w2 _ = w3
    obtain ⟨e3, S3⟩ := mk_box (mk := ⟨mc, md, ms, mm, ml⟩) hwb
    have HS3 := Lib.hid S3
    have HE3 := Lib.hid (HE2.out.trans e3)
    have HE3x := Lib.hid e3
    clear hwb S3 e3
    cases q with
    | false =>
      have HB := Lib.hid (HBad.out w3 6 (readC_maker Hs.out HLn.out) (HE1.out.trans HE3.out))
      obtain ⟨r0, r1, r2, r3, r4, r5, f0, f1, f2, f3, f4, f5⟩ := HR1.out.ext HE3.out
      clear HBad
      go_wp2_with fail
      refine bodyPost_ret (v := .tuple #[.agg #[.int .i64 0, .int .i64 0, .int .i64 0, .int .i64 0, .int .i64 0, .slice none 0 0], .slice none 0 0, .int .i64 6]) (by simp [results, Tryz.results5, go_sem, r0, r1, r2, r3, r4, r5]) rfl HB.out
    | true =>
      obtain ⟨c0, c1, c2, c3, c4⟩ := HS3.out
      have htwo := two_startS (w := w3)
      go_upto_region 8 with fail
      generalize World.alloc (World.alloc w3 _) _ = w5 at *
      obtain ⟨hT5, e5⟩ := htwo
      have HT5 := Lib.hid hT5
      have HE5 := Lib.hid e5
      obtain ⟨D, hD⟩ : ∃ D, (splitL 10 s.data.toList).drop 1 = D := ⟨_, rfl⟩
      have HDl : Hid (∀ i (h : i < D.length) w', Ext w1 w' → w'.cell? ⟨bb, i + 1, none⟩ = some (.string (strOf D[i]))) := fun i h w' e => by
        subst hD
        have h1 : i + 1 < (splitL 10 s.data.toList).length := by have h' := h; rw [List.length_drop] at h'; omega
        have e2 : ((splitL 10 s.data.toList).drop 1)[i] = (splitL 10 s.data.toList)[i + 1] := by rw [List.getElem_drop]; congr 1; omega
        rw [HEl.out (i + 1) h1 w' e, e2]
      have HDn : Hid (D.length + 1 = n1) := by
        show _ = _
        have h1 := Hn1.out
        have h2 := splitL_pos 10 s.data.toList
        rw [← hD, List.length_drop]; omega
      have HDz : Hid (∀ i (h : i < D.length), (strOf D[i]).size ≤ 240) := fun i h => by
        subst hD
        have h' := h
        rw [List.length_drop] at h'
        have e2 : ((splitL 10 s.data.toList).drop 1)[i] = (splitL 10 s.data.toList)[i + 1] := by rw [List.getElem_drop]; congr 1; omega
        rw [e2]
        exact Hsz.out (i + 1) (by omega)
      have HD := Lib.hid hD
      obtain ⟨b9, hb9⟩ : ∃ b9, w3.heap.size = b9 := ⟨_, rfl⟩
      rw [hb9] at HT5
      rw [hb9]
      have hDm : D.length ≤ 100000 := by have := HDn.out; have := Hn1m.out; omega
      clear hT5 e5 c0 c1 c2 c3 c4 hD HEl
      go_upto_block 0 with fail
      go_cut [8, 9] (fun s8 s9 wx => ∃ (A0 A1 : Nat → Prop), Two (fun _ => False) b9 wx s8 (rowsP s) s9 (keysP s) A0 A1 ∧ Below b9 w3 wx)
      case first =>
        go_wp2_with fail
        go_loopw [8, 9, 10, 11, 12, 13, 14, 15] (fun s8 s9 s10 _ _ _ _ _ wr => ∃ (i : Nat) (A0 A1 : Nat → Prop), i ≤ D.length ∧ s10 = .int .i64 ((i : Int) + 1) ∧ Two (fun _ => False) b9 wr s8 (rowsT D i) s9 (keysT D i) A0 A1 ∧ AllKeys D i ∧ Below b9 w3 wr) (fun _ _ s10 _ _ _ _ _ _ => D.length + 1 - (intOf s10).toNat)
        case atStart => exact ⟨0, _, _, Nat.zero_le _, rfl, HT5.out, allKeys_zero D, by rw [← hb9]; exact HE5.out⟩
        case round =>
          clear HT5 HE5
          obtain ⟨i, A0, A1, hi, rfl, hTw, hAk, hBe⟩ := hrel
          have HTw := Lib.hid hTw
          have HAk := Lib.hid hAk
          have HBe := Lib.hid hBe
          have HW : Hid (Ext w3 wr) := by show Below _ _ _; rw [hb9]; exact hBe
          have HWw : Hid (Ext w wr) := HE1.out.trans (HE3.out.trans HW.out)
          have HStop : Hid ((∀ hl : i < D.length, keyWords D[i] = none) → ∃ (A0 A1 : Nat → Prop), Two (fun _ => False) b9 wr u8 (rowsP s) u9 (keysP s) A0 A1 ∧ Below b9 w3 wr) := fun hn => by
            have hDD := HD.out
            subst hDD
            obtain ⟨q1, q2⟩ := stop_at HAk.out hi hn
            exact ⟨A0, A1, by rw [← q1, ← q2]; exact HTw.out, HBe.out⟩
          have hn1D : (n1 : Int) = (D.length : Int) + 1 := by have := HDn.out; omega
          have HnD := Lib.hid hn1D
          clear hTw hAk hBe hn1D
          by_cases hlt : i < D.length
          · obtain ⟨wo, rfl⟩ : ∃ wo, wo = wr := ⟨_, rfl⟩
            have hltn : (i : Int) + 1 < (n1 : Int) := by rw [HnD.out]; omega
            have hltn2 : i + 1 < n1 := by omega
            have hc : wo.cell? ⟨bb, i + 1, none⟩ = some (.string (strOf D[i])) := HDl.out i hlt wo ((HE2.out.trans (HE3x.out)).trans HW.out)
            have hsp := HSw.out wo (strOf D[i]) (HDz.out i hlt)
            rw [data_strOf] at hsp
            have HKy := Lib.hid (fun (p : List UInt8 × List UInt8) (h : keyWords D[i] = some p) => allKeys_succ HAk.out hlt h)
            have HKm := Lib.hid (fun (p : List UInt8 × List UInt8) (h : keyWords D[i] = some p) => keysT_mem HAk.out hlt h)
            have HK0 : Hid (keyWords D[i] = none → ∃ (A0 A1 : Nat → Prop), Two (fun _ => False) b9 wo u8 (rowsP s) u9 (keysP s) A0 A1 ∧ Below b9 w3 wo) := fun h => HStop.out (fun _ => h)
            have HK1 : Hid ((splitL 32 D[i]).length ≠ 4 → keyWords D[i] = none) := keyWords_len
            have HK2 : Hid ((splitL 32 D[i]).getD 0 [] ≠ [107, 101, 121] → keyWords D[i] = none) := keyWords_head
            have HK3 : Hid ((splitL 32 D[i]).length = 4 → (splitL 32 D[i]).getD 0 [] = [107, 101, 121] → keyWords D[i] = some ((splitL 32 D[i]).getD 2 [], (splitL 32 D[i]).getD 3 [])) := keyWords_yes
            have HKp : Hid (0 < (splitL 32 D[i]).length) := splitL_pos _ _
            have HKz : Hid (∀ j, ((splitL 32 D[i]).getD j []).length ≤ 240) := fun j => by
              rw [List.getD_eq_getElem?_getD]
              by_cases h : j < (splitL 32 D[i]).length
              · rw [List.getElem?_eq_getElem h]
                have h1 := splitL_le 32 D[i] _ (List.getElem_mem h)
                have h2 := HDz.out i hlt
                rw [strOf_size] at h2
                exact Nat.le_trans h1 h2
              · rw [List.getElem?_eq_none (by omega)]; simp
            generalize strOf D[i] = line at *
            generalize splitL 32 D[i] = ws at *
            generalize keyWords D[i] = kw at *
            clear HStop
            go_wp2_with fail
            refine Calls.mono hsp ?_
            rintro e w4 hr
            obtain ⟨r, rfl, o4, e4⟩ := ret_ext hr
            clear hr hsp hc
            obtain ⟨a4, n4, k4, rfl, hn4, -⟩ := OwnP.shape o4
            rw [List.length_map] at hn4
            have Hn4 := Lib.hid hn4
            have hn40 : 0 < n4 := by have := HKp.out; omega
            obtain ⟨wb, rfl, -, -, hw0, -⟩ := OwnP.elem o4 ⟨#[]⟩ 0 hn40
            have HWl : Hid (∀ j, j < n4 → ∀ w', Ext w4 w' → w'.cell? ⟨wb, j, none⟩ = some (.string (strOf (ws.getD j [])))) := fun j h w' e => by
              obtain ⟨bb', he, -, -, hc, -⟩ := OwnP.elem o4 ⟨#[]⟩ j h
              injection he with he; injection he with he _ _
              subst he
              have hj : j < ws.length := by rw [← Hn4.out]; exact h
              rw [List.getD_eq_getElem?_getD, List.getElem?_eq_getElem (by rw [List.length_map]; exact hj), List.getElem_map] at hc
              rw [e.cell hc, List.getD_eq_getElem?_getD, List.getElem?_eq_getElem hj]
              rfl
            have HE4 := Lib.hid e4
            have hw00 := HWl.out 0 hn40 w4 (Ext.refl _)
            clear hn4 o4 hw0 e4
            have HWd : Hid (((strOf (ws.getD 0 [])).toList == [107, 101, 121]) = decide (ws.getD 0 [] = [107, 101, 121])) := by
              show _ = _
              unfold strOf
              rw [ByteArray.toList_mk, Bool.eq_iff_iff, beq_iff_eq, decide_eq_true_iff]
            obtain ⟨word0, hword0⟩ : ∃ word0, strOf (ws.getD 0 []) = word0 := ⟨_, rfl⟩
            rw [hword0] at hw00 HWd
            clear hword0
            have HMeet : Hid (kw = none → ∃ (A0 A1 : Nat → Prop), Two (fun _ => False) b9 w4 u8 (rowsP s) u9 (keysP s) A0 A1 ∧ Below b9 w3 w4) := fun h => by
              obtain ⟨B0, B1, g2, g3⟩ := HK0.out h
              exact ⟨B0, B1, g2.ext HE4.out, by rw [← hb9]; exact (show Ext w3 wo from HW.out).trans HE4.out⟩
            cases hkey : (word0.toList == [107, 101, 121]) with
            | false =>
              have HQ := Lib.hid (HMeet.out (HK2.out (fun h => by have := HWd.out; rw [hkey, decide_eq_true h] at this; cases this)))
              go_wp2_with fail
              go_meet
              exact HQ.out
            | true =>
              by_cases h4 : n4 = 4
              · have HKw := Lib.hid (HK3.out (by rw [← Hn4.out]; exact h4) (of_decide_eq_true (by rw [← HWd.out]; exact hkey)))
                subst h4
                have hz2 : (strOf (ws.getD 2 [])).size ≤ 240 := by rw [strOf_size]; exact HKz.out 2
                have hz3 : (strOf (ws.getD 3 [])).size ≤ 240 := by rw [strOf_size]; exact HKz.out 3
                obtain ⟨hAk1, hRw1, hKt1⟩ := HKy.out _ HKw.out
                have HAk1 := Lib.hid hAk1
                have HRw1 := Lib.hid hRw1
                have HKt1 := Lib.hid hKt1
                have HFail : Hid ((digB (ws.getD 2 []) && digB (ws.getD 3 [])) = false → readC s = noRes 6) := fun h => by
                  have hk := HKm.out _ HKw.out
                  have hDD := HD.out
                  subst hDD
                  exact readC_digit Hs.out hk h
                have hrk := HRk.out w4 (strOf (ws.getD 2 [])) hz2
                have HRow := Lib.hid (fun (w' : World) => HRk.out w' (strOf (ws.getD 3 [])) hz3)
                rw [data_strOf] at hrk HRow
                have hc2 := HWl.out 2 (by omega) w4 (Ext.refl _)
                have HC3 := Lib.hid (HWl.out 3 (by omega))
                have HM2 := Lib.hid (digsBack_mem (ws.getD 2 []))
                have HM3 := Lib.hid (digsBack_mem (ws.getD 3 []))
                generalize digB (ws.getD 2 []) = q2 at *
                generalize digB (ws.getD 3 []) = q3 at *
                generalize digsBack (ws.getD 2 []) = L2 at *
                generalize digsBack (ws.getD 3 []) = L3 at *
                generalize strOf (ws.getD 2 []) = word2 at *
                generalize strOf (ws.getD 3 []) = word3 at *
                clear hAk1 hRw1 hKt1 hz2 hz3
                go_wp2_with fail
                refine Calls.mono hrk ?_
                rintro e w5' hr
                obtain ⟨_, rfl, ⟨v5, rfl, h5⟩, e5⟩ := ret_ext hr
                have HE5 := Lib.hid e5
                have H5 := Lib.hid h5
                have hc3 := HC3.out w5' e5
                have hrow := HRow.out w5'
                clear hr hrk hc2 hw00 e5 h5
                go_wp2_with fail
                refine Calls.mono hrow ?_
                rintro e w6 hr
                obtain ⟨_, rfl, ⟨v6, rfl, h6⟩, e6⟩ := ret_ext hr
                have HE6 := Lib.hid e6
                have H6 := Lib.hid h6
                have HE6w : Hid (Ext w1 w6) := HE3.out.trans (HW.out.trans (HE4.out.trans (HE5.out.trans HE6.out)))
                clear hr hrow hc3 e6 h6
                cases q2 with
                | false =>
                  have HFl := Lib.hid (HFail.out rfl)
                  have HB := Lib.hid (HBad.out w6 6 HFl.out (HE1.out.trans HE6w.out))
                  obtain ⟨r0, r1, r2, r3, r4, r5, f0, f1, f2, f3, f4, f5⟩ := HR1.out.ext HE6w.out
                  go_wp2_with fail
                  refine bodyPost_ret (v := .tuple #[.agg #[.int .i64 0, .int .i64 0, .int .i64 0, .int .i64 0, .int .i64 0, .slice none 0 0], .slice none 0 0, .int .i64 6]) (by simp [results, Tryz.results5, go_sem, r0, r1, r2, r3, r4, r5]) rfl HB.out
                | true =>
                  cases q3 with
                  | false =>
                    have HFl := Lib.hid (HFail.out rfl)
                    have HB := Lib.hid (HBad.out w6 6 HFl.out (HE1.out.trans HE6w.out))
                    obtain ⟨r0, r1, r2, r3, r4, r5, f0, f1, f2, f3, f4, f5⟩ := HR1.out.ext HE6w.out
                    go_wp2_with fail
                    refine bodyPost_ret (v := .tuple #[.agg #[.int .i64 0, .int .i64 0, .int .i64 0, .int .i64 0, .int .i64 0, .slice none 0 0], .slice none 0 0, .int .i64 6]) (by simp [results, Tryz.results5, go_sem, r0, r1, r2, r3, r4, r5]) rfl HB.out
                  | true =>
                    have ho5 := H5.out rfl
                    have ho6 := H6.out rfl
                    have Hkey : Hid (IntsR ⟨w4.heap.size, w5'.heap.size, true⟩ w6 v5 L2) := stable_ints.ext (OwnP.ints ho5 HM2.out (Nat.le_refl _)) HE6.out
                    have Hrow : Hid (IntsR ⟨w5'.heap.size, w6.heap.size, true⟩ w6 v6 L3) := OwnP.ints ho6 HM3.out (Nat.le_refl _)
                    obtain ⟨a5, n5, k5, rfl, -⟩ := OwnP.shape ho5
                    obtain ⟨a6, n6, k6, rfl, -⟩ := OwnP.shape ho6
                    have hEo : Ext wo w6 := HE4.out.trans (HE5.out.trans HE6.out)
                    have hTr := HTw.out.ext hEo
                    have hs0 := HW.out.size
                    have hs4 := HE4.out.size
                    have hs5 := HE5.out.size
                    have hs6 := HE6.out.size
                    have hl0 := HTw.out.l0
                    have hl1 := HTw.out.l1
                    have hk0 := HTw.out.o0.block
                    have hk1' := HTw.out.o1.block
                    have hlen := keyT_len D i
                    have hb9w : b9 ≤ w6.heap.size := by omega
                    obtain ⟨a0, n0, k0, rfl, -⟩ := OwnA.shape hTr.o0
                    obtain ⟨a9, n9, k9, rfl, -⟩ := OwnA.shape hTr.o1
                    have HKk : Hid (∀ k, (⟨w4.heap.size, w5'.heap.size, true⟩ : Zone).Has k → b9 ≤ k ∧ k < w6.heap.size ∧ ¬ A1 k ∧ ¬ A0 k ∧ (Value.slice a9 n9 k9).ownBlock ≠ some k ∧ (Value.slice a0 n0 k0).ownBlock ≠ some k ∧ ¬ False) := fun k hk => by
                      have h1 : w4.heap.size ≤ k := hk.1
                      have h2 : k < w5'.heap.size := hk.2
                      exact ⟨by omega, by omega, fun h => by have := (hl1 k h).2; omega, fun h => by have := (hl0 k h).2; omega, fun h => by have := (hk1' k h).2; omega, fun h => by have := (hk0 k h).2; omega, fun h => h⟩
                    have HKr : Hid (∀ k, (⟨w5'.heap.size, w6.heap.size, true⟩ : Zone).Has k → b9 ≤ k ∧ k < w6.heap.size ∧ ¬ A0 k ∧ ¬ A1 k ∧ (Value.slice a0 n0 k0).ownBlock ≠ some k ∧ (Value.slice a9 n9 k9).ownBlock ≠ some k ∧ ¬ False) := fun k hk => by
                      have h1 : w5'.heap.size ≤ k := hk.1
                      have h2 : k < w6.heap.size := hk.2
                      exact ⟨by omega, by omega, fun h => by have := (hl0 k h).2; omega, fun h => by have := (hl1 k h).2; omega, fun h => by have := (hk0 k h).2; omega, fun h => by have := (hk1' k h).2; omega, fun h => h⟩
                    have HTr := Lib.hid hTr
                    have HLn1 : Hid ((rowsT D i).length + 1 ≤ 1099511627776 ∧ (keysT D i).length + 1 ≤ 1099511627776) := by constructor <;> omega
                    have HWr : Hid (Ext w3 w6) := HW.out.trans hEo
                    have HTwo : Hid (∀ v8 w8, Two (fun _ => False) b9 w8 v8 (keysT D i ++ [L2]) (.slice a0 n0 k0) (rowsT D i) (fun k => A1 k ∨ (⟨w4.heap.size, w5'.heap.size, true⟩ : Zone).Has k) A0 → w6.grownBy w8 (Value.slice a9 n9 k9).ownBlock → (∀ k, v8.ownBlock = some k → (Value.slice a9 n9 k9).ownBlock = some k ∨ w6.heap.size ≤ k) →
                        Two (fun _ => False) b9 w8 (.slice a0 n0 k0) (rowsT D i) v8 (keysT D i ++ [L2]) A0 (fun k => A1 k ∨ (⟨w4.heap.size, w5'.heap.size, true⟩ : Zone).Has k) ∧ IntsR ⟨w5'.heap.size, w6.heap.size, true⟩ w8 (slV (a6, n6, k6)) L3 ∧
                        (∀ k, (⟨w5'.heap.size, w6.heap.size, true⟩ : Zone).Has k → b9 ≤ k ∧ k < w8.heap.size ∧ ¬ A0 k ∧ ¬ (A1 k ∨ (⟨w4.heap.size, w5'.heap.size, true⟩ : Zone).Has k) ∧ (Value.slice a0 n0 k0).ownBlock ≠ some k ∧ v8.ownBlock ≠ some k ∧ ¬ False) ∧ b9 ≤ w8.heap.size ∧
                        (∀ v9 w9, Two (fun _ => False) b9 w9 v9 (rowsT D i ++ [L3]) v8 (keysT D i ++ [L2]) (fun k => A0 k ∨ (⟨w5'.heap.size, w6.heap.size, true⟩ : Zone).Has k) (fun k => A1 k ∨ (⟨w4.heap.size, w5'.heap.size, true⟩ : Zone).Has k) → w8.grownBy w9 (Value.slice a0 n0 k0).ownBlock →
                          Two (fun _ => False) b9 w9 v9 (rowsT D (i + 1)) v8 (keysT D (i + 1)) (fun k => A0 k ∨ (⟨w5'.heap.size, w6.heap.size, true⟩ : Zone).Has k) (fun k => A1 k ∨ (⟨w4.heap.size, w5'.heap.size, true⟩ : Zone).Has k) ∧ Below b9 w3 w9)) := fun v8 w8 T8 g8 at8 => by
                      have hs8 := g8.size
                      refine ⟨T8.swap, stable_ints.keep Hrow.out (fun k hk hl => g8.block k hl (fun e => (HKr.out k hk).2.2.2.2.2.1 e.symm)), fun k hk => ?_, by omega, fun v9 w9 T9 g9 => ?_⟩
                      · obtain ⟨q1, q2, q3, q4, q5, q6, q7⟩ := HKr.out k hk
                        refine ⟨q1, by omega, q3, fun h => ?_, q5, fun h => ?_, q7⟩
                        · rcases h with h | h
                          · exact q4 h
                          · have h1 : w5'.heap.size ≤ k := hk.1
                            have h2 : k < w5'.heap.size := h.2
                            omega
                        · rcases at8 k h with h | h
                          · exact q6 h
                          · have h2 : k < w6.heap.size := hk.2
                            omega
                      · have hs9 := g9.size
                        refine ⟨by rw [HRw1.out, HKt1.out]; exact T9, ?_⟩
                        have h1 : Below b9 w6 w8 := Below.grown (Below.refl _ _) g8 (by omega) (fun k hk => (HTr.out.o1.block k hk).1)
                        have h2 : Below b9 w8 w9 := Below.grown (Below.refl _ _) g9 (by omega) (fun k hk => (HTr.out.o0.block k hk).1)
                        have h3 : Below b9 w3 w6 := by rw [← hb9]; exact HWr.out
                        exact (h3.trans h1).trans h2
                    have hTs := hTr.swap
                    have HRun1 := Lib.hid (fun (ty : TypeId) => run_two (P := Tryz.prog) hTs 24 ty Tryz.underlying24 Tryz.infoInts (u := (a5, n5, k5)) (y := L2) Hkey.out rfl HKk.out (fun k h => h.elim) (g := w6.heap.size) rfl HLn1.out.2 hb9w)
                    unfold slV at HRun1
                    simp only at HRun1
                    clear hTr hTs hEo hl0 hl1 hk0 hk1' hlen ho5 ho6
                    go_wp2_with (at_builtin; (first | (have honce := HTwo; (refine wpList_append_of (v := .slice a9 n9 k9) rfl _ _ 24 rfl rfl rfl HRun1.out ?_); intro v8 w8 h8; obtain ⟨a8, n8, k8, rfl, -⟩ := OwnA.shape h8.1.o0; have HX8 := HTwo.out _ w8 h8.1 h8.2.2.1 h8.2.2.2; have HRun2 := Lib.hid (fun (ty : TypeId) => run_two (P := Tryz.prog) HX8.1 24 ty Tryz.underlying24 Tryz.infoInts (u := (a6, n6, k6)) (y := L3) HX8.2.1 rfl HX8.2.2.1 (fun k h => h.elim) (g := w8.heap.size) rfl HLn1.out.1 HX8.2.2.2.1); unfold slV at HRun2; simp only at HRun2; have HX8e := Lib.hid HX8.2.2.2.2; clear h8 honce HTwo HRun1 HX8) | ((refine wpList_append_of (v := .slice a0 n0 k0) rfl _ _ 24 rfl rfl rfl HRun2.out ?_); intro v9 w9 h9; obtain ⟨a19, n19, k19, rfl, -⟩ := OwnA.shape h9.1.o0; have HX9 := HX8e.out _ w9 h9.1 h9.2.2.1; clear h9 HX8e HRun2; have HZ := Lib.hid HX9; clear HX9)))
                    go_roundw
                    case rel => exact ⟨i + 1, _, _, by omega, by go_num, HZ.out.1, HAk1.out, HZ.out.2⟩
                    case measure => simp [intOf]; omega
              · have hn4b : ((n4 : Int) != 4) = true := by rw [bne_iff_ne]; omega
                have HQ := Lib.hid (HMeet.out (HK1.out (by rw [← Hn4.out]; exact h4)))
                go_wp2_with fail
                go_meet
                exact HQ.out
          · have HSt := Lib.hid (HStop.out (fun hl => absurd hl hlt))
            have hltn : ¬ ((i : Int) + 1 < (n1 : Int)) := by rw [HnD.out]; omega
            go_wp2_with fail
            go_meet
            exact HSt.out
      case rest =>
        clear HT5 HE5
        obtain ⟨A0, A1, hTw, hBe⟩ := hcut
        have HTw := Lib.hid hTw
        have HW : Hid (Ext w3 wc) := by show Below _ _ _; rw [hb9]; exact hBe
        have HI0 := Lib.hid hTw.rows0
        have HI1 := Lib.hid hTw.rows1
        obtain ⟨a0, n0, k0, rfl, -⟩ := SliceR.shape hTw.rows0
        obtain ⟨a9, n9, k9, rfl, -⟩ := SliceR.shape hTw.rows1
        obtain ⟨c0, c1, c2, c3, c4⟩ := HS3.out.ext HW.out
        clear hTw hBe
        go_upto_region 20 with fail
        generalize hwd : World.alloc wc _ = wd
        obtain ⟨ed, Sd⟩ := sys_box (mk := ⟨mc, md, ms, mm, ml⟩) hwd
        have HSd := Lib.hid Sd
        have HEd := Lib.hid ed
        have HWc : Hid (Ext w1 wd) := HE3.out.trans (HW.out.trans ed)
        have HWw : Hid (Ext w wd) := HE1.out.trans HWc.out
        have HI0d := Lib.hid (stable_rows.ext HI0.out ed)
        have HI1d := Lib.hid (stable_rows.ext HI1.out ed)
        have HTd := Lib.hid (HTw.out.ext ed)
        have hdes := IsDesignSpec_c wd ⟨mc, md, ms, mm, ml⟩ _ _ _ HI0d.out _ _ _ HI1d.out
        unfold sysV at hdes
        simp only at hdes
        have HNoD : Hid (isDesign ⟨mc, md, ms, mm, ml⟩ (rowsP s) (keysP s) = false → readC s = noRes 6) := fun h => readC_design Hs.out HLn.out (.inl (by unfold designCode; rw [h]; simp))
        have HNoC : Hid (chartV ⟨mc, md, ms, mm, ml⟩ (rowsP s) (keysP s) ≠ s → readC s = noRes 6) := fun h => readC_design Hs.out HLn.out (.inr h)
        have HYesC : Hid (isDesign ⟨mc, md, ms, mm, ml⟩ (rowsP s) (keysP s) = true → chartV ⟨mc, md, ms, mm, ml⟩ (rowsP s) (keysP s) = s → readC s = ((⟨mc, md, ms, mm, ml⟩, rowsP s), (keysP s, 0))) := fun h1 h2 => readC_yes Hs.out (by unfold designCode; rw [if_pos h1]) h2
        have HCh : Hid (isDesign ⟨mc, md, ms, mm, ml⟩ (rowsP s) (keysP s) = true → ∀ w', Ext wd w' → Calls Tryz.prog 25 #[.agg #[.int .i64 mc, .int .i64 md, .int .i64 ms, .int .i64 mm, .int .i64 ml, .slice a0 n0 k0], .slice a9 n9 k9] w' (Ret w' fun r _ => r = .string (chartV ⟨mc, md, ms, mm, ml⟩ (rowsP s) (keysP s)))) := fun h w' e => l27Chart_c w' ⟨mc, md, ms, mm, ml⟩ _ _ _ (stable_rows.ext HI0d.out e) _ _ _ (stable_rows.ext HI1d.out e) (designCode_zero (by unfold designCode; rw [if_pos h]))
        have HEqS : Hid (∀ q, ((chartV ⟨mc, md, ms, mm, ml⟩ (rowsP s) (keysP s)).toList == s.toList) = q → (q = true ↔ chartV ⟨mc, md, ms, mm, ml⟩ (rowsP s) (keysP s) = s)) := fun q hq => by
          rw [← hq, beq_iff_eq, ByteArray.toList_eq, ByteArray.toList_eq]
          exact ⟨fun h => ByteArray.ext (Array.toList_inj.1 h), fun h => by rw [h]⟩
        generalize isDesign ⟨mc, md, ms, mm, ml⟩ (rowsP s) (keysP s) = isd at *
        generalize chartV ⟨mc, md, ms, mm, ml⟩ (rowsP s) (keysP s) = chart at *
        clear c0 c1 c2 c3 c4
        obtain ⟨c0, c1, c2, c3, c4, c5⟩ := Sd
        simp only at c0 c1 c2 c3 c4 c5
        clear HI0 HI1 hwd ed
        go_wp2_with fail
        refine Calls.mono hdes ?_
        rintro e w6 hr
        obtain ⟨r, rfl, rfl, e6⟩ := ret_ext hr
        have HE6 := Lib.hid e6
        clear hr hdes c0 c1 c2 c3 c4 c5 e6
        cases isd with
        | false =>
          have HB := Lib.hid (HBad.out w6 6 (HNoD.out rfl) (HE1.out.trans (HWc.out.trans HE6.out)))
          obtain ⟨r0, r1, r2, r3, r4, r5, f0, f1, f2, f3, f4, f5⟩ := HR1.out.ext (HWc.out.trans HE6.out)
          go_wp2_with fail
          refine bodyPost_ret (v := .tuple #[.agg #[.int .i64 0, .int .i64 0, .int .i64 0, .int .i64 0, .int .i64 0, .slice none 0 0], .slice none 0 0, .int .i64 6]) (by simp [results, Tryz.results5, go_sem, r0, r1, r2, r3, r4, r5]) rfl HB.out
        | true =>
          have hch := HCh.out rfl w6 HE6.out
          obtain ⟨c0, c1, c2, c3, c4, c5⟩ := HSd.out.ext HE6.out
          simp only at c0 c1 c2 c3 c4 c5
          clear HCh
          go_wp2_with fail
          refine Calls.mono hch ?_
          rintro e w7 hr
          obtain ⟨r, rfl, rfl, e7⟩ := ret_ext hr
          have HE7 := Lib.hid (HE6.out.trans e7)
          clear hr hch c0 c1 c2 c3 c4 c5 e7
          cases hq : (chart.toList == s.toList) with
          | false =>
            have hne : ¬ (chart = s) := fun h => by have := (HEqS.out false hq).2 h; cases this
            have HneR := Lib.hid (HNoC.out hne)
            clear hne
            have HB := Lib.hid (HBad.out w7 6 HneR.out (HE1.out.trans (HWc.out.trans HE7.out)))
            obtain ⟨r0, r1, r2, r3, r4, r5, f0, f1, f2, f3, f4, f5⟩ := HR1.out.ext (HWc.out.trans HE7.out)
            go_wp2_with fail
            refine bodyPost_ret (v := .tuple #[.agg #[.int .i64 0, .int .i64 0, .int .i64 0, .int .i64 0, .int .i64 0, .slice none 0 0], .slice none 0 0, .int .i64 6]) (by simp [results, Tryz.results5, go_sem, r0, r1, r2, r3, r4, r5]) rfl HB.out
          | true =>
            have HRd := Lib.hid (HYesC.out (by trivial) ((HEqS.out true hq).1 rfl))
            obtain ⟨c0, c1, c2, c3, c4, c5⟩ := HSd.out.ext HE7.out
            obtain ⟨r0, r1, r2, r3, r4, r5, f0, f1, f2, f3, f4, f5⟩ := HR1.out.ext (HWc.out.trans HE7.out)
            simp only at c0 c1 c2 c3 c4 c5
            have hwb : w.heap.size < b9 := by have h1 := HR1.out.lt; have h2 := HE3.out.size; omega
            have HT7 : Hid (Two (fun _ => False) w.heap.size ((((((w7.setCell ⟨w.heap.size, 0, none⟩ (.int .i64 mc)).setCell ⟨w.heap.size, 1, none⟩ (.int .i64 md)).setCell ⟨w.heap.size, 2, none⟩ (.int .i64 ms)).setCell ⟨w.heap.size, 3, none⟩ (.int .i64 mm)).setCell ⟨w.heap.size, 4, none⟩ (.int .i64 ml)).setCell ⟨w.heap.size, 5, none⟩ (.slice a0 n0 k0)) (.slice a0 n0 k0) (rowsP s) (.slice a9 n9 k9) (keysP s) A0 A1) :=
              (((((((HTd.out.ext HE7.out).put (.inr hwb) 0 (.int .i64 mc)).put (.inr hwb) 1 (.int .i64 md)).put (.inr hwb) 2 (.int .i64 ms)).put (.inr hwb) 3 (.int .i64 mm)).put (.inr hwb) 4 (.int .i64 ml)).put (.inr hwb) 5 (.slice a0 n0 k0)).low (Nat.le_of_lt hwb) (fun _ h => h.elim)
            have HZ : Hid (Below w.heap.size w ((((((w7.setCell ⟨w.heap.size, 0, none⟩ (.int .i64 mc)).setCell ⟨w.heap.size, 1, none⟩ (.int .i64 md)).setCell ⟨w.heap.size, 2, none⟩ (.int .i64 ms)).setCell ⟨w.heap.size, 3, none⟩ (.int .i64 mm)).setCell ⟨w.heap.size, 4, none⟩ (.int .i64 ml)).setCell ⟨w.heap.size, 5, none⟩ (.slice a0 n0 k0))) := ext_putS (HWw.out.trans HE7.out) (Nat.le_refl _) _ _ _ _ _ _
            have HRR : Hid (∀ W, Two (fun _ => False) w.heap.size W (.slice a0 n0 k0) (rowsP s) (.slice a9 n9 k9) (keysP s) A0 A1 → ReadR w (readC s) (.tuple #[.agg #[.int .i64 mc, .int .i64 md, .int .i64 ms, .int .i64 mm, .int .i64 ml, .slice a0 n0 k0], .slice a9 n9 k9, .int .i64 0]) W) := fun W h => by rw [HRd.out]; exact ⟨_, _, A0, A1, rfl, h⟩
            go_wp2_with fail
            refine bodyPost_ret (v := .tuple #[.agg #[.int .i64 mc, .int .i64 md, .int .i64 ms, .int .i64 mm, .int .i64 ml, .slice a0 n0 k0], .slice a9 n9 k9, .int .i64 0]) (by simp [results, Tryz.results5, go_sem, r0, r1, r2, r3, r4, r5]) rfl ⟨_, rfl, HRR.out _ HT7.out, HZ.out⟩
end Go.Proofs.YtkeikjedbfomnaaGreatDoor
