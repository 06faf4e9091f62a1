/- Proved: reading a chart, the program. -/
import Derived.Test.YtkeikjedbfomnaaGreatDoorChecked
import Derived.Deep.RegionHeld3
import Derived.Deep.Cut
import Derived.Deep.CutBlock
import Derived.Test.YtkeikjedbfomnaaGreatDoorUPkRdA
import Derived.Test.YtkeikjedbfomnaaGreatDoorUPkRdB
import Derived.Test.YtkeikjedbfomnaaGreatDoorUChartI
import Derived.Test.YtkeikjedbfomnaaGreatDoorUPkD
namespace Go.Proofs.YtkeikjedbfomnaaGreatDoor
open Go.ChangeShapes Go.WideShapes Go.ChangeAt Go.RowKit
set_option linter.unusedVariables false

def byteV3 (l : List UInt8) (j : Nat) : Nat := (l.getD j 0).toNat
set_option maxRecDepth 20000 in
set_option maxHeartbeats 1200000 in
theorem ReadChart_c (w : World) (hT : Pow10 w) (hE : ParseErr w) (hS : SepCell w) (s : ByteArray) (hs : s.size ≤ maxLen) :
    Calls Tryz.prog 6 #[.string s] w (Ret w (ReadR w (readC s))) := by
  have R0 := res_new w 26
  have e0 : Ext w (w.alloc (.cells #[.int .i64 0, .int .i64 0, .int .i64 0, .int .i64 0, .int .i64 0, .slice none 0 0] 26)) := Ext.alloc _ _
  unfold maxLen at hs
  have HBad : Hid (∀ (W : World) (c : Int), readC s = noRes c → Ext w W → Ret w (ReadR w (readC s)) (.returned (.tuple #[.agg #[.int .i64 0, .int .i64 0, .int .i64 0, .int .i64 0, .int .i64 0, .slice none 0 0], .slice none 0 0, .int .i64 c])) ((((((W.setCell ⟨w.heap.size, 0, none⟩ (.int .i64 0)).setCell ⟨w.heap.size, 1, none⟩ (.int .i64 0)).setCell ⟨w.heap.size, 2, none⟩ (.int .i64 0)).setCell ⟨w.heap.size, 3, none⟩ (.int .i64 0)).setCell ⟨w.heap.size, 4, none⟩ (.int .i64 0)).setCell ⟨w.heap.size, 5, none⟩ (.slice none 0 0))) := fun W c h e => ⟨_, rfl, ReadR.bad h, ext_putS e (Nat.le_refl _) _ _ _ _ _ _⟩
  by_cases hlong : 240 < s.size
  · have HB := Lib.hid (readC_long hlong)
    have hb : decide ((240 : Int) < (s.size : Int)) = true := decide_eq_true (by omega)
    clear hT hE hS HBad
    go_enter Tryz.func6, Tryz.ntmps6
    go_wp2_with fail
    obtain ⟨r0, r1, r2, r3, r4, r5, f0, f1, f2, f3, f4, f5⟩ := R0
    refine bodyPost_ret (v := .tuple #[.agg #[.int .i64 0, .int .i64 0, .int .i64 0, .int .i64 0, .int .i64 0, .slice none 0 0], .slice none 0 0, .int .i64 3]) (by simp [results, Tryz.results6, go_sem, r0, r1, r2, r3, r4, r5]) rfl ⟨_, rfl, ReadR.bad HB.out, e0⟩
  · have hb : decide ((240 : Int) < (s.size : Int)) = false := decide_eq_false (by omega)
    have Hs : Hid (¬ 240 < s.size) := hlong
    have HSp := Lib.hid (fun (w' : World) (e : Ext w w') (t : ByteArray) (ht : t.size ≤ 240) (b : UInt8) => split_c w' (hS.ext e) t (by omega) b)
    have HMk := Lib.hid (fun (w' : World) (e : Ext w w') (t : ByteArray) (ht : t.size ≤ 240) => readMaker_c w' (hT.ext e) (hE.ext e) (hS.ext e) t (by omega))
    have HRk := Lib.hid (fun (w' : World) (mk : MK) (hm : isMaker mk = true) (t : ByteArray) (ht : t.size ≤ 240) => readKey_c w' mk hm t (by omega))
    have HChart := Lib.hid (fun (w' : World) (e : Ext w w') => chartText_c w' (hT.ext e))
    have Hsz : Hid (∀ i (h : i < (splitL 10 s.data.toList).length), (strOf (splitL 10 s.data.toList)[i]).size ≤ 240) := fun i h => by
      rw [strOf_size]
      exact Nat.le_trans (splitL_le 10 s.data.toList _ (List.getElem_mem h)) (by rw [len_str]; omega)
    have HszM : Hid (∀ (b : UInt8) (l : List UInt8), l.length ≤ 240 → ∀ x ∈ (splitL b l).map strOf, x.size ≤ maxLen) := fun b l hl x hx => by
      obtain ⟨y, hy, rfl⟩ := List.mem_map.1 hx
      rw [strOf_size]
      have := splitL_le b l y hy
      unfold maxLen; omega
    clear hT hE hS
    go_enter Tryz.func6, Tryz.ntmps6
    go_wp2_with fail
    generalize w.alloc (.cells #[.int .i64 0, .int .i64 0, .int .i64 0, .int .i64 0, .int .i64 0, .slice none 0 0] 26) = w0 at *
    refine Calls.mono (HSp.out w0 e0 s (by omega) 10) ?_
    rintro e w1 hr
    obtain ⟨r, rfl, o1, e1⟩ := ret_ext hr
    clear hr
    have hst := OwnP.reads o1 (E := StrR) (fun _ x hx => ⟨rfl, HszM.out 10 s.data.toList (by rw [len_str]; omega) x hx⟩) (Nat.le_refl w0.heap.size) (Nat.le_refl _)
    obtain ⟨a1, n1, k1, rfl, hn1, hn1m, hnk1⟩ := ownP_caps o1
    rw [List.length_map] at hn1
    have hn10 : 0 < n1 := by rw [hn1]; exact splitL_pos _ _
    have Hn1 := Lib.hid hn1
    have Hn1m : Hid (n1 ≤ 241) := by
      show _ ≤ _
      rw [hn1, splitL_count]
      have : s.data.toList.count 10 ≤ s.size := by rw [← len_str]; exact List.count_le_length
      omega
    obtain ⟨bb, rfl, -, -, hc0, -⟩ := OwnP.elem o1 ⟨#[]⟩ 0 hn10
    have HEl : Hid (∀ i (h : i < (splitL 10 s.data.toList).length), ∀ w', Ext w1 w' → w'.cell? ⟨bb, i, none⟩ = some (.string (strOf (splitL 10 s.data.toList)[i]))) := fun i h w' e => by
      obtain ⟨bb', he, -, -, hc, -⟩ := OwnP.elem o1 ⟨#[]⟩ i (by rw [hn1]; exact h)
      injection he with he; injection he with he _ _
      subst he
      rw [List.getD_eq_getElem?_getD, List.getElem?_eq_getElem (by rw [List.length_map]; exact h), List.getElem_map] at hc
      exact e.cell hc
    have HE1 := Lib.hid (e0.trans e1)
    have HR1 := Lib.hid (R0.ext e1)
    have hpos : 0 < (splitL 10 s.data.toList).length := splitL_pos _ _
    have hc00 := HEl.out 0 hpos w1 (Ext.refl _)
    have hmk := HMk.out w1 HE1.out (strOf (splitL 10 s.data.toList)[0]) (Hsz.out 0 hpos)
    rw [data_strOf] at hmk
    have HHd : Hid ((splitL 10 s.data.toList).headD [] = (splitL 10 s.data.toList)[0]) := by
      show _ = _
      generalize splitL 10 s.data.toList = ls at *
      cases ls with
      | nil => simp at hpos
      | cons a l => rfl
    clear hst hn1 o1 hc0 e0 e1 R0 HMk
    generalize hw00 : strOf (splitL 10 s.data.toList)[0] = word0 at *
    rw [← HHd.out] at hmk
    clear hw00 HHd hpos hlong hs
    go_wp2_with fail
    refine Calls.mono hmk ?_
    rintro e w2 hr
    obtain ⟨r, rfl, ⟨mk, q, rfl, hline, hmaker⟩, e2⟩ := ret_ext hr
    clear hr hmk hc00
    have HLn := Lib.hid hline
    have HMq := Lib.hid hmaker
    have HE2 := Lib.hid e2
    obtain ⟨mc, md, ms, mm, ml⟩ := mk
    unfold MK.v
    clear hline hmaker e2
    simp only
    go_upto_region 5 with fail
    generalize hwb : World.alloc w2 _ = w3
    obtain ⟨e3, S3⟩ := mk_box (mk := ⟨mc, md, ms, mm, ml⟩) hwb
    have HS3 := Lib.hid S3
    have HE3 := Lib.hid (HE2.out.trans e3)
    have HE3x := Lib.hid e3
    clear hwb S3 e3
    cases q with
    | false =>
      have HB := Lib.hid (HBad.out w3 6 (readC_maker Hs.out HLn.out) (HE1.out.trans HE3.out))
      obtain ⟨r0, r1, r2, r3, r4, r5, f0, f1, f2, f3, f4, f5⟩ := HR1.out.ext HE3.out
      clear HBad
      go_wp2_with fail
      refine bodyPost_ret (v := .tuple #[.agg #[.int .i64 0, .int .i64 0, .int .i64 0, .int .i64 0, .int .i64 0, .slice none 0 0], .slice none 0 0, .int .i64 6]) (by simp [results, Tryz.results6, go_sem, r0, r1, r2, r3, r4, r5]) rfl HB.out
    | true =>
      have hm := HMq.out rfl
      obtain ⟨c0, c1, c2, c3, c4⟩ := HS3.out
      have htwo := two_start (w := w3) (mk := ⟨mc, md, ms, mm, ml⟩) (t := 26)
      simp only at htwo
      go_upto_region 8 with fail
      generalize World.alloc (World.alloc w3 _) _ = w5 at *
      obtain ⟨hT5, hB5, e5⟩ := htwo
      have HT5 := Lib.hid hT5
      have HB5 := Lib.hid hB5
      have HE5 := Lib.hid e5
      obtain ⟨D, hD⟩ : ∃ D, (splitL 10 s.data.toList).drop 1 = D := ⟨_, rfl⟩
      have HDl : Hid (∀ i (h : i < D.length) w', Ext w1 w' → w'.cell? ⟨bb, i + 1, none⟩ = some (.string (strOf D[i]))) := fun i h w' e => by
        subst hD
        have h1 : i + 1 < (splitL 10 s.data.toList).length := by have h' := h; rw [List.length_drop] at h'; omega
        have e2 : ((splitL 10 s.data.toList).drop 1)[i] = (splitL 10 s.data.toList)[i + 1] := by rw [List.getElem_drop]; congr 1; omega
        rw [HEl.out (i + 1) h1 w' e, e2]
      have HDn : Hid (D.length + 1 = n1) := by
        show _ = _
        have h1 := Hn1.out
        have h2 := splitL_pos 10 s.data.toList
        rw [← hD, List.length_drop]; omega
      have HDz : Hid (∀ i (h : i < D.length), (strOf D[i]).size ≤ 240) := fun i h => by
        subst hD
        have h' := h
        rw [List.length_drop] at h'
        have e2 : ((splitL 10 s.data.toList).drop 1)[i] = (splitL 10 s.data.toList)[i + 1] := by rw [List.getElem_drop]; congr 1; omega
        rw [e2]
        exact Hsz.out (i + 1) (by omega)
      have HD := Lib.hid hD
      have hbx : w3.heap.size + 1 ≠ w3.heap.size := by omega
      obtain ⟨b8, hb8⟩ : ∃ b8, w3.heap.size + 1 = b8 := ⟨_, rfl⟩
      obtain ⟨b9, hb9⟩ : ∃ b9, w3.heap.size = b9 := ⟨_, rfl⟩
      rw [hb8, hb9] at HT5
      rw [hb8] at HB5
      rw [hb8, hb9]
      have hb89 : b8 = b9 + 1 := by omega
      clear hT5 hB5 e5 c0 c1 c2 c3 c4 hD HEl hb8 hbx
      subst hb89
      have hnk : n1 ≤ k1 := hnk1
      have hDi : (D.length : Int) = (n1 : Int) - 1 := by have := HDn.out; omega
      have HDi := Lib.hid hDi
      have hDm : D.length ≤ 100000 := by have := HDn.out; have := Hn1m.out; omega
      clear hDi
      go_cut [37, 38, 39] (fun s37 s38 s39 wx => ∃ a37 kk, s37 = .slice a37 D.length kk ∧ s38 = .int .i64 (D.length : Nat) ∧ s39 = .int .i64 0 ∧ wx = w5 ∧ (0 < D.length → a37 = some ⟨bb, 1, none⟩))
      case first =>
        have hn1D : n1 - 1 = D.length := by have := HDn.out; omega
        by_cases hk1 : k1 = 1
        · subst hk1
          have hD0 : Hid (D.length = 0) := by show _ = _; have := HDn.out; omega
          have HnD := Lib.hid hn1D
          clear hn1D
          go_wp2_with fail
          go_meet
          exact ⟨_, _, by rw [hD0.out], by rw [hD0.out]; rfl, rfl, rfl, fun h => by have := hD0.out; omega⟩
        · have HnD := Lib.hid hn1D
          clear hn1D
          go_wp2_with fail
          go_meet
          exact ⟨_, _, by rw [HnD.out], by rw [HnD.out], rfl, rfl, fun _ => rfl⟩
      case rest =>
        obtain ⟨a37, kk, rfl, rfl, rfl, rfl, ha37⟩ := hcut
        have HA37 := Lib.hid ha37
        clear ha37 hnk
        go_upto_block 0 with fail
        go_cut [9] (fun s9 wx => ∃ (v0 : Value) (A0 A1 : Nat → Prop), BoxS (b9 + 1) ⟨mc, md, ms, mm, ml⟩ v0 wx ∧ Two (fun k => k = b9 + 1) b9 wx v0 (rowsP s) s9 (keysP s) A0 A1 ∧ Below b9 w3 wx)
        case first =>
          go_wp2_with fail
          go_loopw [9, 11, 12, 13, 14, 15, 16, 39] (fun s9 _ _ _ _ _ _ s39 wr => ∃ (i : Nat) (v0 : Value) (A0 A1 : Nat → Prop), i ≤ D.length ∧ s39 = .int .i64 (i : Int) ∧ BoxS (b9 + 1) ⟨mc, md, ms, mm, ml⟩ v0 wr ∧ Two (fun k => k = b9 + 1) b9 wr v0 (rowsT D i) s9 (keysT D i) A0 A1 ∧ AllKeys D i ∧ Below b9 w3 wr) (fun _ _ _ _ _ _ _ s39 _ => D.length - (intOf s39).toNat)
          case atStart => exact ⟨0, _, _, _, Nat.zero_le _, rfl, HB5.out, HT5.out, allKeys_zero D, by rw [← hb9]; exact HE5.out⟩
          case round =>
            clear HT5 HB5 HE5
            obtain ⟨i, v0, A0, A1, hi, rfl, hBx, hTw, hAk, hBe⟩ := hrel
            have HBx := Lib.hid hBx
            have HTw := Lib.hid hTw
            have HAk := Lib.hid hAk
            have HBe := Lib.hid hBe
            have HW : Hid (Ext w3 wr) := by show Below _ _ _; rw [hb9]; exact hBe
            have HWw : Hid (Ext w wr) := HE1.out.trans (HE3.out.trans HW.out)
            have HStop : Hid ((∀ hl : i < D.length, keyWords D[i] = none) → ∃ (v0 : Value) (A0 A1 : Nat → Prop), BoxS (b9 + 1) ⟨mc, md, ms, mm, ml⟩ v0 wr ∧ Two (fun k => k = b9 + 1) b9 wr v0 (rowsP s) u9 (keysP s) A0 A1 ∧ Below b9 w3 wr) := fun hn => by
              have hDD := HD.out
              subst hDD
              obtain ⟨q1, q2⟩ := stop_at HAk.out hi hn
              exact ⟨v0, A0, A1, HBx.out, by rw [← q1, ← q2]; exact HTw.out, HBe.out⟩
            clear hBx hTw hAk hBe
            by_cases hlt : i < D.length
            · obtain ⟨wo, rfl⟩ : ∃ wo, wo = wr := ⟨_, rfl⟩
              have h0D : 0 < D.length := by omega
              obtain rfl := HA37.out h0D
              have hc : wo.cell? ⟨bb, 1 + i, none⟩ = some (.string (strOf D[i])) := by
                rw [Nat.add_comm]
                exact HDl.out i hlt wo ((HE2.out.trans (HE3x.out)).trans HW.out)
              have hsp := HSp.out wo HWw.out (strOf D[i]) (HDz.out i hlt) 32
              rw [data_strOf] at hsp
              have HKy := Lib.hid (fun (p : List UInt8 × List UInt8) (h : keyWords D[i] = some p) => allKeys_succ HAk.out hlt h)
              have HKm := Lib.hid (fun (p : List UInt8 × List UInt8) (h : keyWords D[i] = some p) => keysT_mem HAk.out hlt h)
              have HK0 : Hid (keyWords D[i] = none → ∃ (v0 : Value) (A0 A1 : Nat → Prop), BoxS (b9 + 1) ⟨mc, md, ms, mm, ml⟩ v0 wo ∧ Two (fun k => k = b9 + 1) b9 wo v0 (rowsP s) u9 (keysP s) A0 A1 ∧ Below b9 w3 wo) := fun h => HStop.out (fun _ => h)
              have HK1 : Hid ((splitL 32 D[i]).length ≠ 4 → keyWords D[i] = none) := keyWords_len
              have HK2 : Hid ((splitL 32 D[i]).getD 0 [] ≠ [107, 101, 121] → keyWords D[i] = none) := keyWords_head
              have HK3 : Hid ((splitL 32 D[i]).length = 4 → (splitL 32 D[i]).getD 0 [] = [107, 101, 121] → keyWords D[i] = some ((splitL 32 D[i]).getD 2 [], (splitL 32 D[i]).getD 3 [])) := keyWords_yes
              have HKp : Hid (0 < (splitL 32 D[i]).length) := splitL_pos _ _
              have HKz : Hid (∀ j, ((splitL 32 D[i]).getD j []).length ≤ 240) := fun j => by
                rw [List.getD_eq_getElem?_getD]
                by_cases h : j < (splitL 32 D[i]).length
                · rw [List.getElem?_eq_getElem h]
                  have h1 := splitL_le 32 D[i] _ (List.getElem_mem h)
                  have h2 := HDz.out i hlt
                  rw [strOf_size] at h2
                  exact Nat.le_trans h1 h2
                · rw [List.getElem?_eq_none (by omega)]; simp
              generalize strOf D[i] = line at *
              generalize splitL 32 D[i] = ws at *
              generalize keyWords D[i] = kw at *
              clear HStop
              go_wp2_with fail
              refine Calls.mono hsp ?_
              rintro e w4 hr
              obtain ⟨r, rfl, o4, e4⟩ := ret_ext hr
              clear hr hsp hc
              obtain ⟨a4, n4, k4, rfl, hn4, -⟩ := OwnP.shape o4
              rw [List.length_map] at hn4
              have Hn4 := Lib.hid hn4
              have hn40 : 0 < n4 := by have := HKp.out; omega
              obtain ⟨wb, rfl, -, -, hw0, -⟩ := OwnP.elem o4 ⟨#[]⟩ 0 hn40
              have HWl : Hid (∀ j, j < n4 → ∀ w', Ext w4 w' → w'.cell? ⟨wb, j, none⟩ = some (.string (strOf (ws.getD j [])))) := fun j h w' e => by
                obtain ⟨bb', he, -, -, hc, -⟩ := OwnP.elem o4 ⟨#[]⟩ j h
                injection he with he; injection he with he _ _
                subst he
                have hj : j < ws.length := by rw [← Hn4.out]; exact h
                rw [List.getD_eq_getElem?_getD, List.getElem?_eq_getElem (by rw [List.length_map]; exact hj), List.getElem_map] at hc
                rw [e.cell hc, List.getD_eq_getElem?_getD, List.getElem?_eq_getElem hj]
                rfl
              have HE4 := Lib.hid e4
              have hw00 := HWl.out 0 hn40 w4 (Ext.refl _)
              clear hn4 o4 hw0 e4
              have HWd : Hid (((strOf (ws.getD 0 [])).toList == [107, 101, 121]) = decide (ws.getD 0 [] = [107, 101, 121])) := by
                show _ = _
                unfold strOf
                rw [ByteArray.toList_mk, Bool.eq_iff_iff, beq_iff_eq, decide_eq_true_iff]
              obtain ⟨word0, hword0⟩ : ∃ word0, strOf (ws.getD 0 []) = word0 := ⟨_, rfl⟩
              rw [hword0] at hw00 HWd
              clear hword0
              have HMeet : Hid (kw = none → ∃ (v0 : Value) (A0 A1 : Nat → Prop), BoxS (b9 + 1) ⟨mc, md, ms, mm, ml⟩ v0 w4 ∧ Two (fun k => k = b9 + 1) b9 w4 v0 (rowsP s) u9 (keysP s) A0 A1 ∧ Below b9 w3 w4) := fun h => by
                obtain ⟨v, B0, B1, g1, g2, g3⟩ := HK0.out h
                exact ⟨v, B0, B1, g1.ext HE4.out, g2.ext HE4.out, by rw [← hb9]; exact (show Ext w3 wo from HW.out).trans HE4.out⟩
              cases hkey : (word0.toList == [107, 101, 121]) with
              | false =>
                have HQ := Lib.hid (HMeet.out (HK2.out (fun h => by have := HWd.out; rw [hkey, decide_eq_true h] at this; cases this)))
                go_wp2_with fail
                go_meet
                exact HQ.out
              | true =>
                by_cases h4 : n4 = 4
                · have HKw := Lib.hid (HK3.out (by rw [← Hn4.out]; exact h4) (of_decide_eq_true (by rw [← HWd.out]; exact hkey)))
                  subst h4
                  have hz2 : (strOf (ws.getD 2 [])).size ≤ 240 := by rw [strOf_size]; exact HKz.out 2
                  have hz3 : (strOf (ws.getD 3 [])).size ≤ 240 := by rw [strOf_size]; exact HKz.out 3
                  obtain ⟨hAk1, hRw1, hKt1⟩ := HKy.out _ HKw.out
                  have HAk1 := Lib.hid hAk1
                  have HRw1 := Lib.hid hRw1
                  have HKt1 := Lib.hid hKt1
                  have HFail : Hid (isKeyB ⟨mc, md, ms, mm, ml⟩ (digsBack (ws.getD 2 [])) = false → readC s = noRes 6) := fun h => by
                    have hk := HKm.out _ HKw.out
                    have hDD := HD.out
                    subst hDD
                    exact readC_key Hs.out HLn.out (List.mem_map.2 ⟨_, hk, rfl⟩) h
                  have hrk := HRk.out w4.drew ⟨mc, md, ms, mm, ml⟩ hm (strOf (ws.getD 2 [])) hz2
                  rw [data_strOf] at hrk
                  unfold MK.v at hrk
                  have HC2 := Lib.hid (HWl.out 2 (by omega))
                  have HC3 := Lib.hid (HWl.out 3 (by omega))
                  have hl3 : (strOf (ws.getD 3 [])).size = (ws.getD 3 []).length := strOf_size _
                  have HB3 : ∀ j (h : j < (strOf (ws.getD 3 [])).size), (strOf (ws.getD 3 []))[j].toNat = byteV3 (ws.getD 3 []) j := fun j h => by
                    rw [byteGet h, data_strOf]; rfl
                  have HBl3 : Hid (∀ j, byteV3 (ws.getD 3 []) j < 256) := fun j => byteLt _ j
                  have HSn3 : Hid (∀ j, j < (strOf (ws.getD 3 [])).size → digsBack ((ws.getD 3 []).take (j + 1)) = digsBack ((ws.getD 3 []).take j) ++ [(byteV3 (ws.getD 3 []) j : Int) - 48]) := fun j h => digsBack_snoc (by rw [← hl3]; exact h)
                  have HAll3 : Hid (digsBack ((ws.getD 3 []).take (strOf (ws.getD 3 [])).size) = digsBack (ws.getD 3 [])) := by show _ = _; rw [hl3, List.take_length]
                  have HLn3 : Hid (∀ j, j ≤ (strOf (ws.getD 3 [])).size → (digsBack ((ws.getD 3 []).take j)).length = j) := fun j hj => by rw [digsBack_len, List.length_take]; omega
                  have HM2 := Lib.hid (digsBack_mem (ws.getD 2 []))
                  have HM3 := Lib.hid (digsBack_mem (ws.getD 3 []))
                  generalize hdb : (fun j => digsBack ((ws.getD 3 []).take j)) = D3 at *
                  have HDD : ∀ j, digsBack ((ws.getD 3 []).take j) = D3 j := fun j => by rw [← hdb]
                  have HD0 : Hid (D3 0 = []) := by show _ = _; rw [← HDD]; rfl
                  simp only [HDD] at HSn3 HAll3 HLn3
                  generalize isKeyB ⟨mc, md, ms, mm, ml⟩ (digsBack (ws.getD 2 [])) = qk at *
                  generalize digsBack (ws.getD 2 []) = L2 at *
                  generalize digsBack (ws.getD 3 []) = L3 at *
                  generalize byteV3 (ws.getD 3 []) = B3 at *
                  generalize strOf (ws.getD 2 []) = word2 at *
                  generalize strOf (ws.getD 3 []) = word3 at *
                  have HS13 : Hid (∀ w', Ext w4 w' → w'.cell? ⟨w2.heap.size, 0, none⟩ = some (.int .i64 mc) ∧ w'.cell? ⟨w2.heap.size, 1, none⟩ = some (.int .i64 md) ∧ w'.cell? ⟨w2.heap.size, 2, none⟩ = some (.int .i64 ms) ∧ w'.cell? ⟨w2.heap.size, 3, none⟩ = some (.int .i64 mm) ∧ w'.cell? ⟨w2.heap.size, 4, none⟩ = some (.int .i64 ml) ∧ w'.cell? ⟨wb, 2, none⟩ = some (.string word2)) := fun w' e => by
                    obtain ⟨p0, p1, p2, p3, p4⟩ := HS3.out.ext ((HW.out.trans HE4.out).trans e)
                    exact ⟨p0, p1, p2, p3, p4, HC2.out w' e⟩
                  clear hAk1 hRw1 hKt1 hdb HDD hl3 hz2
                  go_wp2_with fail
                  refine wp_region_noPanic ?_
                  refine wp_region_held_drew (S := (fun w' => w'.cell? ⟨w2.heap.size, 0, none⟩ = some (.int .i64 mc) ∧ w'.cell? ⟨w2.heap.size, 1, none⟩ = some (.int .i64 md) ∧ w'.cell? ⟨w2.heap.size, 2, none⟩ = some (.int .i64 ms) ∧ w'.cell? ⟨w2.heap.size, 3, none⟩ = some (.int .i64 mm) ∧ w'.cell? ⟨w2.heap.size, 4, none⟩ = some (.int .i64 ml) ∧ w'.cell? ⟨wb, 2, none⟩ = some (.string word2))) (by kernel_rfl) (HS13.out _ (Ext.drew _)) (fun hHeld => ?_)
                  (refine take_at 0 55 (v := ?_) rfl rfl (by kernel_rfl) (by kernel_rfl) (by kernel_rfl) (fun _ _ _ h => h) (by rfl) ?_ (by assumption) ?_; rotate_left; focus (intro w999 hSw; (try dsimp only at hSw); go_simp <;> with_reducible rfl); (try simp only [Act.put, List.setIfInBounds_toArray, List.set_cons_zero, List.set_cons_succ]))
                  (refine take_at 1 56 (v := ?_) rfl rfl (by kernel_rfl) (by kernel_rfl) (by kernel_rfl) (fun _ _ _ h => h) (by rfl) ?_ (by assumption) ?_; rotate_left; focus (intro w999 hSw; (try dsimp only at hSw); go_simp <;> with_reducible rfl); (try simp only [Act.put, List.setIfInBounds_toArray, List.set_cons_zero, List.set_cons_succ]))
                  (refine take_at 2 57 (v := ?_) rfl rfl (by kernel_rfl) (by kernel_rfl) (by kernel_rfl) (fun _ _ _ h => h) (by rfl) ?_ (by assumption) ?_; rotate_left; focus (intro w999 hSw; (try dsimp only at hSw); go_simp <;> with_reducible rfl); (try simp only [Act.put, List.setIfInBounds_toArray, List.set_cons_zero, List.set_cons_succ]))
                  (refine take_at 3 58 (v := ?_) rfl rfl (by kernel_rfl) (by kernel_rfl) (by kernel_rfl) (fun _ _ _ h => h) (by rfl) ?_ (by assumption) ?_; rotate_left; focus (intro w999 hSw; (try dsimp only at hSw); go_simp <;> with_reducible rfl); (try simp only [Act.put, List.setIfInBounds_toArray, List.set_cons_zero, List.set_cons_succ]))
                  (refine wpAnyH_ready (rs := [4]) (by kernel_rfl) (by simp) ?_; refine AllReadyH.cons rfl (fun K hK => ?_) AllReadyH.nil; go_simp)
                  refine hrk.mono ?_
                  rintro e w5k hr
                  obtain ⟨_, rfl, ⟨u5, rfl, o5⟩, e5⟩ := ret_ext hr
                  have HE5k : Hid (Ext w4 w5k) := (Ext.drew _).trans e5
                  have HO5 : Hid (OwnP (Value.int .i64) 2 w4.heap.size w5k u5 L2) := o5
                  obtain ⟨a5, n5, k5, rfl, -⟩ := OwnP.shape o5
                  clear hr hrk o5 e5
                  (refine hK.out _ _ ?_ (fun hHeld => ?_))
                  · exact HS13.out _ HE5k.out
                  (clear hK K; try dsimp only)
                  (refine take_at 5 54 (v := ?_) rfl rfl (by kernel_rfl) (by kernel_rfl) (by kernel_rfl) (fun _ _ _ h => h) (by rfl) ?_ (by assumption) ?_; rotate_left; focus (intro w999 hSw; (try dsimp only at hSw); go_simp <;> with_reducible rfl); (try simp only [Act.put, List.setIfInBounds_toArray, List.set_cons_zero, List.set_cons_succ]))
                  (refine take_at 6 60 (v := ?_) rfl rfl (by kernel_rfl) (by kernel_rfl) (by kernel_rfl) (fun _ _ _ h => h) (by rfl) ?_ (by assumption) ?_; rotate_left; focus (intro w999 hSw; (try dsimp only at hSw); go_simp <;> with_reducible rfl); (try simp only [Act.put, List.setIfInBounds_toArray, List.set_cons_zero, List.set_cons_succ]))
                  (refine take_at 7 61 (v := ?_) rfl rfl (by kernel_rfl) (by kernel_rfl) (by kernel_rfl) (fun _ _ _ h => h) (by rfl) ?_ (by assumption) ?_; rotate_left; focus (intro w999 hSw; (try dsimp only at hSw); go_simp <;> with_reducible rfl); (try simp only [Act.put, List.setIfInBounds_toArray, List.set_cons_zero, List.set_cons_succ]))
                  (refine take_at 8 13 (v := ?_) rfl rfl (by kernel_rfl) (by kernel_rfl) (by kernel_rfl) (fun _ _ _ h => h) (by rfl) ?_ (by assumption) ?_; rotate_left; focus (intro w999 hSw; (try dsimp only at hSw); go_simp <;> with_reducible rfl); (try simp only [Act.put, List.setIfInBounds_toArray, List.set_cons_zero, List.set_cons_succ]))
                  (refine take_at 9 14 (v := ?_) rfl rfl (by kernel_rfl) (by kernel_rfl) (by kernel_rfl) (fun _ _ _ h => h) (by rfl) ?_ (by assumption) ?_; rotate_left; focus (intro w999 hSw; (try dsimp only at hSw); go_simp <;> with_reducible rfl); (try simp only [Act.put, List.setIfInBounds_toArray, List.set_cons_zero, List.set_cons_succ]))
                  refine wpAnyH_done (by kernel_rfl) ?_ _
                  refine NoPanic.normal ?_
                  have oi : OwnP (Value.int .i64) 2 w5k.heap.size (w5k.alloc (.cells #[] 2)) (.slice (some ⟨w5k.heap.size, 0, none⟩) 0 0) [] := OwnP.empty (Nat.le_refl _)
                  have ei : Ext w5k (w5k.alloc (.cells #[] 2)) := Ext.alloc _ _
                  have hc3 := HC3.out (w5k.alloc (.cells #[] 2)) (HE5k.out.trans ei)
                  go_wp2_with fail
                  generalize w5k.alloc (.cells #[] 2) = w6 at *
                  have hs56 : w5k.heap.size ≤ w6.heap.size := ei.size
                  have HE5w : Hid (Ext w1 w5k) := HE3.out.trans (HW.out.trans (HE4.out.trans HE5k.out))
                  clear hc3
                  go_loopw [15, 16, 67] (fun s15 _ s67 wr => ∃ j : Nat, j ≤ word3.size ∧ s67 = .int .i64 (j : Int) ∧ OwnP (Value.int .i64) 2 w5k.heap.size wr s15 (D3 j) ∧ Ext w5k wr) (fun _ _ s67 _ => word3.size - (intOf s67).toNat)
                  case atStart => exact ⟨0, Nat.zero_le _, rfl, by rw [HD0.out]; exact oi, ei⟩
                  case round =>
                    clear oi ei
                    obtain ⟨j, hj, rfl, ho, ew⟩ := hrel
                    have HEw := Lib.hid ew
                    have hsw := ew.size
                    have hll := HLn3.out j hj
                    by_cases hlt3 : j < word3.size
                    · have hSn := HSn3.out j hlt3
                      have HSi := Lib.hid hSn
                      have hbi := HBl3.out j
                      have hw1 : IntKind.i64.wrap (B3 j : Int) = (B3 j : Int) := IntWalk.i64_in _ (by omega)
                      have hw2 : IntKind.i64.wrap ((B3 j : Int) - 48) = (B3 j : Int) - 48 := IntWalk.i64_in _ (by omega)
                      have hc3 := HC3.out wr (HE5k.out.trans ew)
                      obtain ⟨a15, n15, k15, rfl, -⟩ := OwnP.shape ho
                      generalize D3 j = Di at *
                      clear hSn ew
                      go_wp2_with (at_builtin; (refine wpList_append1X (f := Value.int .i64) (e := 2) (B := w5k.heap.size) (xs := Di) rfl _ _ 46 rfl 0 8 Tryz.underlying46 Tryz.infoI64 rfl (fun _ => rfl) rfl ho ((B3 j : Int) - 48) rfl (by omega) (by omega) hsw ?_); intro v7 w7 hown7 hg7 hb7 hat7)
                      go_roundw
                      case rel => exact ⟨j + 1, by omega, by go_num, by rw [HSi.out]; exact hown7, Below.trans HEw.out hb7⟩
                      case measure => simp [intOf]; omega
                    · have hjn : j = word3.size := by omega
                      subst hjn
                      rw [HAll3.out] at ho
                      cases qk with
                      | false =>
                        have HFl := Lib.hid (HFail.out (by trivial))
                        clear ho hll
                        have HB := Lib.hid (HBad.out wr 6 HFl.out (HE1.out.trans (HE5w.out.trans HEw.out)))
                        obtain ⟨r0, r1, r2, r3, r4, r5, f0, f1, f2, f3, f4, f5⟩ := HR1.out.ext (HE5w.out.trans HEw.out)
                        go_wp2_with fail
                        refine bodyPost_ret (v := .tuple #[.agg #[.int .i64 0, .int .i64 0, .int .i64 0, .int .i64 0, .int .i64 0, .slice none 0 0], .slice none 0 0, .int .i64 6]) (by simp [results, Tryz.results6, go_sem, r0, r1, r2, r3, r4, r5]) rfl HB.out
                      | true =>
                        have Hrow := Lib.hid (OwnP.ints ho HM3.out (Nat.le_refl _))
                        have Hkey := Lib.hid (stable_ints.ext (OwnP.ints HO5.out HM2.out (Nat.le_refl _)) ew)
                        obtain ⟨a15, n15, k15, rfl, -⟩ := OwnP.shape ho
                        have hEo : Ext wo wr := HE4.out.trans (HE5k.out.trans ew)
                        have hTr := HTw.out.ext hEo
                        have hBr := HBx.out.ext hEo
                        have hBlt := HBx.out.lt
                        have hs4 := HE4.out.size
                        have hs5 := HE5k.out.size
                        have hl0 := HTw.out.l0
                        have hl1 := HTw.out.l1
                        have hk0 := HTw.out.o0.block
                        have hk1' := HTw.out.o1.block
                        have hlen := keyT_len D i
                        have hb9w : b9 ≤ wr.heap.size := by omega
                        obtain ⟨a0, n0, k0, rfl, -⟩ := OwnA.shape hTr.o0
                        obtain ⟨a9, n9, k9, rfl, -⟩ := OwnA.shape hTr.o1
                        have HY0 : Hid (∀ k, (⟨w5k.heap.size, wr.heap.size, true⟩ : Zone).Has k → b9 ≤ k ∧ k < wr.heap.size ∧ ¬ A0 k ∧ ¬ A1 k ∧ (Value.slice a0 n0 k0).ownBlock ≠ some k ∧ (Value.slice a9 n9 k9).ownBlock ≠ some k ∧ ¬ (k = b9 + 1)) := fun k hk => by
                          have h1 : w5k.heap.size ≤ k := hk.1
                          exact ⟨by omega, hk.2, fun h => by have := (hl0 k h).2; omega, fun h => by have := (hl1 k h).2; omega, fun h => by have := (hk0 k h).2; omega, fun h => by have := (hk1' k h).2; omega, by omega⟩
                        have HTr := Lib.hid hTr
                        have HBr := Lib.hid hBr
                        have HF0 : Hid (∀ k, k = b9 + 1 → k < wr.heap.size) := fun k h => by omega
                        have HLn1 : Hid ((rowsT D i).length + 1 ≤ 1099511627776 ∧ (keysT D i).length + 1 ≤ 1099511627776) := by constructor <;> omega
                        have HK0 : Hid (∀ k, (⟨w4.heap.size, w5k.heap.size, true⟩ : Zone).Has k → b9 ≤ k ∧ k < wr.heap.size ∧ ¬ A0 k ∧ ¬ A1 k ∧ (Value.slice a0 n0 k0).ownBlock ≠ some k ∧ (Value.slice a9 n9 k9).ownBlock ≠ some k ∧ ¬ (k = b9 + 1)) := fun k hk => by
                          have h1 : w4.heap.size ≤ k := hk.1
                          have h2 : k < w5k.heap.size := hk.2
                          exact ⟨by omega, by omega, fun h => by have := (hl0 k h).2; omega, fun h => by have := (hl1 k h).2; omega, fun h => by have := (hk0 k h).2; omega, fun h => by have := (hk1' k h).2; omega, by omega⟩
                        have HWr : Hid (Ext w3 wr) := HW.out.trans hEo
                        obtain ⟨⟨c0, c1, c2, c3, c4, c5⟩, fz⟩ := hBr
                        simp only at c0 c1 c2 c3 c4 c5
                        have HTwo : Hid (∀ v8 w8, Two (fun k => k = b9 + 1) b9 w8 v8 (rowsT D i ++ [L3]) (.slice a9 n9 k9) (keysT D i) (fun k => A0 k ∨ (⟨w5k.heap.size, wr.heap.size, true⟩ : Zone).Has k) A1 → wr.grownBy w8 (Value.slice a0 n0 k0).ownBlock → (∀ k, v8.ownBlock = some k → (Value.slice a0 n0 k0).ownBlock = some k ∨ wr.heap.size ≤ k) →
                            Two (fun k => k = b9 + 1) b9 w8 (.slice a9 n9 k9) (keysT D i) v8 (rowsT D i ++ [L3]) A1 (fun k => A0 k ∨ (⟨w5k.heap.size, wr.heap.size, true⟩ : Zone).Has k) ∧ IntsR ⟨w4.heap.size, w5k.heap.size, true⟩ w8 (slV (a5, n5, k5)) L2 ∧
                            (∀ k, (⟨w4.heap.size, w5k.heap.size, true⟩ : Zone).Has k → b9 ≤ k ∧ k < w8.heap.size ∧ ¬ A1 k ∧ ¬ (A0 k ∨ (⟨w5k.heap.size, wr.heap.size, true⟩ : Zone).Has k) ∧ (Value.slice a9 n9 k9).ownBlock ≠ some k ∧ v8.ownBlock ≠ some k ∧ ¬ (k = b9 + 1)) ∧ (∀ k, k = b9 + 1 → k < w8.heap.size) ∧ b9 ≤ w8.heap.size ∧
                            (∀ v9 w9, Two (fun k => k = b9 + 1) b9 w9 v9 (keysT D i ++ [L2]) v8 (rowsT D i ++ [L3]) (fun k => A1 k ∨ (⟨w4.heap.size, w5k.heap.size, true⟩ : Zone).Has k) (fun k => A0 k ∨ (⟨w5k.heap.size, wr.heap.size, true⟩ : Zone).Has k) → w8.grownBy w9 (Value.slice a9 n9 k9).ownBlock →
                              BoxS (b9 + 1) ⟨mc, md, ms, mm, ml⟩ (.slice a0 n0 k0) w9 ∧ BoxS (b9 + 1) ⟨mc, md, ms, mm, ml⟩ v8 (w9.setCell ⟨b9 + 1, 5, none⟩ v8) ∧ Two (fun k => k = b9 + 1) b9 (w9.setCell ⟨b9 + 1, 5, none⟩ v8) v8 (rowsT D (i + 1)) v9 (keysT D (i + 1)) (fun k => A0 k ∨ (⟨w5k.heap.size, wr.heap.size, true⟩ : Zone).Has k) (fun k => A1 k ∨ (⟨w4.heap.size, w5k.heap.size, true⟩ : Zone).Has k) ∧ Below b9 w3 (w9.setCell ⟨b9 + 1, 5, none⟩ v8))) := fun v8 w8 T8 g8 at8 => by
                          have hs8 := g8.size
                          have hbb : b9 + 1 < wr.heap.size := HF0.out _ rfl
                          refine ⟨T8.swap, stable_ints.keep Hkey.out (fun k hk hl => g8.block k hl (fun e => (HK0.out k hk).2.2.2.2.1 e.symm)), fun k hk => ?_, fun k hk => by omega, by omega, fun v9 w9 T9 g9 => ?_⟩
                          · obtain ⟨q1, q2, q3, q4, q5, q6, q7⟩ := HK0.out k hk
                            refine ⟨q1, by omega, q4, fun h => ?_, q6, fun h => ?_, q7⟩
                            · rcases h with h | h
                              · exact q3 h
                              · have h1 : w5k.heap.size ≤ k := h.1
                                have h2 : k < w5k.heap.size := hk.2
                                omega
                            · rcases at8 k h with h | h
                              · exact q5 h
                              · have h2 : k < w5k.heap.size := hk.2
                                omega
                          · have hs9 := g9.size
                            have B8 := (HBx.out.ext (HE4.out.trans (HE5k.out.trans HEw.out))).of (g8.block (b9 + 1) hbb (fun e => (HTr.out.f _ rfl).2.1 e.symm))
                            have B9 := B8.of (g9.block (b9 + 1) (by omega) (fun e => (T8.f _ rfl).2.2 e.symm))
                            refine ⟨B9, B9.put5 v8, ?_, ?_⟩
                            · rw [HRw1.out, HKt1.out]
                              exact T9.swap.put (.inl rfl) 5 v8
                            · have h1 : Below b9 wr w8 := Below.grown (Below.refl _ _) g8 (by omega) (fun k hk => (HTr.out.o0.block k hk).1)
                              have h2 : Below b9 w8 w9 := Below.grown (Below.refl _ _) g9 (by omega) (fun k hk => (HTr.out.o1.block k hk).1)
                              have h3 : Below b9 w3 wr := by rw [← hb9]; exact HWr.out
                              exact Below.setCell ((h3.trans h1).trans h2) (by show b9 ≤ b9 + 1; omega) _
                        clear hTr hEo hBlt hl0 hl1 hk0 hk1' hlen hll ho ew fz
                        have HRun1 := Lib.hid (fun (ty : TypeId) => run_two (P := Tryz.prog) HTr.out 24 ty Tryz.underlying24 Tryz.infoInts (u := (a15, n15, k15)) (y := L3) Hrow.out rfl HY0.out HF0.out (g := wr.heap.size) rfl HLn1.out.1 hb9w)
                        unfold slV at HRun1
                        simp only at HRun1
                        go_wp2_with (at_builtin; (first | (have honce := HTwo; (refine wpList_append_of (v := .slice a0 n0 k0) rfl _ _ 24 rfl rfl rfl HRun1.out ?_); intro v8 w8 h8; obtain ⟨a8, n8, k8, rfl, -⟩ := OwnA.shape h8.1.o0; have HX8 := HTwo.out _ w8 h8.1 h8.2.2.1 h8.2.2.2; have HRun2 := Lib.hid (fun (ty : TypeId) => run_two (P := Tryz.prog) HX8.1 24 ty Tryz.underlying24 Tryz.infoInts (u := (a5, n5, k5)) (y := L2) HX8.2.1 rfl HX8.2.2.1 HX8.2.2.2.1 (g := w8.heap.size) rfl HLn1.out.2 HX8.2.2.2.2.1); unfold slV at HRun2; simp only at HRun2; have HX8e := Lib.hid HX8.2.2.2.2.2; clear h8 honce HTwo HRun1 HX8) | ((refine wpList_append_of (v := .slice a9 n9 k9) rfl _ _ 24 rfl rfl rfl HRun2.out ?_); intro v9 w9 h9; have HX9 := HX8e.out v9 w9 h9.1 h9.2.2.1; clear h9 HX8e HRun2; obtain ⟨⟨⟨c0, c1, c2, c3, c4, c5⟩, fz⟩, HX9b⟩ := HX9; have f5 := fz 5; have HZ := Lib.hid HX9b; clear HX9b fz)))
                        go_roundw
                        case rel => exact ⟨i + 1, _, _, _, by omega, by go_num, HZ.out.1, HZ.out.2.1, HAk1.out, HZ.out.2.2⟩
                        case measure => simp [intOf]; omega
                · have hn4b : ((n4 : Int) != 4) = true := by rw [bne_iff_ne]; omega
                  have HQ := Lib.hid (HMeet.out (HK1.out (by rw [← Hn4.out]; exact h4)))
                  go_wp2_with fail
                  go_meet
                  exact HQ.out
            · have HSt := Lib.hid (HStop.out (fun hl => absurd hl hlt))
              go_wp2_with fail
              go_meet
              exact HSt.out
        case rest =>
          clear HT5 HB5 HE5
          obtain ⟨v0, A0, A1, hBx, hTw, hBe⟩ := hcut
          have HBx := Lib.hid hBx
          have HTw := Lib.hid hTw
          have HW : Hid (Ext w3 wc) := by show Below _ _ _; rw [hb9]; exact hBe
          have HWc : Hid (Ext w1 wc) := HE3.out.trans HW.out
          have HWw : Hid (Ext w wc) := HE1.out.trans HWc.out
          have HI0 := Lib.hid hTw.rows0
          have HI1 := Lib.hid hTw.rows1
          obtain ⟨a0, n0, k0, rfl, -⟩ := SliceR.shape hTw.rows0
          obtain ⟨a9, n9, k9, rfl, -⟩ := SliceR.shape hTw.rows1
          have hdes := IsDesign_c wc ⟨mc, md, ms, mm, ml⟩ _ _ _ HI0.out _ _ _ HI1.out
          unfold sysV at hdes
          simp only at hdes
          have HNoD : Hid (isDesign ⟨mc, md, ms, mm, ml⟩ (rowsP s) (keysP s) = false → readC s = noRes 6) := fun h => readC_design Hs.out HLn.out (.inl (by unfold designCode; rw [h]; simp))
          have HNoC : Hid (chartV ⟨mc, md, ms, mm, ml⟩ (rowsP s) (keysP s) ≠ s → readC s = noRes 6) := fun h => readC_design Hs.out HLn.out (.inr h)
          have HYesC : Hid (isDesign ⟨mc, md, ms, mm, ml⟩ (rowsP s) (keysP s) = true → chartV ⟨mc, md, ms, mm, ml⟩ (rowsP s) (keysP s) = s → readC s = ((⟨mc, md, ms, mm, ml⟩, rowsP s), (keysP s, 0))) := fun h1 h2 => readC_yes Hs.out (by unfold designCode; rw [if_pos h1]) h2
          have HCh : Hid (isDesign ⟨mc, md, ms, mm, ml⟩ (rowsP s) (keysP s) = true → ∀ w', Ext wc w' → Calls Tryz.prog 29 #[.agg #[.int .i64 mc, .int .i64 md, .int .i64 ms, .int .i64 mm, .int .i64 ml, .slice a0 n0 k0], .slice a9 n9 k9] w' (Ret w' fun r _ => r = .string (chartV ⟨mc, md, ms, mm, ml⟩ (rowsP s) (keysP s)))) := fun h w' e => HChart.out w' (HWw.out.trans e) ⟨mc, md, ms, mm, ml⟩ _ _ _ (stable_rows.ext HI0.out e) _ _ _ (stable_rows.ext HI1.out e) (designCode_zero (by unfold designCode; rw [if_pos h]))
          have HEqS : Hid (∀ q, ((chartV ⟨mc, md, ms, mm, ml⟩ (rowsP s) (keysP s)).toList == s.toList) = q → (q = true ↔ chartV ⟨mc, md, ms, mm, ml⟩ (rowsP s) (keysP s) = s)) := fun q hq => by
            rw [← hq, beq_iff_eq, ByteArray.toList_eq, ByteArray.toList_eq]
            exact ⟨fun h => ByteArray.ext (Array.toList_inj.1 h), fun h => by rw [h]⟩
          generalize isDesign ⟨mc, md, ms, mm, ml⟩ (rowsP s) (keysP s) = isd at *
          generalize chartV ⟨mc, md, ms, mm, ml⟩ (rowsP s) (keysP s) = chart at *
          obtain ⟨c0, c1, c2, c3, c4, c5⟩ := hBx.1
          simp only at c0 c1 c2 c3 c4 c5
          clear hBx hTw hBe HChart HI0 HI1
          go_wp2_with fail
          refine Calls.mono hdes ?_
          rintro e w6 hr
          obtain ⟨r, rfl, rfl, e6⟩ := ret_ext hr
          have HE6 := Lib.hid e6
          clear hr hdes c0 c1 c2 c3 c4 c5 e6
          cases isd with
          | false =>
            have HB := Lib.hid (HBad.out w6 6 (HNoD.out rfl) (HE1.out.trans (HWc.out.trans HE6.out)))
            obtain ⟨r0, r1, r2, r3, r4, r5, f0, f1, f2, f3, f4, f5⟩ := HR1.out.ext (HWc.out.trans HE6.out)
            go_wp2_with fail
            refine bodyPost_ret (v := .tuple #[.agg #[.int .i64 0, .int .i64 0, .int .i64 0, .int .i64 0, .int .i64 0, .slice none 0 0], .slice none 0 0, .int .i64 6]) (by simp [results, Tryz.results6, go_sem, r0, r1, r2, r3, r4, r5]) rfl HB.out
          | true =>
            have hch := HCh.out rfl w6 HE6.out
            obtain ⟨c0, c1, c2, c3, c4, c5⟩ := (HBx.out.ext HE6.out).1
            simp only at c0 c1 c2 c3 c4 c5
            clear HCh
            go_wp2_with fail
            refine Calls.mono hch ?_
            rintro e w7 hr
            obtain ⟨r, rfl, rfl, e7⟩ := ret_ext hr
            have HE7 := Lib.hid (HE6.out.trans e7)
            clear hr hch c0 c1 c2 c3 c4 c5 e7
            cases hq : (chart.toList == s.toList) with
            | false =>
              have hne : ¬ (chart = s) := fun h => by have := (HEqS.out false hq).2 h; cases this
              have HneR := Lib.hid (HNoC.out hne)
              clear hne
              have HB := Lib.hid (HBad.out w7 6 HneR.out (HE1.out.trans (HWc.out.trans HE7.out)))
              obtain ⟨r0, r1, r2, r3, r4, r5, f0, f1, f2, f3, f4, f5⟩ := HR1.out.ext (HWc.out.trans HE7.out)
              go_wp2_with fail
              refine bodyPost_ret (v := .tuple #[.agg #[.int .i64 0, .int .i64 0, .int .i64 0, .int .i64 0, .int .i64 0, .slice none 0 0], .slice none 0 0, .int .i64 6]) (by simp [results, Tryz.results6, go_sem, r0, r1, r2, r3, r4, r5]) rfl HB.out
            | true =>
              have HRd := Lib.hid (HYesC.out (by trivial) ((HEqS.out true hq).1 rfl))
              obtain ⟨c0, c1, c2, c3, c4, c5⟩ := (HBx.out.ext HE7.out).1
              obtain ⟨r0, r1, r2, r3, r4, r5, f0, f1, f2, f3, f4, f5⟩ := HR1.out.ext (HWc.out.trans HE7.out)
              simp only at c0 c1 c2 c3 c4 c5
              have hwb : w.heap.size < b9 := by have h1 := HR1.out.lt; have h2 := HE3.out.size; omega
              have HT7 : Hid (Two (fun _ => False) w.heap.size ((((((w7.setCell ⟨w.heap.size, 0, none⟩ (.int .i64 mc)).setCell ⟨w.heap.size, 1, none⟩ (.int .i64 md)).setCell ⟨w.heap.size, 2, none⟩ (.int .i64 ms)).setCell ⟨w.heap.size, 3, none⟩ (.int .i64 mm)).setCell ⟨w.heap.size, 4, none⟩ (.int .i64 ml)).setCell ⟨w.heap.size, 5, none⟩ (.slice a0 n0 k0)) (.slice a0 n0 k0) (rowsP s) (.slice a9 n9 k9) (keysP s) A0 A1) :=
                (((((((HTw.out.ext HE7.out).put (.inr hwb) 0 (.int .i64 mc)).put (.inr hwb) 1 (.int .i64 md)).put (.inr hwb) 2 (.int .i64 ms)).put (.inr hwb) 3 (.int .i64 mm)).put (.inr hwb) 4 (.int .i64 ml)).put (.inr hwb) 5 (.slice a0 n0 k0)).low (Nat.le_of_lt hwb) (fun _ h => h.elim)
              have HZ : Hid (Below w.heap.size w ((((((w7.setCell ⟨w.heap.size, 0, none⟩ (.int .i64 mc)).setCell ⟨w.heap.size, 1, none⟩ (.int .i64 md)).setCell ⟨w.heap.size, 2, none⟩ (.int .i64 ms)).setCell ⟨w.heap.size, 3, none⟩ (.int .i64 mm)).setCell ⟨w.heap.size, 4, none⟩ (.int .i64 ml)).setCell ⟨w.heap.size, 5, none⟩ (.slice a0 n0 k0))) := ext_putS (HWw.out.trans HE7.out) (Nat.le_refl _) _ _ _ _ _ _
              have HRR : Hid (∀ W, Two (fun _ => False) w.heap.size W (.slice a0 n0 k0) (rowsP s) (.slice a9 n9 k9) (keysP s) A0 A1 → ReadR w (readC s) (.tuple #[.agg #[.int .i64 mc, .int .i64 md, .int .i64 ms, .int .i64 mm, .int .i64 ml, .slice a0 n0 k0], .slice a9 n9 k9, .int .i64 0]) W) := fun W h => by rw [HRd.out]; exact ⟨_, _, A0, A1, rfl, h⟩
              go_wp2_with fail
              refine bodyPost_ret (v := .tuple #[.agg #[.int .i64 mc, .int .i64 md, .int .i64 ms, .int .i64 mm, .int .i64 ml, .slice a0 n0 k0], .slice a9 n9 k9, .int .i64 0]) (by simp [results, Tryz.results6, go_sem, r0, r1, r2, r3, r4, r5]) rfl ⟨_, rfl, HRR.out _ HT7.out, HZ.out⟩
end Go.Proofs.YtkeikjedbfomnaaGreatDoor
