/- Proved: for every code, laws.FnChartLines returns true and changes nothing that was there; the listed tables of the library start as the program's text lays them. -/
import Derived.Test.YtpcgbfogkcbddaaGreatDoorRows
import Derived.Deep.RegionLaw
import Derived.Deep.RegionHeld3
import Derived.ChangeMaps5
import Derived.LaidMore
import Derived.LaidSub
import Derived.Lay
import Derived.Lib.LaidTab
import Derived.SevenTiedAt
import Derived.Deep.DeepHandedRow
import Derived.Test.YtpcgbfogkcbddaaGreatDoorCards
import Derived.Test.YtpcgbfogkcbddaaGreatDoorTie
import Derived.Test.YtpcgbfogkcbddaaGreatDoorUPkL
import Derived.Test.YtpcgbfogkcbddaaGreatDoorUDrawChart
import Derived.Test.YtpcgbfogkcbddaaGreatDoorUDrawDoorL
import Derived.Test.YtpcgbfogkcbddaaGreatDoorUChartFacts
import Derived.Test.YtpcgbfogkcbddaaGreatDoorUChartI
import Derived.Test.YtpcgbfogkcbddaaGreatDoorUPkT2
import Derived.Test.YtpcgbfogkcbddaaGreatDoorUDrawCost
namespace Go.Proofs.YtpcgbfogkcbddaaGreatDoor
open Go.ChangeShapes Go.WideShapes Go.ChangeAt Go.RowKit
set_option linter.unusedVariables false
namespace fnChartLines

theorem gTab : Tryz.prog.globalNamed "internal/strconv.uint64pow10" = some 1 := by kernel_rfl
theorem gTabType : (Tryz.prog.globals[1]?).map (·.type) = some 206 := by kernel_rfl
theorem cellsTab : Tryz.prog.cellsOf 206 = 20 := by kernel_rfl
theorem cellsOne : Tryz.prog.cellsOf 176 = 1 := by kernel_rfl
theorem rowTab : Rows.fnChartLinesRow.laid.filter (fun x => x.1 == "internal/strconv.uint64pow10") = [("internal/strconv.uint64pow10", Lib.tabData .u64 Lib.pow10Tab)] := by kernel_rfl
theorem pow10_of {W : World} (h : laidMetH Tryz.prog Rows.fnChartLinesRow.laid W) : Pow10 W := by
  have h' := laidMetH.filter (fun x => x.1 == "internal/strconv.uint64pow10") h
  rw [rowTab] at h'
  exact Lib.tabIs_of_head (rest := []) gTab gTabType Tryz.underlying206 Tryz.underlying176 cellsOne cellsTab h'
theorem chart_zero {mk : MK} {t cuts : List (List Int)} (h : (chartM mk t cuts).2 = 0) : designCode mk t cuts = 0 ∧ countL (chartM mk t cuts).1.data.toList = (((1 + cuts.length + doorsOf t : Nat) : Int), 0) := by
  by_cases hd : designCode mk t cuts = 0
  · by_cases hs : 240 < (chartV mk t cuts).size
    · rw [chart_long hd hs] at h; cases h
    · rw [chart_ok hd hs]
      exact ⟨hd, chart_lines hd (by omega)⟩
  · rw [chart_bad hd] at h
    exact absurd h hd

set_option maxRecDepth 20000 in
set_option maxHeartbeats 800000 in
theorem walk (w : World) (hsh : w.ShapedOpen Tryz.prog) (hL : laidMetH Tryz.prog Rows.fnChartLinesRow.laid w) (v : Value) (x : List Int) (h : BytesR (.old w) w v x) : Calls Tryz.prog 7 #[v] w (Ret w fun r _ => r = .bool true) := by
  have hT := pow10_of hL
  obtain ⟨mx, hmx⟩ := maxLen_cell w hsh
  have hcall := big_c w v _ x h
  have DS := Lib.hid (fun (w' : World) (e : Ext w w') => DrawSameChart_c w' v _ x (stable_bytes.ext h e))
  have DK := Lib.hid (fun (w' : World) (e : Ext w w') => DrawKeyLine_c w' v _ x (stable_bytes.ext h e))
  have DD := Lib.hid (fun (w' : World) (e : Ext w w') => DrawDoorLine_c w' v _ x (stable_bytes.ext h e))
  have DC := Lib.hid (fun (w' : World) (e : Ext w w') => DrawCountLines_c w' v _ x (stable_bytes.ext h e))
  have SI : Hid (∀ w', Ext w w' → ∀ (a b : ByteArray), a.size ≤ 1000 → b.size ≤ 1000 → Calls Tryz.prog 29 #[.string a, .string b] w' (Ret w' fun r _ => r = IntCode (sameC a.data.toList b.data.toList))) := fun w' e a b ha hb => SameChart_c w' a (by unfold maxLen; omega) b (by unfold maxLen; omega) ⟨mx, e.cell hmx⟩
  have SS : Hid (∀ (w' : World) (a b : ByteArray), a.size ≤ 1000 → b.size ≤ 1000 → Calls Tryz.prog 30 #[.string a, .string b] w' (Ret w' fun r _ => r = IntCode (sameC a.data.toList b.data.toList))) := fun w' a b ha hb => SameChartSpec_c w' a (by unfold maxLen; omega) b (by unfold maxLen; omega)
  have LI : Hid (∀ (w' : World) (a : ByteArray), a.size ≤ 1000 → Calls Tryz.prog 34 #[.string a] w' (Ret w' fun r _ => r = IntCode (countL a.data.toList))) := fun w' a ha => CountLines_c w' a (by unfold maxLen; omega)
  have LS : Hid (∀ (w' : World) (a : ByteArray), a.size ≤ 1000 → Calls Tryz.prog 35 #[.string a] w' (Ret w' fun r _ => r = IntCode (countL a.data.toList))) := fun w' a ha => CountLinesSpec_c w' a (by unfold maxLen; omega)
  have KI := Lib.hid (fun (w' : World) (e : Ext w w') (mk : MK) (v : Value) (z : Zone) (t : List (List Int)) (h : RowsR z w' v t) (u : Value) (y : Zone) (cuts : List (List Int)) (hc : RowsR y w' u cuts) (k : Int) => KeyLine_c w' (hT.ext e) mk v z t h u y cuts hc k)
  have DI := Lib.hid (fun (w' : World) (e : Ext w w') (mk : MK) (v : Value) (z : Zone) (t : List (List Int)) (h : RowsR z w' v t) (u : Value) (y : Zone) (cuts : List (List Int)) (hc : RowsR y w' u cuts) (k : Int) => DoorLine_c w' (hT.ext e) mk v z t h u y cuts hc k)
  have CI := Lib.hid (fun (w' : World) (e : Ext w w') (mk : MK) (v : Value) (z : Zone) (t : List (List Int)) (h : RowsR z w' v t) (u : Value) (y : Zone) (cuts : List (List Int)) (hc : RowsR y w' u cuts) => ChartText_c w' (hT.ext e) mk v z t h u y cuts hc)
  obtain ⟨av, nv, kv, rfl, -⟩ := BytesR.shape h
  clear h hT hL hsh hmx
  cases hb : decide (4096 < x.length) with
  | true =>
    rw [hb] at hcall
    clear hb DS DK DD DC SI SS LI LS KI DI CI
    go_enter Tryz.func7, Tryz.ntmps7
    go_wp2_with fail
    refine Calls.mono hcall ?_
    rintro e w1 hr
    obtain ⟨rfl, hd, e1⟩ := retq_ext hr
    clear hr hcall
    go_wp2_with fail
    go_ret
    exact ⟨_, rfl, rfl, e1⟩
  | false =>
    rw [hb] at hcall
    clear hb
    go_enter Tryz.func7, Tryz.ntmps7
    go_wp2_with fail
    refine Calls.mono hcall ?_
    rintro e w1 hr
    obtain ⟨rfl, hd, e1⟩ := retq_ext hr
    clear hr hcall hd
    have hcall := DS.out w1 e1
    clear DS
    go_wp2_with fail
    refine Calls.mono hcall ?_
    rintro e w2 hr
    obtain ⟨_, rfl, ⟨a, b, rfl, ha, hb⟩, e2⟩ := ret_ext hr
    clear hr hcall
    have et2 := e1.trans e2
    have HBk : Hid ((sameC a.data.toList b.data.toList).2 = 0 → sameC b.data.toList a.data.toList = sameC a.data.toList b.data.toList ∧ ((sameC a.data.toList b.data.toList).1 = 0 ↔ a.data.toList = b.data.toList)) := same_back
    have hcS := SI.out w2 et2 a b ha hb
    have HcS2 := Lib.hid (fun (w' : World) => SS.out w' a b ha hb)
    have HcB := Lib.hid (fun (w' : World) (e : Ext w w') => SI.out w' e b a hb ha)
    obtain ⟨⟨n1, c1⟩, hsc⟩ : ∃ q, sameC a.data.toList b.data.toList = q := ⟨_, rfl⟩
    rw [hsc] at hcS HcS2 HBk
    have HEqB : Hid (c1 = 0 → sameC b.data.toList a.data.toList = (n1, 0) ∧ ((n1 == 0) == (a.toList == b.toList)) = true) := fun h0 => by
      obtain ⟨g1, g2⟩ := HBk.out h0
      refine ⟨by rw [g1, h0], ?_⟩
      rw [ByteArray.toList_eq, ByteArray.toList_eq, beq_iff_eq, Bool.eq_iff_iff, beq_iff_eq, beq_iff_eq]
      exact g2
    unfold IntCode at hcS HcS2
    simp only at hcS HcS2
    clear hsc HBk SI SS ha hb e1 e2
    go_wp2_with fail
    refine Calls.mono hcS ?_
    rintro e w3 hr
    obtain ⟨r, rfl, rfl, e3⟩ := ret_ext hr
    clear hr hcS
    have et3 := et2.trans e3
    go_wp2_with fail
    refine Calls.mono (HcS2.out w3) ?_
    rintro e w4 hr
    obtain ⟨r, rfl, rfl, e4⟩ := ret_ext hr
    clear hr HcS2
    have et4 := et3.trans e4
    have hcall := DK.out w4 et4
    clear DK et2 et3 e3 e4
    go_wp2_with fail
    refine Calls.mono hcall ?_
    rintro e w5 hr
    obtain ⟨_, rfl, ⟨mk, vt, t, vc, cuts, key, rfl, -, ht, hc⟩, e5⟩ := ret_ext hr
    clear hr hcall
    have et5 := et4.trans e5
    obtain ⟨a1, m1, k1, rfl, hm1, -⟩ := SliceR.shape ht
    obtain ⟨a2, m2, k2, rfl, hm2, -⟩ := SliceR.shape hc
    have Hm1 : Hid (m1 = t.length) := hm1
    have Hm2 : Hid (m2 = cuts.length) := hm2
    clear hm1 hm2
    unfold sysV
    go_wp2_with fail
    generalize hw6 : World.alloc w5 _ = w6
    obtain ⟨e6, S6⟩ := sys_box hw6
    clear hw6
    have HS6 := Lib.hid S6
    have HT6 := Lib.hid (fun (w' : World) (e : Ext w6 w') => stable_rows.ext ht (e6.trans e))
    have HC6 := Lib.hid (fun (w' : World) (e : Ext w6 w') => stable_rows.ext hc (e6.trans e))
    have et6 := et5.trans e6
    clear ht hc S6 et4 e5 et5 e6
    obtain ⟨⟨l1, d1⟩, hkl⟩ : ∃ q, keyLineM mk t cuts key = q := ⟨_, rfl⟩
    have hcK := KI.out w6 et6 mk _ _ t (HT6.out _ (Ext.refl _)) _ _ cuts (HC6.out _ (Ext.refl _)) key
    have HcK2 := Lib.hid (fun (w' : World) (e : Ext w6 w') => KeyLineSpec_c w' mk _ _ t (HT6.out _ e) _ _ cuts (HC6.out _ e) key)
    rw [hkl] at hcK HcK2
    unfold StrCode sysV at hcK HcK2
    clear KI hkl
    obtain ⟨p0, p1, p2, p3, p4, p5⟩ := HS6.out.all (Ext.refl _)
    go_wp2_with fail
    refine Calls.mono hcK ?_
    rintro e w7 hr
    obtain ⟨r, rfl, rfl, e7⟩ := ret_ext hr
    clear hr hcK p0 p1 p2 p3 p4 p5
    have et7 := et6.trans e7
    obtain ⟨p0, p1, p2, p3, p4, p5⟩ := HS6.out.all e7
    go_wp2_with fail
    refine Calls.mono (HcK2.out w7 e7) ?_
    rintro e w8 hr
    obtain ⟨r, rfl, rfl, e8⟩ := ret_ext hr
    clear hr HcK2 p0 p1 p2 p3 p4 p5
    have et8 := et7.trans e8
    have E68 := Lib.hid (e7.trans e8)
    have hcall := DD.out w8 et8
    clear DD et6 et7 e7 e8
    go_wp2_with fail
    refine Calls.mono hcall ?_
    rintro e w9 hr
    obtain ⟨_, rfl, ⟨mk2, vt2, t2, vc2, cuts2, door, rfl, -, ht, hc⟩, e9⟩ := ret_ext hr
    clear hr hcall
    have et9 := et8.trans e9
    obtain ⟨a3, m3, k3, rfl, -⟩ := SliceR.shape ht
    obtain ⟨a4, m4, k4, rfl, -⟩ := SliceR.shape hc
    unfold sysV
    go_wp2_with fail
    generalize hw10 : World.alloc w9 _ = w10
    obtain ⟨e10, S10⟩ := sys_box hw10
    clear hw10
    have HS10 := Lib.hid S10
    have HT10 := Lib.hid (fun (w' : World) (e : Ext w10 w') => stable_rows.ext ht (e10.trans e))
    have HC10 := Lib.hid (fun (w' : World) (e : Ext w10 w') => stable_rows.ext hc (e10.trans e))
    have et10 := et9.trans e10
    have E610 := Lib.hid ((E68.out.trans e9).trans e10)
    clear ht hc S10 et8 e9 et9 e10 E68
    obtain ⟨⟨l2, d2⟩, hdl⟩ : ∃ q, doorLineM mk2 t2 cuts2 door = q := ⟨_, rfl⟩
    have hcD := DI.out w10 et10 mk2 _ _ t2 (HT10.out _ (Ext.refl _)) _ _ cuts2 (HC10.out _ (Ext.refl _)) door
    have HcD2 := Lib.hid (fun (w' : World) (e : Ext w10 w') => DoorLineSpec_c w' mk2 _ _ t2 (HT10.out _ e) _ _ cuts2 (HC10.out _ e) door)
    rw [hdl] at hcD HcD2
    unfold StrCode sysV at hcD HcD2
    clear DI hdl HT10 HC10
    obtain ⟨p0, p1, p2, p3, p4, p5⟩ := HS10.out.all (Ext.refl _)
    go_wp2_with fail
    refine Calls.mono hcD ?_
    rintro e w11 hr
    obtain ⟨r, rfl, rfl, e11⟩ := ret_ext hr
    clear hr hcD p0 p1 p2 p3 p4 p5
    obtain ⟨p0, p1, p2, p3, p4, p5⟩ := HS10.out.all e11
    go_wp2_with fail
    refine Calls.mono (HcD2.out w11 e11) ?_
    rintro e w12 hr
    obtain ⟨r, rfl, rfl, e12⟩ := ret_ext hr
    clear hr HcD2 p0 p1 p2 p3 p4 p5 HS10
    have et12 := (et10.trans e11).trans e12
    have E612 := Lib.hid ((E610.out.trans e11).trans e12)
    have hcall := DC.out w12 et12
    clear DC et10 e11 e12 E610
    go_wp2_with fail
    refine Calls.mono hcall ?_
    rintro e w13 hr
    obtain ⟨_, rfl, ⟨tx, rfl, htx⟩, e13⟩ := ret_ext hr
    clear hr hcall
    have et13 := et12.trans e13
    have hcL := LI.out w13 tx (by omega)
    have HcL2 := Lib.hid (fun (w' : World) => LS.out w' tx (by omega))
    obtain ⟨⟨n3, c3⟩, hcl⟩ : ∃ q, countL tx.data.toList = q := ⟨_, rfl⟩
    rw [hcl] at hcL HcL2
    unfold IntCode at hcL HcL2
    simp only at hcL HcL2
    clear hcl LS htx
    go_wp2_with fail
    refine Calls.mono hcL ?_
    rintro e w14 hr
    obtain ⟨r, rfl, rfl, e14⟩ := ret_ext hr
    clear hr hcL
    go_wp2_with fail
    refine Calls.mono (HcL2.out w14) ?_
    rintro e w15 hr
    obtain ⟨r, rfl, rfl, e15⟩ := ret_ext hr
    clear hr HcL2
    have et15 := (et13.trans e14).trans e15
    have E615 := Lib.hid (((E612.out.trans e13).trans e14).trans e15)
    clear et12 et13 e13 e14 e15 E612
    obtain ⟨p0, p1, p2, p3, p4, p5⟩ := HS6.out.all E615.out
    have HCz : Hid ((chartM mk t cuts).2 = 0 → designCode mk t cuts = 0 ∧ countL (chartM mk t cuts).1.data.toList = (((1 + cuts.length + doorsOf t : Nat) : Int), 0)) := chart_zero
    have hcs := chartM_size mk t cuts
    have hcC := CI.out w15 et15 mk _ _ t (HT6.out _ E615.out) _ _ cuts (HC6.out _ E615.out)
    have HRow := Lib.hid (fun (h0 : 0 < m1) (w' : World) (e : Ext w6 w') => rows_at (HT6.out w' e) h0)
    have HDo : Hid (doorsOf t = (t.getD 0 []).length) := rfl
    have HOk : Hid (designCode mk t cuts = 0 → cuts.length ≤ 10 ∧ doorsOf t ≤ 12 ∧ 0 < t.length) := fun h0 => by
      have ok := designCode_zero h0
      have h1 := ok.len
      have h2 := ok.eq
      have h3 := ok.doors
      omega
    rw [← Hm2.out] at HCz HOk
    rw [← Hm1.out] at HOk
    obtain ⟨⟨l5, d5⟩, hch⟩ : ∃ q, chartM mk t cuts = q := ⟨_, rfl⟩
    rw [hch] at hcC HCz hcs
    simp only at HCz hcs
    unfold StrCode sysV at hcC
    clear CI hch
    go_wp2_with fail
    refine Calls.mono hcC ?_
    rintro e w16 hr
    obtain ⟨r, rfl, rfl, e16⟩ := ret_ext hr
    clear hr hcC p0 p1 p2 p3 p4 p5
    have et16 := et15.trans e16
    have E616 := Lib.hid (E615.out.trans e16)
    clear et15 e16 E615
    by_cases hd5 : d5 = 0
    · subst hd5
      obtain ⟨hdz, hcn⟩ := HCz.out rfl
      obtain ⟨hm10, hd12, hm0⟩ := HOk.out hdz
      have hcL := LI.out w16 l5 (by omega)
      rw [hcn] at hcL
      unfold IntCode at hcL
      simp only at hcL
      clear LI HCz HOk hcn hdz hcs
      go_wp2_with fail
      refine Calls.mono hcL ?_
      rintro e w17 hr
      obtain ⟨r, rfl, rfl, e17⟩ := ret_ext hr
      clear hr hcL
      have et17 := et16.trans e17
      have E617 := Lib.hid (E616.out.trans e17)
      obtain ⟨br, offr, rfl, ar, mr, kr, hmr, -, -, hcr, -⟩ := HRow.out hm0 w17 E617.out
      rw [← HDo.out] at hmr
      have hcr1 : w17.cell? ⟨br, offr, none⟩ = some (.slice ar mr kr) := hcr w17 (Ext.refl _)
      rw [← hmr] at hd12 ⊢
      obtain ⟨p0, p1, p2, p3, p4, p5⟩ := HS6.out.all E617.out
      have hw1 : IntKind.i64.wrap (1 + (m2 : Int)) = 1 + (m2 : Int) := IntWalk.i64_in _ (by omega)
      have hw2 : IntKind.i64.wrap (1 + (m2 : Int) + (mr : Int)) = 1 + (m2 : Int) + (mr : Int) := IntWalk.i64_in _ (by omega)
      have hne : ((1 + m2 + mr : Nat) : Int) = 1 + (m2 : Int) + (mr : Int) := by omega
      rw [hne]
      clear hcr HRow HDo HT6 HC6 et16 e17 hmr hne
      by_cases hc1 : c1 = 0
      · subst hc1
        obtain ⟨g1, g2⟩ := HEqB.out rfl
        have HcB2 := Lib.hid (HcB.out w17 et17)
        rw [g1] at HcB2
        unfold IntCode at HcB2
        simp only at HcB2
        clear HcB HEqB g1
        go_wp2_with fail
        refine Calls.mono HcB2.out ?_
        rintro e w18 hr
        obtain ⟨r, rfl, rfl, e18⟩ := ret_ext hr
        clear hr
        have HE := Lib.hid (et17.trans e18)
        go_wp2_with fail
        go_ret
        exact ⟨_, rfl, by first | rfl | (simp [g2]), HE.out⟩
      · have hb1 : (c1 == 0) = false := by rw [beq_eq_false_iff_ne]; exact hc1
        clear hc1 HcB HEqB
        go_wp2_with fail
        go_ret
        exact ⟨_, rfl, rfl, et17⟩
    · have hb5 : (d5 == 0) = false := by rw [beq_eq_false_iff_ne]; exact hd5
      clear hd5 LI HCz HOk HRow HDo HT6 HC6
      by_cases hc1 : c1 = 0
      · subst hc1
        obtain ⟨g1, g2⟩ := HEqB.out rfl
        have HcB2 := Lib.hid (HcB.out w16 et16)
        rw [g1] at HcB2
        unfold IntCode at HcB2
        simp only at HcB2
        clear HcB HEqB g1
        go_wp2_with fail
        refine Calls.mono HcB2.out ?_
        rintro e w18 hr
        obtain ⟨r, rfl, rfl, e18⟩ := ret_ext hr
        clear hr
        have HE := Lib.hid (et16.trans e18)
        go_wp2_with fail
        go_ret
        exact ⟨_, rfl, by first | rfl | (simp [g2]), HE.out⟩
      · have hb1 : (c1 == 0) = false := by rw [beq_eq_false_iff_ne]; exact hc1
        clear hc1 HcB HEqB
        go_wp2_with fail
        go_ret
        exact ⟨_, rfl, rfl, et16⟩

/-! ### the row -/
theorem own : ownKnob Tryz.prog.godebug = none := by kernel_rfl
theorem laidOut : laidOutB Tryz.prog = true := by kernel_rfl
set_option maxRecDepth 100000 in
theorem lifted (os : Os) (started : os.Started) (H : Type) (enc : TypeId × Value → H) (F : Stop.Interp) :
    ReturnsInHanded {} Tryz.checked os 7 .any ((OpenSpec.ofChange Rows.fnChartLinesSpec).preRow enc Tryz.prog Tryz.f7 Rows.fnChartLinesRow.domain false Rows.fnChartLinesRow.laid)
      (((OpenSpec.ofChange Rows.fnChartLinesSpec).at F).post enc Tryz.prog Tryz.f7 false true false false) := by
  refine returnsInHanded_of_row (C := Tryz.checked) (s := OpenSpec.ofChange Rows.fnChartLinesSpec) own started (by kernel_rfl) Tryz.func7
    (ChangeSpec.witness_shaped (s := Rows.fnChartLinesSpec) (enc := enc) (C := Tryz.checked) (os := os) (X := fun w _ => laidMetH Tryz.prog Rows.fnChartLinesRow.laid w) false (World.laidAll Tryz.prog os Rows.fnChartLinesRow.laid) #[.slice none 0 0] 8 (World.laidAll_os _ _ _)
      (World.shaped_of_ZipB (by kernel_rfl) (by kernel_rfl)) (by kernel_rfl) (by kernel_rfl) (by kernel_rfl)
      (by rw [MakeChecks.laidMetH_plain _ _ _ (by kernel_rfl)]; exact laidMet_laidAll _ (by kernel_rfl) (by kernel_rfl))) ?_
  intro W base args ds gs before hval0 hW hcnd _ _ hL hshape _
  have hval : ∀ (j : Nat) t v, Tryz.f7.params[j]? = some t → args[j]? = some v → Value.okWide Tryz.prog W .any base t v := hval0
  have hW' := hW
  obtain ⟨p, q, hA0, hV, rfl, hfz, hnd⟩ := hW
  have hA : DataW.TrodAll enc Tryz.prog W 0 (fun _ => true) true Tryz.f7.params.toList args.toList ds p := hA0
  rw [Tryz.params7] at hA hval
  obtain ⟨v0, vs0, d0, ds0, p0, q0, hargs, rfl, rfl, h0, r0⟩ := trodAll_cons hA
  obtain ⟨rfl, rfl, rfl⟩ := trodAll_nil r0
  obtain rfl : args = #[v0] := by cases args; simp_all
  obtain ⟨rfl, rfl⟩ := trodVars_none hV
  have k0 := h0
  have lt0 : ∀ x ∈ p0, x.block < W.heap.size := by obtain ⟨m, hm⟩ := k0; exact DataW.trod_lt m _ _ _ hm
  obtain ⟨a0, len0, cap0, rfl⟩ := okWide_slice Tryz.underlying45 (hval 0 45 v0 rfl rfl)
  obtain ⟨x0, w0⟩ : ∃ xs, BytesR (.old W) W (.slice a0 len0 cap0) xs := by obtain ⟨fuel, hf⟩ := h0; exact open_BytesR Tryz.underlying45 Tryz.underlying5 (by kernel_rfl) hf
  clear hA0 hval0
  refine (walk W hshape hL _ x0 w0).mono fun e W' hret => ?_
  obtain ⟨r, rfl, rfl, bel⟩ := hret
  exact ⟨_, rfl, _, _, _, [], _, [], hW', trodAll_mk1 (shut_bool Tryz.underlying4 _), (trodAll_cons_mk (Below.trod laidOut (by kernel_rfl) (of_decide_eq_true (by kernel_rfl)) k0 bel lt0) trodAll_mk0), rfl, bel.frame _, fun h => by cases h⟩

theorem over : Rows.fnChartLinesRow.holds Tryz.pinned (OpenSpec.ofChange Rows.fnChartLinesSpec) :=
  OpenClaim.holds_of_cond 7 Tryz.f7 rfl rfl rfl rfl rfl rfl rfl ⟨rfl, rfl, rfl, rfl, rfl⟩ rfl rfl rfl rfl rfl (by kernel_rfl) Tryz.func7 (by kernel_rfl)
    (of_decide_eq_true (by kernel_rfl)) (by unfold Func.isWrapper; first | (rw [if_pos (by decide +kernel)]; kernel_rfl) | (rw [if_neg (by decide +kernel)]; exact ⟨rfl, rfl⟩))
    (fun os started H enc _ F => by rw [OpenClaim.pre_eq_preRow]; exact lifted os started H enc F)

theorem proved : Rows.FnChartLinesCardSaid :=
  Claim7.holds_tied_plain_at .later [] _ _ _ _ over (fun _ h => by cases h) (by kernel_rfl) (fun _ h => by cases h) fnChartLines_row_tie rfl ⟨rfl, rfl⟩ (by kernel_rfl) rfl
    (fun f fn hf hfn => by
      obtain rfl : f = 7 := Option.some.inj ((show Tryz.prog.funcNamed Rows.fnChartLinesRow.func = some 7 by kernel_rfl).symm.trans hf) |>.symm
      obtain rfl : fn = Tryz.f7 := (Option.some.inj (Tryz.func7.symm.trans hfn)).symm
      exact ⟨by kernel_rfl, fun j t ht => by
        rw [Tryz.params7] at ht
        have hm : t ∈ [45] := by simpa using Array.mem_of_getElem? ht
        have hall : ([45].all fun u => !Tryz.prog.wantsStandIn u) = true := by kernel_rfl
        exact (show Tryz.prog.wantsStandIn t = false by simpa using List.all_eq_true.1 hall t hm)⟩)
    (by kernel_rfl)

end fnChartLines
end Go.Proofs.YtpcgbfogkcbddaaGreatDoor
