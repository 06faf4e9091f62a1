/- Proved: for every code, laws.FnCharts returns true and changes nothing that was there; the listed variables of the library start as the program's text lays them. -/
import Derived.Test.YtkeikjedbfomnaaGreatDoorRows
import Derived.Deep.RegionLaw
import Derived.Deep.RegionHeld3
import Derived.Deep.Cut
import Derived.ChangeMaps5
import Derived.LaidMore
import Derived.LaidSub
import Derived.Lay
import Derived.Lib.LaidTab
import Derived.Stop.LaidErr
import Derived.MakeChecks
import Derived.SevenTiedAt
import Derived.Deep.DeepHandedRow
import Derived.Test.YtkeikjedbfomnaaGreatDoorCards
import Derived.Test.YtkeikjedbfomnaaGreatDoorTie
import Derived.Test.YtkeikjedbfomnaaGreatDoorUPkL
import Derived.Test.YtkeikjedbfomnaaGreatDoorUPkDd
import Derived.Test.YtkeikjedbfomnaaGreatDoorUReadI
import Derived.Test.YtkeikjedbfomnaaGreatDoorUReadS
import Derived.Test.YtkeikjedbfomnaaGreatDoorUPkLk
import Derived.Test.YtkeikjedbfomnaaGreatDoorUPkT2
namespace Go.Proofs.YtkeikjedbfomnaaGreatDoor
open Go.ChangeShapes Go.WideShapes Go.ChangeAt Go.RowKit
set_option linter.unusedVariables false
namespace fnCharts

theorem gTab : Tryz.prog.globalNamed "internal/strconv.uint64pow10" = some 5 := by kernel_rfl
theorem gTabType : (Tryz.prog.globals[5]?).map (·.type) = some 212 := by kernel_rfl
theorem cellsTab : Tryz.prog.cellsOf 212 = 20 := by kernel_rfl
theorem cellsOne : Tryz.prog.cellsOf 173 = 1 := by kernel_rfl
theorem rowTab : Rows.fnChartsRow.laid.filter (fun x => x.1 == "internal/strconv.uint64pow10") = [("internal/strconv.uint64pow10", Lib.tabData .u64 Lib.pow10Tab)] := by kernel_rfl
theorem pow10_of {W : World} (h : laidMetH Tryz.prog Rows.fnChartsRow.laid W) : Pow10 W := by
  have h' := laidMetH.filter (fun x => x.1 == "internal/strconv.uint64pow10") h
  rw [rowTab] at h'
  exact Lib.tabIs_of_head (rest := []) gTab gTabType Tryz.underlying212 Tryz.underlying173 cellsOne cellsTab h'
theorem star : "*" ++ "errors.errorString" = "*errors.errorString" := by decide
theorem rowE (u : TypeId) (h : Tryz.prog.typeName? 3 u = some "*errors.errorString") : u = 216 :=
  typeName_ptr_named (nm := "errors.errorString") (by rw [star]; kernel_rfl) (by kernel_rfl) (by decide) u (by rw [star]; exact h)
theorem cellsE : Tryz.prog.cellsOf 218 = 1 := by kernel_rfl
theorem cellsS : Tryz.prog.cellsOf 9 = 1 := by kernel_rfl

theorem gSyn : Tryz.prog.globalNamed "strconv.ErrSyntax" = some 3 := by kernel_rfl
theorem gSynType : (Tryz.prog.globals[3]?).map (·.type) = some 107 := by kernel_rfl
theorem rowSyn : Rows.fnChartsRow.laid.filter (fun x => x.1 == "strconv.ErrSyntax") = [("strconv.ErrSyntax", .iface "*errors.errorString" (.ptr (.agg [.lit (.string [105, 110, 118, 97, 108, 105, 100, 32, 115, 121, 110, 116, 97, 120])])))] := by kernel_rfl
theorem errSyn_of {W : World} (h : laidMetH Tryz.prog Rows.fnChartsRow.laid W) : ErrVar W "strconv.ErrSyntax" := by
  have h' := laidMetH.filter (fun x => x.1 == "strconv.ErrSyntax") h
  rw [rowSyn, MakeChecks.laidMetH_plain _ _ _ (by kernel_rfl)] at h'
  obtain ⟨a, s, hv, -⟩ := laid_sentinel h' gSyn gSynType Tryz.underlying107 rowE Tryz.underlying216 Tryz.underlying218 rfl rfl Tryz.underlying9 cellsE cellsS
  exact ⟨_, _, hv⟩
theorem gRng : Tryz.prog.globalNamed "strconv.ErrRange" = some 4 := by kernel_rfl
theorem gRngType : (Tryz.prog.globals[4]?).map (·.type) = some 107 := by kernel_rfl
theorem rowRng : Rows.fnChartsRow.laid.filter (fun x => x.1 == "strconv.ErrRange") = [("strconv.ErrRange", .iface "*errors.errorString" (.ptr (.agg [.lit (.string [118, 97, 108, 117, 101, 32, 111, 117, 116, 32, 111, 102, 32, 114, 97, 110, 103, 101])])))] := by kernel_rfl
theorem errRng_of {W : World} (h : laidMetH Tryz.prog Rows.fnChartsRow.laid W) : ErrVar W "strconv.ErrRange" := by
  have h' := laidMetH.filter (fun x => x.1 == "strconv.ErrRange") h
  rw [rowRng, MakeChecks.laidMetH_plain _ _ _ (by kernel_rfl)] at h'
  obtain ⟨a, s, hv, -⟩ := laid_sentinel h' gRng gRngType Tryz.underlying107 rowE Tryz.underlying216 Tryz.underlying218 rfl rfl Tryz.underlying9 cellsE cellsS
  exact ⟨_, _, hv⟩
theorem chartM_zero {mk : MK} {t cuts : List (List Int)} {c : ByteArray} (h : chartM mk t cuts = (c, 0)) : IsCh c mk t cuts ∧ ¬ 240 < c.size := by
  by_cases hd : designCode mk t cuts = 0
  · by_cases hs : 240 < (chartV mk t cuts).size
    · rw [chart_long hd hs] at h; injection h with _ h; cases h
    · rw [chart_ok hd hs] at h
      injection h with h _
      exact ⟨⟨hd, h⟩, by rw [← h]; exact hs⟩
  · rw [chart_bad hd] at h
    injection h with _ h
    exact absurd h hd
theorem readC_zero {c : ByteArray} {mk : MK} {t cuts : List (List Int)} (h : readC c = ((mk, t), (cuts, 0))) : chartM mk t cuts = (c, 0) ∧ isDesign mk t cuts = true := by
  unfold readC at h
  split at h
  · unfold noRes at h; injection h with _ h; injection h with _ h; cases h
  · next hs =>
    split at h
    · next hb =>
      have hc := isChB_is hb
      injection h with h1 h2
      injection h1 with h3 h4
      injection h2 with h5 _
      subst h3; subst h4; subst h5
      refine ⟨?_, ?_⟩
      · rw [chart_ok hc.des (by rw [hc.eq]; exact hs), hc.eq]
      · have := hc.des
        unfold designCode at this
        split at this
        · assumption
        · cases this
    · unfold noRes at h; injection h with _ h; injection h with _ h; cases h

set_option maxRecDepth 20000 in
set_option maxHeartbeats 4000000 in
theorem walk (w : World) (hsh : w.ShapedOpen Tryz.prog) (hL : laidMetH Tryz.prog Rows.fnChartsRow.laid w) (v : Value) (x : List Int) (h : BytesR (.old w) w v x) : Calls Tryz.prog 4 #[v] w (Ret w fun r _ => r = .bool true) := by
  have hT := pow10_of hL
  have hPE : ParseErr w := ⟨errSyn_of hL, errRng_of hL⟩
  have hSC := sepCell_of w hsh
  have hcall := big_c w v _ x h
  have D1 := Lib.hid (fun (w' : World) (e : Ext w w') => DrawChartText_c w' v _ x (stable_bytes.ext h e))
  have D2 := Lib.hid (fun (w' : World) (e : Ext w w') => DrawReadChart_c w' v _ x (stable_bytes.ext h e))
  have CI := Lib.hid (fun (w' : World) (e : Ext w w') (mk : MK) (v : Value) (z : Zone) (t : List (List Int)) (h : RowsR z w' v t) (u : Value) (y : Zone) (cuts : List (List Int)) (hc : RowsR y w' u cuts) => ChartText_c w' (hT.ext e) mk v z t h u y cuts hc)
  have RI := Lib.hid (fun (w' : World) (e : Ext w w') (s : ByteArray) (hs : s.size ≤ 1000) => ReadChart_c w' (hT.ext e) (hPE.ext e) (hSC.ext e) s (by unfold maxLen; omega))
  have RS := Lib.hid (fun (w' : World) (s : ByteArray) (hs : s.size ≤ 1000) => ReadChartSpec_c w' s (by unfold maxLen; omega))
  obtain ⟨av, nv, kv, rfl, -⟩ := BytesR.shape h
  clear h hT hL hsh hPE hSC
  cases hb : decide (4096 < x.length) with
  | true =>
    rw [hb] at hcall
    clear hb D1 D2 CI RI RS
    go_enter Tryz.func4, Tryz.ntmps4
    go_wp2_with fail
    refine Calls.mono hcall ?_
    rintro e w1 hr
    obtain ⟨rfl, hd, e1⟩ := retq_ext hr
    clear hr hcall
    go_wp2_with fail
    go_ret
    exact ⟨_, rfl, rfl, e1⟩
  | false =>
    rw [hb] at hcall
    clear hb
    go_enter Tryz.func4, Tryz.ntmps4
    go_wp2_with fail
    refine Calls.mono hcall ?_
    rintro e w1 hr
    obtain ⟨rfl, hd, e1⟩ := retq_ext hr
    have X1 := Lib.hid e1
    clear hr hcall hd e1
    have hcall := D1.out w1 (by repeat (first | exact Ext.refl _ | exact RowKit.Hid.out (by assumption) | (refine Ext.trans ?_ (Ext.alloc _ _)) | (refine Ext.trans ?_ (RowKit.Hid.out (by assumption)))))
    go_wp2_with fail
    refine Calls.mono hcall ?_
    rintro e w2 hr
    obtain ⟨_, rfl, ⟨mks, vt, ts, vc, cs, rfl, ht, hc⟩, e2⟩ := ret_ext hr
    have X2 := Lib.hid e2
    obtain ⟨tsa, tsn, tsk, rfl, -⟩ := SliceR.shape ht
    obtain ⟨csa, csn, csk, rfl, -⟩ := SliceR.shape hc
    have HTs := Lib.hid (fun (w' : World) (e : Ext w2 w') => stable_rows.ext ht e)
    have HCs := Lib.hid (fun (w' : World) (e : Ext w2 w') => stable_rows.ext hc e)
    clear hr hcall ht hc e2 D1
    unfold sysV
    go_upto_region 4 with fail
    generalize hw3 : World.alloc w2 _ = w3
    obtain ⟨e3, S3⟩ := sys_box hw3
    obtain ⟨bxs, hbs⟩ : ∃ bxs, w2.heap.size = bxs := ⟨_, rfl⟩
    rw [hbs] at S3
    simp only [hbs]
    have HSs := Lib.hid (fun (w' : World) (e : Ext w3 w') => S3.ext e)
    have X3 := Lib.hid e3
    clear hw3 hbs S3 e3
    obtain ⟨⟨tx, bad⟩, hch⟩ : ∃ q, chartM mks ts cs = q := ⟨_, rfl⟩
    have HZ : Hid (bad = 0 → IsCh tx mks ts cs ∧ ¬ 240 < tx.size) := fun h0 => chartM_zero (by rw [hch, h0])
    have hcall := CI.out w3 (by repeat (first | exact Ext.refl _ | exact RowKit.Hid.out (by assumption) | (refine Ext.trans ?_ (Ext.alloc _ _)) | (refine Ext.trans ?_ (RowKit.Hid.out (by assumption))))) mks _ _ ts (HTs.out w3 (by repeat (first | exact Ext.refl _ | exact RowKit.Hid.out (by assumption) | (refine Ext.trans ?_ (Ext.alloc _ _)) | (refine Ext.trans ?_ (RowKit.Hid.out (by assumption)))))) _ _ cs (HCs.out w3 (by repeat (first | exact Ext.refl _ | exact RowKit.Hid.out (by assumption) | (refine Ext.trans ?_ (Ext.alloc _ _)) | (refine Ext.trans ?_ (RowKit.Hid.out (by assumption))))))
    rw [hch] at hcall
    unfold StrCode sysV at hcall
    simp only at hcall
    obtain ⟨c0, c1, c2, c3, c4, c5⟩ := HSs.out w3 (by repeat (first | exact Ext.refl _ | exact RowKit.Hid.out (by assumption) | (refine Ext.trans ?_ (Ext.alloc _ _)) | (refine Ext.trans ?_ (RowKit.Hid.out (by assumption)))))
    go_wp2_with fail
    refine Calls.mono hcall ?_
    rintro e w4 hr
    obtain ⟨_, rfl, rfl, e4⟩ := ret_ext hr
    have X4 := Lib.hid e4
    clear hr hcall e4 c0 c1 c2 c3 c4 c5
    have hcall := ChartTextSpec_c w4 mks _ _ ts (HTs.out w4 (by repeat (first | exact Ext.refl _ | exact RowKit.Hid.out (by assumption) | (refine Ext.trans ?_ (Ext.alloc _ _)) | (refine Ext.trans ?_ (RowKit.Hid.out (by assumption)))))) _ _ cs (HCs.out w4 (by repeat (first | exact Ext.refl _ | exact RowKit.Hid.out (by assumption) | (refine Ext.trans ?_ (Ext.alloc _ _)) | (refine Ext.trans ?_ (RowKit.Hid.out (by assumption))))))
    rw [hch] at hcall
    unfold StrCode sysV at hcall
    simp only at hcall
    obtain ⟨c0, c1, c2, c3, c4, c5⟩ := HSs.out w4 (by repeat (first | exact Ext.refl _ | exact RowKit.Hid.out (by assumption) | (refine Ext.trans ?_ (Ext.alloc _ _)) | (refine Ext.trans ?_ (RowKit.Hid.out (by assumption)))))
    go_wp2_with fail
    refine Calls.mono hcall ?_
    rintro e w5 hr
    obtain ⟨_, rfl, rfl, e5⟩ := ret_ext hr
    have X5 := Lib.hid e5
    clear hr hcall e5 c0 c1 c2 c3 c4 c5
    clear hch
    have hcall := D2.out w5 (by repeat (first | exact Ext.refl _ | exact RowKit.Hid.out (by assumption) | (refine Ext.trans ?_ (Ext.alloc _ _)) | (refine Ext.trans ?_ (RowKit.Hid.out (by assumption)))))
    go_wp2_with fail
    refine Calls.mono hcall ?_
    rintro e w6 hr
    obtain ⟨_, rfl, ⟨cc, rfl, hcc⟩, e6⟩ := ret_ext hr
    have X6 := Lib.hid e6
    clear hr hcall e6 D2
    have Hcc := Lib.hid hcc
    obtain ⟨⟨⟨mkx, tx2⟩, ⟨cx, one⟩⟩, hrd⟩ : ∃ q, readC cc = q := ⟨_, rfl⟩
    have HR : Hid (one = 0 → chartM mkx tx2 cx = (cc, 0) ∧ isDesign mkx tx2 cx = true) := fun h0 => readC_zero (by rw [hrd, h0])
    clear hcc
    have hcall := RI.out w6 (by repeat (first | exact Ext.refl _ | exact RowKit.Hid.out (by assumption) | (refine Ext.trans ?_ (Ext.alloc _ _)) | (refine Ext.trans ?_ (RowKit.Hid.out (by assumption))))) cc (by have := Hcc.out; omega)
    rw [hrd] at hcall
    go_wp2_with fail
    refine Calls.mono hcall ?_
    rintro e w7 hr
    obtain ⟨_, rfl, ⟨u0, u1, B0, B1, rfl, htw⟩, e7⟩ := ret_ext hr
    have X7 := Lib.hid e7
    simp only at htw
    have hi0 := htw.rows0
    have hi1 := htw.rows1
    obtain ⟨txa, txn, txk, rfl, -⟩ := SliceR.shape hi0
    obtain ⟨cxa, cxn, cxk, rfl, -⟩ := SliceR.shape hi1
    have HTx := Lib.hid (fun (w' : World) (e : Ext w7 w') => stable_rows.ext hi0 e)
    have HCx := Lib.hid (fun (w' : World) (e : Ext w7 w') => stable_rows.ext hi1 e)
    clear hr hcall htw hi0 hi1 e7
    unfold sysV
    go_upto_region 8 with fail
    generalize hw8 : World.alloc w7 _ = w8
    obtain ⟨e8, S8⟩ := sys_box hw8
    obtain ⟨bxx, hbx⟩ : ∃ bxx, w7.heap.size = bxx := ⟨_, rfl⟩
    rw [hbx] at S8
    simp only [hbx]
    have HSx := Lib.hid (fun (w' : World) (e : Ext w8 w') => S8.ext e)
    have X8 := Lib.hid e8
    clear hw8 hbx S8 e8
    have hcall := RS.out w8 cc (by have := Hcc.out; omega)
    rw [hrd] at hcall
    go_wp2_with fail
    refine Calls.mono hcall ?_
    rintro e w9 hr
    obtain ⟨_, rfl, ⟨u0, u1, B0, B1, rfl, htw⟩, e9⟩ := ret_ext hr
    have X9 := Lib.hid e9
    simp only at htw
    have hi0 := htw.rows0
    have hi1 := htw.rows1
    obtain ⟨tya, tyn, tyk, rfl, -⟩ := SliceR.shape hi0
    obtain ⟨cya, cyn, cyk, rfl, -⟩ := SliceR.shape hi1
    have HTy := Lib.hid (fun (w' : World) (e : Ext w9 w') => stable_rows.ext hi0 e)
    have HCy := Lib.hid (fun (w' : World) (e : Ext w9 w') => stable_rows.ext hi1 e)
    clear hr hcall htw hi0 hi1 e9
    unfold sysV
    go_upto_region 9 with fail
    generalize hw10 : World.alloc w9 _ = w10
    obtain ⟨e10, S10⟩ := sys_box hw10
    obtain ⟨bxy, hby⟩ : ∃ bxy, w9.heap.size = bxy := ⟨_, rfl⟩
    rw [hby] at S10
    simp only [hby]
    have HSy := Lib.hid (fun (w' : World) (e : Ext w10 w') => S10.ext e)
    have X10 := Lib.hid e10
    clear hw10 hby S10 e10
    clear hrd
    have hcall := likeSystems_c w10 mkx _ _ _ _ tx2 (HTx.out w10 (by repeat (first | exact Ext.refl _ | exact RowKit.Hid.out (by assumption) | (refine Ext.trans ?_ (Ext.alloc _ _)) | (refine Ext.trans ?_ (RowKit.Hid.out (by assumption)))))) (HTy.out w10 (by repeat (first | exact Ext.refl _ | exact RowKit.Hid.out (by assumption) | (refine Ext.trans ?_ (Ext.alloc _ _)) | (refine Ext.trans ?_ (RowKit.Hid.out (by assumption))))))
    unfold sysV at hcall
    obtain ⟨c0, c1, c2, c3, c4, c5⟩ := HSx.out w10 (by repeat (first | exact Ext.refl _ | exact RowKit.Hid.out (by assumption) | (refine Ext.trans ?_ (Ext.alloc _ _)) | (refine Ext.trans ?_ (RowKit.Hid.out (by assumption)))))
    obtain ⟨d0, d1, d2, d3, d4, d5⟩ := HSy.out w10 (by repeat (first | exact Ext.refl _ | exact RowKit.Hid.out (by assumption) | (refine Ext.trans ?_ (Ext.alloc _ _)) | (refine Ext.trans ?_ (RowKit.Hid.out (by assumption)))))
    go_wp2_with fail
    refine Calls.mono hcall ?_
    rintro e w11 hr
    obtain ⟨_, rfl, rfl, e11⟩ := ret_ext hr
    have X11 := Lib.hid e11
    clear hr hcall e11 c0 c1 c2 c3 c4 c5 d0 d1 d2 d3 d4 d5
    have hcall := likeLists_c w11 _ _ _ _ cx cx (HCx.out w11 (by repeat (first | exact Ext.refl _ | exact RowKit.Hid.out (by assumption) | (refine Ext.trans ?_ (Ext.alloc _ _)) | (refine Ext.trans ?_ (RowKit.Hid.out (by assumption)))))) (HCy.out w11 (by repeat (first | exact Ext.refl _ | exact RowKit.Hid.out (by assumption) | (refine Ext.trans ?_ (Ext.alloc _ _)) | (refine Ext.trans ?_ (RowKit.Hid.out (by assumption))))))
    rw [show decide (cx = cx) = true by simp] at hcall
    go_wp2_with fail
    refine Calls.mono hcall ?_
    rintro e w12 hr
    obtain ⟨rfl, -, e12⟩ := retq_ext hr
    have X12 := Lib.hid e12
    clear hr hcall e12
    go_upto_if 80 with fail
    go_cut [6] (fun s6 wx => s6 = .int .i64 bad ∧ Ext w12 wx)
    case first =>
      by_cases h1 : one = 0
      · subst h1
        obtain ⟨hm, hdes⟩ := HR.out rfl
        have hcall := CI.out w12 (by repeat (first | exact Ext.refl _ | exact RowKit.Hid.out (by assumption) | (refine Ext.trans ?_ (Ext.alloc _ _)) | (refine Ext.trans ?_ (RowKit.Hid.out (by assumption))))) mkx _ _ tx2 (HTx.out w12 (by repeat (first | exact Ext.refl _ | exact RowKit.Hid.out (by assumption) | (refine Ext.trans ?_ (Ext.alloc _ _)) | (refine Ext.trans ?_ (RowKit.Hid.out (by assumption)))))) _ _ cx (HCx.out w12 (by repeat (first | exact Ext.refl _ | exact RowKit.Hid.out (by assumption) | (refine Ext.trans ?_ (Ext.alloc _ _)) | (refine Ext.trans ?_ (RowKit.Hid.out (by assumption))))))
        rw [hm] at hcall
        unfold StrCode sysV at hcall
        simp only at hcall
        obtain ⟨c0, c1, c2, c3, c4, c5⟩ := HSx.out w12 (by repeat (first | exact Ext.refl _ | exact RowKit.Hid.out (by assumption) | (refine Ext.trans ?_ (Ext.alloc _ _)) | (refine Ext.trans ?_ (RowKit.Hid.out (by assumption)))))
        have Hdes := Lib.hid hdes
        clear hm hdes
        go_wp2_with fail
        refine Calls.mono hcall ?_
        rintro e w13 hr
        obtain ⟨_, rfl, rfl, e13⟩ := ret_ext hr
        have X13 := Lib.hid e13
        clear hr hcall e13 c0 c1 c2 c3 c4 c5
        have hcall := IsDesign_c w13 mkx _ _ _ (HTx.out w13 (by repeat (first | exact Ext.refl _ | exact RowKit.Hid.out (by assumption) | (refine Ext.trans ?_ (Ext.alloc _ _)) | (refine Ext.trans ?_ (RowKit.Hid.out (by assumption)))))) _ _ _ (HCx.out w13 (by repeat (first | exact Ext.refl _ | exact RowKit.Hid.out (by assumption) | (refine Ext.trans ?_ (Ext.alloc _ _)) | (refine Ext.trans ?_ (RowKit.Hid.out (by assumption))))))
        rw [Hdes.out] at hcall
        unfold sysV at hcall
        obtain ⟨c0, c1, c2, c3, c4, c5⟩ := HSx.out w13 (by repeat (first | exact Ext.refl _ | exact RowKit.Hid.out (by assumption) | (refine Ext.trans ?_ (Ext.alloc _ _)) | (refine Ext.trans ?_ (RowKit.Hid.out (by assumption)))))
        go_wp2_with fail
        refine Calls.mono hcall ?_
        rintro e w14 hr
        obtain ⟨_, rfl, rfl, e14⟩ := ret_ext hr
        have X14 := Lib.hid e14
        clear hr hcall e14 c0 c1 c2 c3 c4 c5
        go_wp2_with fail
        go_meet
        exact ⟨rfl, (by repeat (first | exact Ext.refl _ | exact RowKit.Hid.out (by assumption) | (refine Ext.trans ?_ (Ext.alloc _ _)) | (refine Ext.trans ?_ (RowKit.Hid.out (by assumption)))))⟩
      · have h1b : (one == 0) = false := by rw [beq_eq_false_iff_ne]; exact h1
        go_wp2_with fail
        go_meet
        exact ⟨rfl, Ext.refl _⟩
    case rest =>
      obtain ⟨rfl, ec⟩ := hcut
      have Xc := Lib.hid ec
      clear ec
      by_cases h2 : bad = 0
      · subst h2
        obtain ⟨hch, hsz⟩ := HZ.out rfl
        have hrd := readC_is hsz hch
        have hcall := RI.out wc (by repeat (first | exact Ext.refl _ | exact RowKit.Hid.out (by assumption) | (refine Ext.trans ?_ (Ext.alloc _ _)) | (refine Ext.trans ?_ (RowKit.Hid.out (by assumption))))) tx (by omega)
        rw [hrd] at hcall
        clear hch hsz hrd
        go_wp2_with fail
        refine Calls.mono hcall ?_
        rintro e w15 hr
        obtain ⟨_, rfl, ⟨u0, u1, B0, B1, rfl, htw⟩, e15⟩ := ret_ext hr
        have X15 := Lib.hid e15
        simp only at htw
        have hi0 := htw.rows0
        have hi1 := htw.rows1
        obtain ⟨tua, tun, tuk, rfl, -⟩ := SliceR.shape hi0
        obtain ⟨cua, cun, cuk, rfl, -⟩ := SliceR.shape hi1
        have HTu := Lib.hid (fun (w' : World) (e : Ext w15 w') => stable_rows.ext hi0 e)
        have HCu := Lib.hid (fun (w' : World) (e : Ext w15 w') => stable_rows.ext hi1 e)
        clear hr hcall htw hi0 hi1 e15
        unfold sysV
        go_upto_region 18 with fail
        generalize hw16 : World.alloc w15 _ = w16
        obtain ⟨e16, S16⟩ := sys_box hw16
        obtain ⟨bxu, hbu⟩ : ∃ bxu, w15.heap.size = bxu := ⟨_, rfl⟩
        rw [hbu] at S16
        simp only [hbu]
        have HSu := Lib.hid (fun (w' : World) (e : Ext w16 w') => S16.ext e)
        have X16 := Lib.hid e16
        clear hw16 hbu S16 e16
        have hcall := likeSystems_c w16 mks _ _ _ _ ts (HTu.out w16 (by repeat (first | exact Ext.refl _ | exact RowKit.Hid.out (by assumption) | (refine Ext.trans ?_ (Ext.alloc _ _)) | (refine Ext.trans ?_ (RowKit.Hid.out (by assumption)))))) (HTs.out w16 (by repeat (first | exact Ext.refl _ | exact RowKit.Hid.out (by assumption) | (refine Ext.trans ?_ (Ext.alloc _ _)) | (refine Ext.trans ?_ (RowKit.Hid.out (by assumption))))))
        unfold sysV at hcall
        obtain ⟨c0, c1, c2, c3, c4, c5⟩ := HSu.out w16 (by repeat (first | exact Ext.refl _ | exact RowKit.Hid.out (by assumption) | (refine Ext.trans ?_ (Ext.alloc _ _)) | (refine Ext.trans ?_ (RowKit.Hid.out (by assumption)))))
        obtain ⟨d0, d1, d2, d3, d4, d5⟩ := HSs.out w16 (by repeat (first | exact Ext.refl _ | exact RowKit.Hid.out (by assumption) | (refine Ext.trans ?_ (Ext.alloc _ _)) | (refine Ext.trans ?_ (RowKit.Hid.out (by assumption)))))
        go_wp2_with fail
        refine Calls.mono hcall ?_
        rintro e w17 hr
        obtain ⟨_, rfl, rfl, e17⟩ := ret_ext hr
        have X17 := Lib.hid e17
        clear hr hcall e17 c0 c1 c2 c3 c4 c5 d0 d1 d2 d3 d4 d5
        have hcall := likeLists_c w17 _ _ _ _ cs cs (HCu.out w17 (by repeat (first | exact Ext.refl _ | exact RowKit.Hid.out (by assumption) | (refine Ext.trans ?_ (Ext.alloc _ _)) | (refine Ext.trans ?_ (RowKit.Hid.out (by assumption)))))) (HCs.out w17 (by repeat (first | exact Ext.refl _ | exact RowKit.Hid.out (by assumption) | (refine Ext.trans ?_ (Ext.alloc _ _)) | (refine Ext.trans ?_ (RowKit.Hid.out (by assumption))))))
        rw [show decide (cs = cs) = true by simp] at hcall
        go_wp2_with fail
        refine Calls.mono hcall ?_
        rintro e w18 hr
        obtain ⟨rfl, -, e18⟩ := retq_ext hr
        have X18 := Lib.hid e18
        clear hr hcall e18
        go_wp2_with fail
        go_ret
        exact ⟨_, rfl, rfl, (by repeat (first | exact Ext.refl _ | exact RowKit.Hid.out (by assumption) | (refine Ext.trans ?_ (Ext.alloc _ _)) | (refine Ext.trans ?_ (RowKit.Hid.out (by assumption)))))⟩
      · have h2b : (bad != 0) = true := by rw [bne_iff_ne]; exact h2
        go_wp2_with fail
        go_ret
        exact ⟨_, rfl, rfl, (by repeat (first | exact Ext.refl _ | exact RowKit.Hid.out (by assumption) | (refine Ext.trans ?_ (Ext.alloc _ _)) | (refine Ext.trans ?_ (RowKit.Hid.out (by assumption)))))⟩


/-! ### the row -/
theorem own : ownKnob Tryz.prog.godebug = none := by kernel_rfl
theorem laidOut : laidOutB Tryz.prog = true := by kernel_rfl
set_option maxRecDepth 100000 in
theorem lifted (os : Os) (started : os.Started) (H : Type) (enc : TypeId × Value → H) (F : Stop.Interp) :
    ReturnsInHanded {} Tryz.checked os 4 .any ((OpenSpec.ofChange Rows.fnChartsSpec).preRow enc Tryz.prog Tryz.f4 Rows.fnChartsRow.domain false Rows.fnChartsRow.laid)
      (((OpenSpec.ofChange Rows.fnChartsSpec).at F).post enc Tryz.prog Tryz.f4 false true false false) := by
  refine returnsInHanded_of_row (C := Tryz.checked) (s := OpenSpec.ofChange Rows.fnChartsSpec) own started (by kernel_rfl) Tryz.func4
    (ChangeSpec.witness_shaped (s := Rows.fnChartsSpec) (enc := enc) (C := Tryz.checked) (os := os) (X := fun w _ => laidMetH Tryz.prog Rows.fnChartsRow.laid w) false (World.laidAll Tryz.prog os Rows.fnChartsRow.laid) #[.slice none 0 0] 8 (World.laidAll_os _ _ _)
      (World.shaped_of_ZipB (by kernel_rfl) (by kernel_rfl)) (by kernel_rfl) (by kernel_rfl) (by kernel_rfl)
      (by rw [MakeChecks.laidMetH_plain _ _ _ (by kernel_rfl)]; exact laidMet_laidAll _ (by kernel_rfl) (by kernel_rfl))) ?_
  intro W base args ds gs before hval0 hW hcnd _ _ hL hshape _
  have hval : ∀ (j : Nat) t v, Tryz.f4.params[j]? = some t → args[j]? = some v → Value.okWide Tryz.prog W .any base t v := hval0
  have hW' := hW
  obtain ⟨p, q, hA0, hV, rfl, hfz, hnd⟩ := hW
  have hA : DataW.TrodAll enc Tryz.prog W 0 (fun _ => true) true Tryz.f4.params.toList args.toList ds p := hA0
  rw [Tryz.params4] at hA hval
  obtain ⟨v0, vs0, d0, ds0, p0, q0, hargs, rfl, rfl, h0, r0⟩ := trodAll_cons hA
  obtain ⟨rfl, rfl, rfl⟩ := trodAll_nil r0
  obtain rfl : args = #[v0] := by cases args; simp_all
  obtain ⟨rfl, rfl⟩ := trodVars_none hV
  have k0 := h0
  have lt0 : ∀ x ∈ p0, x.block < W.heap.size := by obtain ⟨m, hm⟩ := k0; exact DataW.trod_lt m _ _ _ hm
  obtain ⟨a0, len0, cap0, rfl⟩ := okWide_slice Tryz.underlying34 (hval 0 34 v0 rfl rfl)
  obtain ⟨x0, w0⟩ : ∃ xs, BytesR (.old W) W (.slice a0 len0 cap0) xs := by obtain ⟨fuel, hf⟩ := h0; exact open_BytesR Tryz.underlying34 Tryz.underlying5 (by kernel_rfl) hf
  clear hA0 hval0
  refine (walk W hshape hL _ x0 w0).mono fun e W' hret => ?_
  obtain ⟨r, rfl, rfl, bel⟩ := hret
  exact ⟨_, rfl, _, _, _, [], _, [], hW', trodAll_mk1 (shut_bool Tryz.underlying4 _), (trodAll_cons_mk (Below.trod laidOut (by kernel_rfl) (of_decide_eq_true (by kernel_rfl)) k0 bel lt0) trodAll_mk0), rfl, bel.frame _, fun h => by cases h⟩

theorem over : Rows.fnChartsRow.holds Tryz.pinned (OpenSpec.ofChange Rows.fnChartsSpec) :=
  OpenClaim.holds_of_cond 4 Tryz.f4 rfl rfl rfl rfl rfl rfl rfl ⟨rfl, rfl, rfl, rfl, rfl⟩ rfl rfl rfl rfl rfl (by kernel_rfl) Tryz.func4 (by kernel_rfl)
    (of_decide_eq_true (by kernel_rfl)) (by unfold Func.isWrapper; first | (rw [if_pos (by decide +kernel)]; kernel_rfl) | (rw [if_neg (by decide +kernel)]; exact ⟨rfl, rfl⟩))
    (fun os started H enc _ F => by rw [OpenClaim.pre_eq_preRow]; exact lifted os started H enc F)

theorem proved : Rows.FnChartsCardSaid :=
  Claim7.holds_tied_plain_at .later [] _ _ _ _ over (fun _ h => by cases h) (by kernel_rfl) (fun _ h => by cases h) fnCharts_row_tie rfl ⟨rfl, rfl⟩ (by kernel_rfl) rfl
    (fun f fn hf hfn => by
      obtain rfl : f = 4 := Option.some.inj ((show Tryz.prog.funcNamed Rows.fnChartsRow.func = some 4 by kernel_rfl).symm.trans hf) |>.symm
      obtain rfl : fn = Tryz.f4 := (Option.some.inj (Tryz.func4.symm.trans hfn)).symm
      exact ⟨by kernel_rfl, fun j t ht => by
        rw [Tryz.params4] at ht
        have hm : t ∈ [34] := by simpa using Array.mem_of_getElem? ht
        have hall : ([34].all fun u => !Tryz.prog.wantsStandIn u) = true := by kernel_rfl
        exact (show Tryz.prog.wantsStandIn t = false by simpa using List.all_eq_true.1 hall t hm)⟩)
    (by kernel_rfl)

end fnCharts
end Go.Proofs.YtkeikjedbfomnaaGreatDoor
