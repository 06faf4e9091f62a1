/- Proved: for every code, laws.FnRetired returns true and changes nothing that was there; no condition. -/
import Derived.Test.YthgmojggpjnckaaGreatRows
import Derived.Deep.RegionLaw
import Derived.Deep.RegionHeld3
import Derived.Test.YthgmojggpjnckaaGreatUPkL
import Derived.Test.YthgmojggpjnckaaGreatUDrawRetK
import Derived.Test.YthgmojggpjnckaaGreatUDrawDrop
import Derived.Test.YthgmojggpjnckaaGreatUDrawAdd
import Derived.Test.YthgmojggpjnckaaGreatURetFacts
import Derived.Test.YthgmojggpjnckaaGreatURetireImpl
import Derived.Test.YthgmojggpjnckaaGreatURetireSpec
import Derived.Test.YthgmojggpjnckaaGreatUAddImpl
import Derived.Test.YthgmojggpjnckaaGreatUAddSpec
import Derived.Test.YthgmojggpjnckaaGreatUDropImpl
import Derived.Test.YthgmojggpjnckaaGreatUDropSpec
import Derived.Test.YthgmojggpjnckaaGreatULikeSys
import Derived.Test.YthgmojggpjnckaaGreatULikeLists
import Derived.Test.YthgmojggpjnckaaGreatUBig
namespace Go.Proofs.YthgmojggpjnckaaGreat
open Go.ChangeShapes Go.WideShapes Go.ChangeAt Go.RowKit
set_option linter.unusedVariables false
namespace fnRetired

theorem res_put6 {w : World} {b : Nat} (h : ResAt w b) (mk : MK) (u : Value) : SysAt ((((((w.setCell ⟨b, 0, none⟩ (.int .i64 mk.c)).setCell ⟨b, 1, none⟩ (.int .i64 mk.d)).setCell ⟨b, 2, none⟩ (.int .i64 mk.s)).setCell ⟨b, 3, none⟩ (.int .i64 mk.m)).setCell ⟨b, 4, none⟩ (.int .i64 mk.l)).setCell ⟨b, 5, none⟩ u) b mk u := by
  obtain ⟨c0, c1, c2, c3, c4, c5, -⟩ := h
  refine ⟨?_, ?_, ?_, ?_, ?_, ?_⟩
  all_goals go_simp
theorem rows_put6x {z : Zone} {b : Nat} {w' : World} {v : Value} {t : List (List Int)} (h : RowsR z w' v t) (hb : ¬ z.Has b) (u0 u1 u2 u3 u4 u5 : Value) : RowsR z ((((((w'.setCell ⟨b, 0, none⟩ u0).setCell ⟨b, 1, none⟩ u1).setCell ⟨b, 2, none⟩ u2).setCell ⟨b, 3, none⟩ u3).setCell ⟨b, 4, none⟩ u4).setCell ⟨b, 5, none⟩ u5) v t :=
  stable_rows.keep h (fun k hk _ => put6_other (fun e => hb (by rw [← e]; exact hk)) _ _ _ _ _ _)

set_option maxRecDepth 20000 in
set_option maxHeartbeats 8000000 in
theorem walk (w : World) (v : Value) (x : List Int) (h : BytesR (.old w) w v x) : Calls Tryz.prog 4 #[v] w (Ret w fun r _ => r = .bool true) := by
  have hcall := big_c w v _ x h
  have H := Lib.hid (fun (w' : World) (e : Ext w w') => stable_bytes.ext h e)
  clear h
  cases hb : decide (4096 < x.length) with
  | true =>
    rw [hb] at hcall
    clear hb
    go_enter Tryz.func4, Tryz.ntmps4
    go_wp2_with fail
    refine Calls.mono hcall ?_
    rintro e w1 hr
    obtain ⟨rfl, hd, e1⟩ := retq_ext hr
    clear hr hcall
    go_wp2_with fail
    go_ret
    exact ⟨_, rfl, rfl, e1⟩
  | false =>
    rw [hb] at hcall
    clear hb
    go_enter Tryz.func4, Tryz.ntmps4
    go_wp2_with fail
    refine Calls.mono hcall ?_
    rintro e w1 hr
    obtain ⟨rfl, hd, e1⟩ := retq_ext hr
    have X1 := Lib.hid e1
    clear hr hcall hd e1
    have hcall := DrawRetireKey_c w1 v _ x (H.out _ (by repeat (first | exact Ext.refl _ | exact RowKit.Hid.out (by assumption) | (refine Ext.trans ?_ (Ext.alloc _ _)) | (refine Ext.trans ?_ (RowKit.Hid.out (by assumption))))))
    go_wp2_with fail
    refine Calls.mono hcall ?_
    rintro e w2 hr
    obtain ⟨_, rfl, ⟨mks, vt, ts, vc, cutss, keys, rfl, hkys, ht, hc⟩, e2⟩ := ret_ext hr
    have X2 := Lib.hid e2
    clear hr hcall
    obtain ⟨tsa, tsn, tsk, rfl, hns, -⟩ := SliceR.shape ht
    obtain ⟨csa, csn, csk, rfl, hms, hxs, -⟩ := SliceR.shape hc
    have Hxs := Lib.hid hxs
    have Hns := Lib.hid hns
    have Hms := Lib.hid hms
    clear hns hms hxs
    have HTs := Lib.hid (fun (w' : World) (e : Ext w2 w') => stable_rows.ext ht e)
    have HCs := Lib.hid (fun (w' : World) (e : Ext w2 w') => stable_rows.ext hc e)
    have HKs := Lib.hid hkys
    clear ht hc hkys e2
    unfold sysV
    go_upto_region 4 with fail
    generalize hw3 : World.alloc w2 _ = w3
    obtain ⟨e3, S3⟩ := sys_box hw3
    obtain ⟨bxs, hbs⟩ : ∃ bxs, w2.heap.size = bxs := ⟨_, rfl⟩
    rw [hbs] at S3
    simp only [hbs]
    have HSs := Lib.hid (fun (w' : World) (e : Ext w3 w') => S3.ext e)
    have X3 := Lib.hid e3
    clear hw3 hbs S3
    obtain ⟨⟨⟨mkx, tx⟩, ⟨cx, bad⟩⟩, hexx⟩ : ∃ q, retireKey mks ts cutss keys = q := ⟨_, rfl⟩
    have HFx : Hid (bad = 0 → isDesign mkx tx cx = true ∧ (cx.length : Int) = (cutss.length : Int) - 1) := fun h0 => retire_facts (by rw [hexx, h0])
    have hcall := RetireKey_c w3 mks _ _ ts (HTs.out _ (by repeat (first | exact Ext.refl _ | exact RowKit.Hid.out (by assumption) | (refine Ext.trans ?_ (Ext.alloc _ _)) | (refine Ext.trans ?_ (RowKit.Hid.out (by assumption)))))) _ _ cutss (HCs.out _ (by repeat (first | exact Ext.refl _ | exact RowKit.Hid.out (by assumption) | (refine Ext.trans ?_ (Ext.alloc _ _)) | (refine Ext.trans ?_ (RowKit.Hid.out (by assumption)))))) keys HKs.out
    rw [hexx] at hcall
    unfold sysV at hcall
    obtain ⟨c0, c1, c2, c3, c4, c5⟩ := HSs.out w3 (by repeat (first | exact Ext.refl _ | exact RowKit.Hid.out (by assumption) | (refine Ext.trans ?_ (Ext.alloc _ _)) | (refine Ext.trans ?_ (RowKit.Hid.out (by assumption)))))
    go_wp2_with fail
    refine Calls.mono hcall ?_
    rintro e w4 hr
    obtain ⟨_, rfl, ⟨u0, u1, m1, rfl, -, i0, i1⟩, e4⟩ := ret_ext hr
    have X4 := Lib.hid e4
    clear hr hcall c0 c1 c2 c3 c4 c5
    simp only at i0 i1
    obtain ⟨txa, txn, txk, rfl, -⟩ := SliceR.shape i0
    have HTx := Lib.hid (fun (w' : World) (e : Ext w4 w') => stable_rows.ext i0 e)
    obtain ⟨cxa, cxn, cxk, rfl, hmx, -⟩ := SliceR.shape i1
    have Hmx := Lib.hid hmx
    have HCx := Lib.hid (fun (w' : World) (e : Ext w4 w') => stable_rows.ext i1 e)
    clear i1 hmx
    clear i0 e4
    unfold sysV
    go_upto_region 5 with fail
    generalize hw5 : World.alloc w4 _ = w5
    obtain ⟨e5, S5⟩ := sys_box hw5
    obtain ⟨bxx, hbx⟩ : ∃ bxx, w4.heap.size = bxx := ⟨_, rfl⟩
    rw [hbx] at S5
    simp only [hbx]
    have HSx := Lib.hid (fun (w' : World) (e : Ext w5 w') => S5.ext e)
    have X5 := Lib.hid e5
    clear hw5 hbx S5
    have hcall := RetireKeySpec_c w5 mks _ _ ts (HTs.out _ (by repeat (first | exact Ext.refl _ | exact RowKit.Hid.out (by assumption) | (refine Ext.trans ?_ (Ext.alloc _ _)) | (refine Ext.trans ?_ (RowKit.Hid.out (by assumption)))))) _ _ cutss (HCs.out _ (by repeat (first | exact Ext.refl _ | exact RowKit.Hid.out (by assumption) | (refine Ext.trans ?_ (Ext.alloc _ _)) | (refine Ext.trans ?_ (RowKit.Hid.out (by assumption)))))) keys HKs.out
    rw [hexx] at hcall
    unfold sysV at hcall
    obtain ⟨c0, c1, c2, c3, c4, c5⟩ := HSs.out w5 (by repeat (first | exact Ext.refl _ | exact RowKit.Hid.out (by assumption) | (refine Ext.trans ?_ (Ext.alloc _ _)) | (refine Ext.trans ?_ (RowKit.Hid.out (by assumption)))))
    go_wp2_with fail
    refine Calls.mono hcall ?_
    rintro e w6 hr
    obtain ⟨_, rfl, ⟨u0, u1, m1, rfl, -, i0, i1⟩, e6⟩ := ret_ext hr
    have X6 := Lib.hid e6
    clear hr hcall c0 c1 c2 c3 c4 c5
    simp only at i0 i1
    obtain ⟨tya, tyn, tyk, rfl, -⟩ := SliceR.shape i0
    have HTy := Lib.hid (fun (w' : World) (e : Ext w6 w') => stable_rows.ext i0 e)
    obtain ⟨cya, cyn, cyk, rfl, hmy, -⟩ := SliceR.shape i1
    have Hmy := Lib.hid hmy
    have HCy := Lib.hid (fun (w' : World) (e : Ext w6 w') => stable_rows.ext i1 e)
    clear i1 hmy
    clear i0 e6
    unfold sysV
    go_upto_region 6 with fail
    generalize hw7 : World.alloc w6 _ = w7
    obtain ⟨e7, S7⟩ := sys_box hw7
    obtain ⟨bxy, hby⟩ : ∃ bxy, w6.heap.size = bxy := ⟨_, rfl⟩
    rw [hby] at S7
    simp only [hby]
    have HSy := Lib.hid (fun (w' : World) (e : Ext w7 w') => S7.ext e)
    have X7 := Lib.hid e7
    clear hw7 hby S7
    clear hexx
    have hcall := DrawAddDoor_c w7 v _ x (H.out _ (by repeat (first | exact Ext.refl _ | exact RowKit.Hid.out (by assumption) | (refine Ext.trans ?_ (Ext.alloc _ _)) | (refine Ext.trans ?_ (RowKit.Hid.out (by assumption))))))
    go_wp2_with fail
    refine Calls.mono hcall ?_
    rintro e w8 hr
    obtain ⟨_, rfl, ⟨mka, vt, ta, vc, cutsa, vp, cola, rfl, ht, hc, hp⟩, e8⟩ := ret_ext hr
    obtain ⟨paa, pan, pak, rfl, -⟩ := SliceR.shape hp
    have X8 := Lib.hid e8
    clear hr hcall
    obtain ⟨taa, tan, tak, rfl, hna, -⟩ := SliceR.shape ht
    obtain ⟨caa, can, cak, rfl, hma, hxa, -⟩ := SliceR.shape hc
    have Hxa := Lib.hid hxa
    have Hna := Lib.hid hna
    have Hma := Lib.hid hma
    clear hna hma hxa
    have HTa := Lib.hid (fun (w' : World) (e : Ext w8 w') => stable_rows.ext ht e)
    have HCa := Lib.hid (fun (w' : World) (e : Ext w8 w') => stable_rows.ext hc e)
    have HPa := Lib.hid (fun (w' : World) (e : Ext w8 w') => stable_ints.ext hp e)
    clear ht hc hp e8
    unfold sysV
    go_upto_region 7 with fail
    generalize hw9 : World.alloc w8 _ = w9
    obtain ⟨e9, S9⟩ := sys_box hw9
    obtain ⟨bxa, hba⟩ : ∃ bxa, w8.heap.size = bxa := ⟨_, rfl⟩
    rw [hba] at S9
    simp only [hba]
    have HSa := Lib.hid (fun (w' : World) (e : Ext w9 w') => S9.ext e)
    have X9 := Lib.hid e9
    clear hw9 hba S9
    obtain ⟨⟨⟨mku, tu⟩, one⟩, hexu⟩ : ∃ q, addDoor mka ta cutsa cola = q := ⟨_, rfl⟩
    have HFu : Hid (one = 0 → isDesign mku tu cutsa = true ∧ dropDoor mku tu cutsa (doorsOf ta : Int) = ((mka, ta), 0) ∧ 0 < ta.length) := fun h0 => add_facts (by rw [hexu, h0])
    have hcall := AddDoor_c w9 mka _ _ ta (HTa.out _ (by repeat (first | exact Ext.refl _ | exact RowKit.Hid.out (by assumption) | (refine Ext.trans ?_ (Ext.alloc _ _)) | (refine Ext.trans ?_ (RowKit.Hid.out (by assumption)))))) _ _ cutsa (HCa.out _ (by repeat (first | exact Ext.refl _ | exact RowKit.Hid.out (by assumption) | (refine Ext.trans ?_ (Ext.alloc _ _)) | (refine Ext.trans ?_ (RowKit.Hid.out (by assumption)))))) _ _ cola (HPa.out _ (by repeat (first | exact Ext.refl _ | exact RowKit.Hid.out (by assumption) | (refine Ext.trans ?_ (Ext.alloc _ _)) | (refine Ext.trans ?_ (RowKit.Hid.out (by assumption))))))
    rw [hexu] at hcall
    unfold sysV at hcall
    obtain ⟨c0, c1, c2, c3, c4, c5⟩ := HSa.out w9 (by repeat (first | exact Ext.refl _ | exact RowKit.Hid.out (by assumption) | (refine Ext.trans ?_ (Ext.alloc _ _)) | (refine Ext.trans ?_ (RowKit.Hid.out (by assumption)))))
    go_wp2_with fail
    refine Calls.mono hcall ?_
    rintro e w10 hr
    obtain ⟨_, rfl, ⟨u0, rfl, i0⟩, e10⟩ := ret_ext hr
    have X10 := Lib.hid e10
    clear hr hcall c0 c1 c2 c3 c4 c5
    simp only at i0
    obtain ⟨tua, tun, tuk, rfl, -⟩ := SliceR.shape i0
    have HTu := Lib.hid (fun (w' : World) (e : Ext w10 w') => stable_rows.ext i0 e)
    clear i0 e10
    unfold sysV
    go_upto_region 8 with fail
    generalize hw11 : World.alloc w10 _ = w11
    obtain ⟨e11, S11⟩ := sys_box hw11
    obtain ⟨bxu, hbu⟩ : ∃ bxu, w10.heap.size = bxu := ⟨_, rfl⟩
    rw [hbu] at S11
    simp only [hbu]
    have HSu := Lib.hid (fun (w' : World) (e : Ext w11 w') => S11.ext e)
    have X11 := Lib.hid e11
    clear hw11 hbu S11
    have hcall := AddDoorSpec_c w11 mka _ _ ta (HTa.out _ (by repeat (first | exact Ext.refl _ | exact RowKit.Hid.out (by assumption) | (refine Ext.trans ?_ (Ext.alloc _ _)) | (refine Ext.trans ?_ (RowKit.Hid.out (by assumption)))))) _ _ cutsa (HCa.out _ (by repeat (first | exact Ext.refl _ | exact RowKit.Hid.out (by assumption) | (refine Ext.trans ?_ (Ext.alloc _ _)) | (refine Ext.trans ?_ (RowKit.Hid.out (by assumption)))))) _ _ cola (HPa.out _ (by repeat (first | exact Ext.refl _ | exact RowKit.Hid.out (by assumption) | (refine Ext.trans ?_ (Ext.alloc _ _)) | (refine Ext.trans ?_ (RowKit.Hid.out (by assumption))))))
    rw [hexu] at hcall
    unfold sysV at hcall
    obtain ⟨c0, c1, c2, c3, c4, c5⟩ := HSa.out w11 (by repeat (first | exact Ext.refl _ | exact RowKit.Hid.out (by assumption) | (refine Ext.trans ?_ (Ext.alloc _ _)) | (refine Ext.trans ?_ (RowKit.Hid.out (by assumption)))))
    go_wp2_with fail
    refine Calls.mono hcall ?_
    rintro e w12 hr
    obtain ⟨_, rfl, ⟨u0, rfl, i0⟩, e12⟩ := ret_ext hr
    have X12 := Lib.hid e12
    clear hr hcall c0 c1 c2 c3 c4 c5
    simp only at i0
    obtain ⟨tza, tzn, tzk, rfl, -⟩ := SliceR.shape i0
    have HTz := Lib.hid (fun (w' : World) (e : Ext w12 w') => stable_rows.ext i0 e)
    clear i0 e12
    unfold sysV
    go_upto_region 9 with fail
    generalize hw13 : World.alloc w12 _ = w13
    obtain ⟨e13, S13⟩ := sys_box hw13
    obtain ⟨bxz, hbz⟩ : ∃ bxz, w12.heap.size = bxz := ⟨_, rfl⟩
    rw [hbz] at S13
    simp only [hbz]
    have HSz := Lib.hid (fun (w' : World) (e : Ext w13 w') => S13.ext e)
    have X13 := Lib.hid e13
    clear hw13 hbz S13
    clear hexu
    have hcall := DrawDropDoor_c w13 v _ x (H.out _ (by repeat (first | exact Ext.refl _ | exact RowKit.Hid.out (by assumption) | (refine Ext.trans ?_ (Ext.alloc _ _)) | (refine Ext.trans ?_ (RowKit.Hid.out (by assumption))))))
    go_wp2_with fail
    refine Calls.mono hcall ?_
    rintro e w14 hr
    obtain ⟨_, rfl, ⟨mkc, vt, tc, vc, cutsc, keyc, rfl, hkyc, ht, hc⟩, e14⟩ := ret_ext hr
    have X14 := Lib.hid e14
    clear hr hcall
    obtain ⟨tca, tcn, tck, rfl, hnc, -⟩ := SliceR.shape ht
    obtain ⟨cca, ccn, cck, rfl, hmc, hxc, -⟩ := SliceR.shape hc
    have Hxc := Lib.hid hxc
    have Hnc := Lib.hid hnc
    have Hmc := Lib.hid hmc
    clear hnc hmc hxc
    have HTc := Lib.hid (fun (w' : World) (e : Ext w14 w') => stable_rows.ext ht e)
    have HCc := Lib.hid (fun (w' : World) (e : Ext w14 w') => stable_rows.ext hc e)
    have HKc := Lib.hid hkyc
    clear ht hc hkyc e14
    unfold sysV
    go_upto_region 10 with fail
    generalize hw15 : World.alloc w14 _ = w15
    obtain ⟨e15, S15⟩ := sys_box hw15
    obtain ⟨bxc, hbc⟩ : ∃ bxc, w14.heap.size = bxc := ⟨_, rfl⟩
    rw [hbc] at S15
    simp only [hbc]
    have HSc := Lib.hid (fun (w' : World) (e : Ext w15 w') => S15.ext e)
    have X15 := Lib.hid e15
    clear hw15 hbc S15
    obtain ⟨⟨⟨mkv, tv⟩, three⟩, hexv⟩ : ∃ q, dropDoor mkc tc cutsc keyc = q := ⟨_, rfl⟩
    have HFv : Hid (three = 0 → isDesign mkv tv cutsc = true) := fun h0 => drop_facts (by rw [hexv, h0])
    have hcall := DropDoor_c w15 mkc _ _ tc (HTc.out _ (by repeat (first | exact Ext.refl _ | exact RowKit.Hid.out (by assumption) | (refine Ext.trans ?_ (Ext.alloc _ _)) | (refine Ext.trans ?_ (RowKit.Hid.out (by assumption)))))) _ _ cutsc (HCc.out _ (by repeat (first | exact Ext.refl _ | exact RowKit.Hid.out (by assumption) | (refine Ext.trans ?_ (Ext.alloc _ _)) | (refine Ext.trans ?_ (RowKit.Hid.out (by assumption)))))) keyc HKc.out
    rw [hexv] at hcall
    unfold sysV at hcall
    obtain ⟨c0, c1, c2, c3, c4, c5⟩ := HSc.out w15 (by repeat (first | exact Ext.refl _ | exact RowKit.Hid.out (by assumption) | (refine Ext.trans ?_ (Ext.alloc _ _)) | (refine Ext.trans ?_ (RowKit.Hid.out (by assumption)))))
    go_wp2_with fail
    refine Calls.mono hcall ?_
    rintro e w16 hr
    obtain ⟨_, rfl, ⟨u0, rfl, i0⟩, e16⟩ := ret_ext hr
    have X16 := Lib.hid e16
    clear hr hcall c0 c1 c2 c3 c4 c5
    simp only at i0
    obtain ⟨tva, tvn, tvk, rfl, -⟩ := SliceR.shape i0
    have HTv := Lib.hid (fun (w' : World) (e : Ext w16 w') => stable_rows.ext i0 e)
    clear i0 e16
    unfold sysV
    go_upto_region 11 with fail
    generalize hw17 : World.alloc w16 _ = w17
    obtain ⟨e17, S17⟩ := sys_box hw17
    obtain ⟨bxv, hbv⟩ : ∃ bxv, w16.heap.size = bxv := ⟨_, rfl⟩
    rw [hbv] at S17
    simp only [hbv]
    have HSv := Lib.hid (fun (w' : World) (e : Ext w17 w') => S17.ext e)
    have X17 := Lib.hid e17
    clear hw17 hbv S17
    have hcall := DropDoorSpec_c w17 mkc _ _ tc (HTc.out _ (by repeat (first | exact Ext.refl _ | exact RowKit.Hid.out (by assumption) | (refine Ext.trans ?_ (Ext.alloc _ _)) | (refine Ext.trans ?_ (RowKit.Hid.out (by assumption)))))) _ _ cutsc (HCc.out _ (by repeat (first | exact Ext.refl _ | exact RowKit.Hid.out (by assumption) | (refine Ext.trans ?_ (Ext.alloc _ _)) | (refine Ext.trans ?_ (RowKit.Hid.out (by assumption)))))) keyc HKc.out
    rw [hexv] at hcall
    unfold sysV at hcall
    obtain ⟨c0, c1, c2, c3, c4, c5⟩ := HSc.out w17 (by repeat (first | exact Ext.refl _ | exact RowKit.Hid.out (by assumption) | (refine Ext.trans ?_ (Ext.alloc _ _)) | (refine Ext.trans ?_ (RowKit.Hid.out (by assumption)))))
    go_wp2_with fail
    refine Calls.mono hcall ?_
    rintro e w18 hr
    obtain ⟨_, rfl, ⟨u0, rfl, i0⟩, e18⟩ := ret_ext hr
    have X18 := Lib.hid e18
    clear hr hcall c0 c1 c2 c3 c4 c5
    simp only at i0
    obtain ⟨tqa, tqn, tqk, rfl, -⟩ := SliceR.shape i0
    have HTq := Lib.hid (fun (w' : World) (e : Ext w18 w') => stable_rows.ext i0 e)
    clear i0 e18
    unfold sysV
    go_upto_region 12 with fail
    generalize hw19 : World.alloc w18 _ = w19
    obtain ⟨e19, S19⟩ := sys_box hw19
    obtain ⟨bxq, hbq⟩ : ∃ bxq, w18.heap.size = bxq := ⟨_, rfl⟩
    rw [hbq] at S19
    simp only [hbq]
    have HSq := Lib.hid (fun (w' : World) (e : Ext w19 w') => S19.ext e)
    have X19 := Lib.hid e19
    clear hw19 hbq S19
    clear hexv
    have hcall := likeSystems_c w19 mkx _ _ _ _ tx (HTx.out _ (by repeat (first | exact Ext.refl _ | exact RowKit.Hid.out (by assumption) | (refine Ext.trans ?_ (Ext.alloc _ _)) | (refine Ext.trans ?_ (RowKit.Hid.out (by assumption)))))) (HTy.out _ (by repeat (first | exact Ext.refl _ | exact RowKit.Hid.out (by assumption) | (refine Ext.trans ?_ (Ext.alloc _ _)) | (refine Ext.trans ?_ (RowKit.Hid.out (by assumption))))))
    unfold sysV at hcall
    obtain ⟨c0, c1, c2, c3, c4, c5⟩ := HSx.out w19 (by repeat (first | exact Ext.refl _ | exact RowKit.Hid.out (by assumption) | (refine Ext.trans ?_ (Ext.alloc _ _)) | (refine Ext.trans ?_ (RowKit.Hid.out (by assumption)))))
    obtain ⟨d0, d1, d2, d3, d4, d5⟩ := HSy.out w19 (by repeat (first | exact Ext.refl _ | exact RowKit.Hid.out (by assumption) | (refine Ext.trans ?_ (Ext.alloc _ _)) | (refine Ext.trans ?_ (RowKit.Hid.out (by assumption)))))
    go_wp2_with fail
    refine Calls.mono hcall ?_
    rintro e w20 hr
    obtain ⟨_, rfl, rfl, e20⟩ := ret_ext hr
    have X20 := Lib.hid e20
    clear hr hcall e20 c0 c1 c2 c3 c4 c5 d0 d1 d2 d3 d4 d5
    have hcall := likeLists_c w20 _ _ _ _ cx cx (HCx.out _ (by repeat (first | exact Ext.refl _ | exact RowKit.Hid.out (by assumption) | (refine Ext.trans ?_ (Ext.alloc _ _)) | (refine Ext.trans ?_ (RowKit.Hid.out (by assumption)))))) (HCy.out _ (by repeat (first | exact Ext.refl _ | exact RowKit.Hid.out (by assumption) | (refine Ext.trans ?_ (Ext.alloc _ _)) | (refine Ext.trans ?_ (RowKit.Hid.out (by assumption))))))
    rw [show decide (cx = cx) = true by simp] at hcall
    go_wp2_with fail
    refine Calls.mono hcall ?_
    rintro e w21 hr
    obtain ⟨rfl, -, e21⟩ := retq_ext hr
    have X21 := Lib.hid e21
    clear hr hcall e21
    have hcall := likeSystems_c w21 mku _ _ _ _ tu (HTu.out _ (by repeat (first | exact Ext.refl _ | exact RowKit.Hid.out (by assumption) | (refine Ext.trans ?_ (Ext.alloc _ _)) | (refine Ext.trans ?_ (RowKit.Hid.out (by assumption)))))) (HTz.out _ (by repeat (first | exact Ext.refl _ | exact RowKit.Hid.out (by assumption) | (refine Ext.trans ?_ (Ext.alloc _ _)) | (refine Ext.trans ?_ (RowKit.Hid.out (by assumption))))))
    unfold sysV at hcall
    obtain ⟨c0, c1, c2, c3, c4, c5⟩ := HSu.out w21 (by repeat (first | exact Ext.refl _ | exact RowKit.Hid.out (by assumption) | (refine Ext.trans ?_ (Ext.alloc _ _)) | (refine Ext.trans ?_ (RowKit.Hid.out (by assumption)))))
    obtain ⟨d0, d1, d2, d3, d4, d5⟩ := HSz.out w21 (by repeat (first | exact Ext.refl _ | exact RowKit.Hid.out (by assumption) | (refine Ext.trans ?_ (Ext.alloc _ _)) | (refine Ext.trans ?_ (RowKit.Hid.out (by assumption)))))
    go_wp2_with fail
    refine Calls.mono hcall ?_
    rintro e w22 hr
    obtain ⟨_, rfl, rfl, e22⟩ := ret_ext hr
    have X22 := Lib.hid e22
    clear hr hcall e22 c0 c1 c2 c3 c4 c5 d0 d1 d2 d3 d4 d5
    have hcall := likeSystems_c w22 mkv _ _ _ _ tv (HTv.out _ (by repeat (first | exact Ext.refl _ | exact RowKit.Hid.out (by assumption) | (refine Ext.trans ?_ (Ext.alloc _ _)) | (refine Ext.trans ?_ (RowKit.Hid.out (by assumption)))))) (HTq.out _ (by repeat (first | exact Ext.refl _ | exact RowKit.Hid.out (by assumption) | (refine Ext.trans ?_ (Ext.alloc _ _)) | (refine Ext.trans ?_ (RowKit.Hid.out (by assumption))))))
    unfold sysV at hcall
    obtain ⟨c0, c1, c2, c3, c4, c5⟩ := HSv.out w22 (by repeat (first | exact Ext.refl _ | exact RowKit.Hid.out (by assumption) | (refine Ext.trans ?_ (Ext.alloc _ _)) | (refine Ext.trans ?_ (RowKit.Hid.out (by assumption)))))
    obtain ⟨d0, d1, d2, d3, d4, d5⟩ := HSq.out w22 (by repeat (first | exact Ext.refl _ | exact RowKit.Hid.out (by assumption) | (refine Ext.trans ?_ (Ext.alloc _ _)) | (refine Ext.trans ?_ (RowKit.Hid.out (by assumption)))))
    go_wp2_with fail
    refine Calls.mono hcall ?_
    rintro e w23 hr
    obtain ⟨_, rfl, rfl, e23⟩ := ret_ext hr
    have X23 := Lib.hid e23
    clear hr hcall e23 c0 c1 c2 c3 c4 c5 d0 d1 d2 d3 d4 d5
    clear HTy HCy HTz HTq HSy HSz HSq HKs HPa HKc
    go_upto_if 130 with fail
    go_cut [16] (fun s16 wx => s16 = .int .i64 one ∧ Ext w23 wx)
    case first =>
      by_cases h1 : one = 0
      · subst h1
        obtain ⟨hdes, hdrop, htp⟩ := HFu.out rfl
        obtain ⟨rb, ro, hra, a0, m0, q0, hm0, hmm0, -, hrc, -⟩ := rows_at (HTa.out w23 (by repeat (first | exact Ext.refl _ | exact RowKit.Hid.out (by assumption) | (refine Ext.trans ?_ (Ext.alloc _ _)) | (refine Ext.trans ?_ (RowKit.Hid.out (by assumption)))))) (k := 0) (by rw [Hna.out]; exact htp)
        subst hra
        have HRc := Lib.hid hrc
        have Hm0 : Hid (m0 = doorsOf ta) := hm0
        have hcall := fun (w' : World) (e : Ext w23 w') => DropDoor_c w' mku _ _ tu (HTu.out w' (Ext.trans (by repeat (first | exact Ext.refl _ | exact RowKit.Hid.out (by assumption) | (refine Ext.trans ?_ (Ext.alloc _ _)) | (refine Ext.trans ?_ (RowKit.Hid.out (by assumption))))) e)) _ _ cutsa (HCa.out w' (Ext.trans (by repeat (first | exact Ext.refl _ | exact RowKit.Hid.out (by assumption) | (refine Ext.trans ?_ (Ext.alloc _ _)) | (refine Ext.trans ?_ (RowKit.Hid.out (by assumption))))) e)) (m0 : Int) (by unfold I64; omega)
        rw [show ((m0 : Nat) : Int) = (doorsOf ta : Int) by rw [Hm0.out]] at hcall
        rw [hdrop, ← Hm0.out] at hcall
        unfold sysV at hcall
        have HDr := Lib.hid hcall
        have HSU := Lib.hid (fun (w' : World) (e : Ext w23 w') => (HSu.out w' (Ext.trans (by repeat (first | exact Ext.refl _ | exact RowKit.Hid.out (by assumption) | (refine Ext.trans ?_ (Ext.alloc _ _)) | (refine Ext.trans ?_ (RowKit.Hid.out (by assumption))))) e)).all (Ext.refl _))
        have HSA := Lib.hid (fun (w' : World) (e : Ext w23 w') => (HSa.out w' (Ext.trans (by repeat (first | exact Ext.refl _ | exact RowKit.Hid.out (by assumption) | (refine Ext.trans ?_ (Ext.alloc _ _)) | (refine Ext.trans ?_ (RowKit.Hid.out (by assumption))))) e)).all (Ext.refl _))
        have hgt : (0 : Int) < (tan : Int) := by have := Hna.out; omega
        have hgtn : 0 < tan := by omega
        clear hcall hrc hm0 hdrop htp
        have HS15 : Hid (∀ w', Ext w23 w' → (w'.cell? ⟨bxu, 0, none⟩ = some (.int .i64 mku.c) ∧ w'.cell? ⟨bxu, 1, none⟩ = some (.int .i64 mku.d) ∧ w'.cell? ⟨bxu, 2, none⟩ = some (.int .i64 mku.s) ∧ w'.cell? ⟨bxu, 3, none⟩ = some (.int .i64 mku.m) ∧ w'.cell? ⟨bxu, 4, none⟩ = some (.int .i64 mku.l) ∧ w'.cell? ⟨bxu, 5, none⟩ = some (.slice tua tun tuk)) ∧ w'.cell? ⟨bxa, 5, none⟩ = some (.slice (some ⟨rb, ro, none⟩) tan tak) ∧ w'.cell? ⟨rb, ro, none⟩ = some (.slice a0 m0 q0)) := fun w' e => by
          have q := (HSA.out w' e).2.2.2.2.2
          have r := HRc.out w' e
          rw [Nat.add_zero] at r
          exact ⟨HSU.out w' e, q, r⟩
        go_upto_region 15 with fail
        go_cut [26, 27] (fun s26 s27 wx => ∃ bb u z, s26 = .pointer (some ⟨bb, 0, none⟩) ∧ s27 = .int .i64 0 ∧ SysAt wx bb mka u ∧ RowsR z wx u ta ∧ Ext w23 wx)
        case first =>
          refine wp_region_noPanic ?_
          refine wp_region_held_drew (S := (fun w' => (w'.cell? ⟨bxu, 0, none⟩ = some (.int .i64 mku.c) ∧ w'.cell? ⟨bxu, 1, none⟩ = some (.int .i64 mku.d) ∧ w'.cell? ⟨bxu, 2, none⟩ = some (.int .i64 mku.s) ∧ w'.cell? ⟨bxu, 3, none⟩ = some (.int .i64 mku.m) ∧ w'.cell? ⟨bxu, 4, none⟩ = some (.int .i64 mku.l) ∧ w'.cell? ⟨bxu, 5, none⟩ = some (.slice tua tun tuk)) ∧ w'.cell? ⟨bxa, 5, none⟩ = some (.slice (some ⟨rb, ro, none⟩) tan tak) ∧ w'.cell? ⟨rb, ro, none⟩ = some (.slice a0 m0 q0))) (by kernel_rfl) (HS15.out _ (Ext.drew _)) (fun hHeld => ?_)
          (refine take_at 0 132 (v := ?_) rfl rfl (by kernel_rfl) (by kernel_rfl) (by kernel_rfl) (fun _ _ _ h => h) (by rfl) ?_ (by assumption) ?_; rotate_left; focus (intro w999 hSw; (try dsimp only at hSw); go_simp <;> with_reducible rfl); (try simp only [Act.put, List.setIfInBounds_toArray, List.set_cons_zero, List.set_cons_succ]))
          (refine take_at 1 133 (v := ?_) rfl rfl (by kernel_rfl) (by kernel_rfl) (by kernel_rfl) (fun _ _ _ h => h) (by rfl) ?_ (by assumption) ?_; rotate_left; focus (intro w999 hSw; (try dsimp only at hSw); go_simp <;> with_reducible rfl); (try simp only [Act.put, List.setIfInBounds_toArray, List.set_cons_zero, List.set_cons_succ]))
          (refine take_at 2 134 (v := ?_) rfl rfl (by kernel_rfl) (by kernel_rfl) (by kernel_rfl) (fun _ _ _ h => h) (by rfl) ?_ (by assumption) ?_; rotate_left; focus (intro w999 hSw; (try dsimp only at hSw); go_simp <;> with_reducible rfl); (try simp only [Act.put, List.setIfInBounds_toArray, List.set_cons_zero, List.set_cons_succ]))
          (refine take_at 3 135 (v := ?_) rfl rfl (by kernel_rfl) (by kernel_rfl) (by kernel_rfl) (fun _ _ _ h => h) (by rfl) ?_ (by assumption) ?_; rotate_left; focus (intro w999 hSw; (try dsimp only at hSw); go_simp <;> with_reducible rfl); (try simp only [Act.put, List.setIfInBounds_toArray, List.set_cons_zero, List.set_cons_succ]))
          (refine take_at 4 136 (v := ?_) rfl rfl (by kernel_rfl) (by kernel_rfl) (by kernel_rfl) (fun _ _ _ h => h) (by rfl) ?_ (by assumption) ?_; rotate_left; focus (intro w999 hSw; (try dsimp only at hSw); go_simp <;> with_reducible rfl); (try simp only [Act.put, List.setIfInBounds_toArray, List.set_cons_zero, List.set_cons_succ]))
          (refine take_at 5 137 (v := ?_) rfl rfl (by kernel_rfl) (by kernel_rfl) (by kernel_rfl) (fun _ _ _ h => h) (by rfl) ?_ (by assumption) ?_; rotate_left; focus (intro w999 hSw; (try dsimp only at hSw); go_simp <;> with_reducible rfl); (try simp only [Act.put, List.setIfInBounds_toArray, List.set_cons_zero, List.set_cons_succ]))
          (refine take_at 6 138 (v := ?_) rfl rfl (by kernel_rfl) (by kernel_rfl) (by kernel_rfl) (fun _ _ _ h => h) (by rfl) ?_ (by assumption) ?_; rotate_left; focus (intro w999 hSw; (try dsimp only at hSw); go_simp <;> with_reducible rfl); (try simp only [Act.put, List.setIfInBounds_toArray, List.set_cons_zero, List.set_cons_succ]))
          refine wpAnyH_ready (rs := [7, 11]) (by kernel_rfl) (by simp) ?_
          refine AllReadyH.cons rfl (fun K hK => ?_) (AllReadyH.cons rfl (fun K hK => ?_) AllReadyH.nil)
          · go_simp
            refine (HDr.out _ (Ext.drew _)).mono ?_
            rintro e wb hr
            obtain ⟨_, rfl, ⟨u0, rfl, i0⟩, e14⟩ := ret_ext hr
            have e15 : Ext w23 wb := (Ext.drew _).trans e14
            clear hr
            simp only at i0
            obtain ⟨tba, tbn, tbk, rfl, -⟩ := SliceR.shape i0
            unfold sysV
            (refine hK.out _ _ ?_ (fun hHeld => ?_))
            · exact HS15.out _ e15
            (clear hK K; try dsimp only)
            (refine take_at 8 131 (v := ?_) rfl rfl (by kernel_rfl) (by kernel_rfl) (by kernel_rfl) (fun _ _ _ h => h) (by rfl) ?_ (by assumption) ?_; rotate_left; focus (intro w999 hSw; (try dsimp only at hSw); go_simp <;> with_reducible rfl); (try simp only [Act.put, List.setIfInBounds_toArray, List.set_cons_zero, List.set_cons_succ]))
            (refine take_at 9 140 (v := ?_) rfl rfl (by kernel_rfl) (by kernel_rfl) (by kernel_rfl) (fun _ _ _ h => h) (by rfl) ?_ (by assumption) ?_; rotate_left; focus (intro w999 hSw; (try dsimp only at hSw); go_simp <;> with_reducible rfl); (try simp only [Act.put, List.setIfInBounds_toArray, List.set_cons_zero, List.set_cons_succ]))
            (refine take_at 10 141 (v := ?_) rfl rfl (by kernel_rfl) (by kernel_rfl) (by kernel_rfl) (fun _ _ _ h => h) (by rfl) ?_ (by assumption) ?_; rotate_left; focus (intro w999 hSw; (try dsimp only at hSw); go_simp <;> with_reducible rfl); (try simp only [Act.put, List.setIfInBounds_toArray, List.set_cons_zero, List.set_cons_succ]))
            (refine wpAnyH_ready (rs := [11]) (by kernel_rfl) (by simp) ?_; refine AllReadyH.cons rfl (fun K hK => ?_) AllReadyH.nil; go_simp)
            have R16 := res_new wb 32
            have e16 : Ext wb (wb.alloc (.cells #[.int .i64 0, .int .i64 0, .int .i64 0, .int .i64 0, .int .i64 0, .slice none 0 0] 32)) := Ext.alloc _ _
            replace i0 := stable_rows.ext i0 e16
            generalize wb.alloc (.cells #[.int .i64 0, .int .i64 0, .int .i64 0, .int .i64 0, .int .i64 0, .slice none 0 0] 32) = wd at *
            have hbw : w23.heap.size ≤ wb.heap.size := e15.size
            (refine hK.out _ _ ?_ (fun hHeld => ?_))
            · exact HS15.out _ (e15.trans e16)
            (clear hK K; try simp only [Act.put, List.setIfInBounds_toArray, List.set_cons_zero, List.set_cons_succ])
            have hP := res_put6 R16 mka (.slice tba tbn tbk)
            have hI := rows_put6x i0 (fun hh => by have : wb.heap.size < wb.heap.size := hh.2; omega) (.int .i64 mka.c) (.int .i64 mka.d) (.int .i64 mka.s) (.int .i64 mka.m) (.int .i64 mka.l) (.slice tba tbn tbk)
            have hE := ext_put6 (e15.trans e16) hbw (.int .i64 mka.c) (.int .i64 mka.d) (.int .i64 mka.s) (.int .i64 mka.m) (.int .i64 mka.l) (.slice tba tbn tbk)
            obtain ⟨r0, r1, r2, r3, r4, r5, f0, f1, f2, f3, f4, f5⟩ := R16
            have HP := Lib.hid hP
            have HI := Lib.hid hI
            have HE := Lib.hid hE
            clear hP hI hE i0
            (refine wpAnyH_ready (rs := [12]) (by kernel_rfl) (by simp) ?_; refine AllReadyH.cons rfl (fun K hK => ?_) AllReadyH.nil; go_simp)
            (refine hK.out _ _ ?_ (fun hHeld => ?_))
            · exact HS15.out _ HE.out
            (clear hK K; try simp only [Act.put, List.setIfInBounds_toArray, List.set_cons_zero, List.set_cons_succ])
            (refine take_at 13 27 (v := ?_) rfl rfl (by kernel_rfl) (by kernel_rfl) (by kernel_rfl) (fun _ _ _ h => h) (by rfl) ?_ (by assumption) ?_; rotate_left; focus (intro w999 hSw; (try dsimp only at hSw); go_simp <;> with_reducible rfl); (try simp only [Act.put, List.setIfInBounds_toArray, List.set_cons_zero, List.set_cons_succ]))
            refine wpAnyH_done (by kernel_rfl) ?_ _
            refine NoPanic.normal ?_
            go_wp2_with fail
            go_meet
            exact ⟨_, _, _, rfl, rfl, HP.out, HI.out, HE.out⟩
          · go_simp
            have e16 : Ext w23 (w23.alloc (.cells #[.int .i64 0, .int .i64 0, .int .i64 0, .int .i64 0, .int .i64 0, .slice none 0 0] 32)).drew := (Ext.alloc _ _).trans (Ext.drew _)
            have R16 := (res_new w23 32).ext (Ext.drew _)
            have hbl := R16.lt
            generalize (w23.alloc (.cells #[.int .i64 0, .int .i64 0, .int .i64 0, .int .i64 0, .int .i64 0, .slice none 0 0] 32)).drew = wd at *
            obtain ⟨bb, hbb⟩ : ∃ bb, w23.heap.size = bb := ⟨_, rfl⟩
            have hbw : w23.heap.size ≤ bb := Nat.le_of_eq hbb
            rw [hbb] at R16 hbl
            try rw [hbb]
            clear hbb
            (refine hK.out _ _ ?_ (fun hHeld => ?_))
            · exact HS15.out _ e16
            (clear hK K; try simp only [Act.put, List.setIfInBounds_toArray, List.set_cons_zero, List.set_cons_succ])
            refine wpAnyH_ready (rs := [7]) (by kernel_rfl) (by simp) ?_
            refine AllReadyH.cons rfl (fun K hK => ?_) AllReadyH.nil
            try go_simp
            refine (HDr.out _ e16).mono ?_
            rintro e wb hr
            obtain ⟨_, rfl, ⟨u0, rfl, i0⟩, e14⟩ := ret_ext hr
            have e15 : Ext w23 wb := e16.trans e14
            clear hr
            simp only at i0
            obtain ⟨tba, tbn, tbk, rfl, -⟩ := SliceR.shape i0
            unfold sysV
            (refine hK.out _ _ ?_ (fun hHeld => ?_))
            · exact HS15.out _ e15
            (clear hK K; try dsimp only)
            (refine take_at 8 131 (v := ?_) rfl rfl (by kernel_rfl) (by kernel_rfl) (by kernel_rfl) (fun _ _ _ h => h) (by rfl) ?_ (by assumption) ?_; rotate_left; focus (intro w999 hSw; (try dsimp only at hSw); go_simp <;> with_reducible rfl); (try simp only [Act.put, List.setIfInBounds_toArray, List.set_cons_zero, List.set_cons_succ]))
            (refine take_at 9 140 (v := ?_) rfl rfl (by kernel_rfl) (by kernel_rfl) (by kernel_rfl) (fun _ _ _ h => h) (by rfl) ?_ (by assumption) ?_; rotate_left; focus (intro w999 hSw; (try dsimp only at hSw); go_simp <;> with_reducible rfl); (try simp only [Act.put, List.setIfInBounds_toArray, List.set_cons_zero, List.set_cons_succ]))
            (refine take_at 10 141 (v := ?_) rfl rfl (by kernel_rfl) (by kernel_rfl) (by kernel_rfl) (fun _ _ _ h => h) (by rfl) ?_ (by assumption) ?_; rotate_left; focus (intro w999 hSw; (try dsimp only at hSw); go_simp <;> with_reducible rfl); (try simp only [Act.put, List.setIfInBounds_toArray, List.set_cons_zero, List.set_cons_succ]))
            replace R16 := R16.ext e14
            have hP := res_put6 R16 mka (.slice tba tbn tbk)
            have hI := rows_put6x i0 (fun hh => by have : wd.heap.size ≤ bb := hh.1; omega) (.int .i64 mka.c) (.int .i64 mka.d) (.int .i64 mka.s) (.int .i64 mka.m) (.int .i64 mka.l) (.slice tba tbn tbk)
            have hE := ext_put6 e15 hbw (.int .i64 mka.c) (.int .i64 mka.d) (.int .i64 mka.s) (.int .i64 mka.m) (.int .i64 mka.l) (.slice tba tbn tbk)
            obtain ⟨r0, r1, r2, r3, r4, r5, f0, f1, f2, f3, f4, f5⟩ := R16
            have HP := Lib.hid hP
            have HI := Lib.hid hI
            have HE := Lib.hid hE
            clear hP hI hE i0
            (refine wpAnyH_ready (rs := [12]) (by kernel_rfl) (by simp) ?_; refine AllReadyH.cons rfl (fun K hK => ?_) AllReadyH.nil; go_simp)
            (refine hK.out _ _ ?_ (fun hHeld => ?_))
            · exact HS15.out _ HE.out
            (clear hK K; try simp only [Act.put, List.setIfInBounds_toArray, List.set_cons_zero, List.set_cons_succ])
            (refine take_at 13 27 (v := ?_) rfl rfl (by kernel_rfl) (by kernel_rfl) (by kernel_rfl) (fun _ _ _ h => h) (by rfl) ?_ (by assumption) ?_; rotate_left; focus (intro w999 hSw; (try dsimp only at hSw); go_simp <;> with_reducible rfl); (try simp only [Act.put, List.setIfInBounds_toArray, List.set_cons_zero, List.set_cons_succ]))
            refine wpAnyH_done (by kernel_rfl) ?_ _
            refine NoPanic.normal ?_
            go_wp2_with fail
            go_meet
            exact ⟨_, _, _, rfl, rfl, HP.out, HI.out, HE.out⟩
        case rest =>
          obtain ⟨bb, u, z, rfl, rfl, hS, hI, ec⟩ := hcut
          obtain ⟨ua, un, uk, rfl, -⟩ := SliceR.shape hI
          have HSb := Lib.hid (fun (w' : World) (e : Ext wc w') => hS.ext e)
          have HTb := Lib.hid (fun (w' : World) (e : Ext wc w') => stable_rows.ext hI e)
          have Xc := Lib.hid ec
          clear hS hI HS15 HDr HRc
          have hcall := IsDesign_c wc mku _ _ _ (HTu.out wc (by repeat (first | exact Ext.refl _ | exact RowKit.Hid.out (by assumption) | (refine Ext.trans ?_ (Ext.alloc _ _)) | (refine Ext.trans ?_ (RowKit.Hid.out (by assumption)))))) _ _ _ (HCa.out wc (by repeat (first | exact Ext.refl _ | exact RowKit.Hid.out (by assumption) | (refine Ext.trans ?_ (Ext.alloc _ _)) | (refine Ext.trans ?_ (RowKit.Hid.out (by assumption))))))
          rw [hdes] at hcall
          unfold sysV at hcall
          obtain ⟨c0, c1, c2, c3, c4, c5⟩ := HSu.out wc (by repeat (first | exact Ext.refl _ | exact RowKit.Hid.out (by assumption) | (refine Ext.trans ?_ (Ext.alloc _ _)) | (refine Ext.trans ?_ (RowKit.Hid.out (by assumption)))))
          clear ec hdes
          go_wp2_with fail
          refine Calls.mono hcall ?_
          rintro e wf hr
          obtain ⟨_, rfl, rfl, ef⟩ := ret_ext hr
          have Xf := Lib.hid ef
          clear hr hcall c0 c1 c2 c3 c4 c5
          have hcall := likeSystems_c wf mka _ _ _ _ ta (HTb.out wf ef) (HTa.out wf (by repeat (first | exact Ext.refl _ | exact RowKit.Hid.out (by assumption) | (refine Ext.trans ?_ (Ext.alloc _ _)) | (refine Ext.trans ?_ (RowKit.Hid.out (by assumption))))))
          unfold sysV at hcall
          obtain ⟨c0, c1, c2, c3, c4, c5⟩ := HSb.out wf ef
          obtain ⟨d0, d1, d2, d3, d4, d5⟩ := HSa.out wf (by repeat (first | exact Ext.refl _ | exact RowKit.Hid.out (by assumption) | (refine Ext.trans ?_ (Ext.alloc _ _)) | (refine Ext.trans ?_ (RowKit.Hid.out (by assumption)))))
          clear ef
          go_wp2_with fail
          refine Calls.mono hcall ?_
          rintro e wg hr
          obtain ⟨_, rfl, rfl, eg⟩ := ret_ext hr
          have Xg := Lib.hid eg
          clear hr hcall eg c0 c1 c2 c3 c4 c5 d0 d1 d2 d3 d4 d5
          go_wp2_with fail
          go_meet
          exact ⟨rfl, (by repeat (first | exact Ext.refl _ | exact RowKit.Hid.out (by assumption) | (refine Ext.trans ?_ (Ext.alloc _ _)) | (refine Ext.trans ?_ (RowKit.Hid.out (by assumption)))))⟩
      · have h1b : (one == 0) = false := by rw [beq_eq_false_iff_ne]; exact h1
        go_wp2_with fail
        go_meet
        exact ⟨rfl, Ext.refl _⟩
    case rest =>
      obtain ⟨rfl, ec⟩ := hcut
      have Xc := Lib.hid ec
      clear ec
      by_cases h3 : three = 0
      · subst h3
        have hdv := HFv.out rfl
        have hcall := IsDesign_c wc mkv _ _ _ (HTv.out wc (by repeat (first | exact Ext.refl _ | exact RowKit.Hid.out (by assumption) | (refine Ext.trans ?_ (Ext.alloc _ _)) | (refine Ext.trans ?_ (RowKit.Hid.out (by assumption)))))) _ _ _ (HCc.out wc (by repeat (first | exact Ext.refl _ | exact RowKit.Hid.out (by assumption) | (refine Ext.trans ?_ (Ext.alloc _ _)) | (refine Ext.trans ?_ (RowKit.Hid.out (by assumption))))))
        rw [hdv] at hcall
        unfold sysV at hcall
        obtain ⟨c0, c1, c2, c3, c4, c5⟩ := HSv.out wc (by repeat (first | exact Ext.refl _ | exact RowKit.Hid.out (by assumption) | (refine Ext.trans ?_ (Ext.alloc _ _)) | (refine Ext.trans ?_ (RowKit.Hid.out (by assumption)))))
        clear hdv
        go_wp2_with fail
        refine Calls.mono hcall ?_
        rintro e wy hr
        obtain ⟨_, rfl, rfl, ey⟩ := ret_ext hr
        have Xy := Lib.hid ey
        clear hr hcall ey c0 c1 c2 c3 c4 c5
        by_cases h2 : bad = 0
        · subst h2
          obtain ⟨hdx, hlx⟩ := HFx.out rfl
          have hcall := IsDesign_c wy mkx _ _ _ (HTx.out wy (by repeat (first | exact Ext.refl _ | exact RowKit.Hid.out (by assumption) | (refine Ext.trans ?_ (Ext.alloc _ _)) | (refine Ext.trans ?_ (RowKit.Hid.out (by assumption)))))) _ _ _ (HCx.out wy (by repeat (first | exact Ext.refl _ | exact RowKit.Hid.out (by assumption) | (refine Ext.trans ?_ (Ext.alloc _ _)) | (refine Ext.trans ?_ (RowKit.Hid.out (by assumption))))))
          rw [hdx] at hcall
          unfold sysV at hcall
          obtain ⟨c0, c1, c2, c3, c4, c5⟩ := HSx.out wy (by repeat (first | exact Ext.refl _ | exact RowKit.Hid.out (by assumption) | (refine Ext.trans ?_ (Ext.alloc _ _)) | (refine Ext.trans ?_ (RowKit.Hid.out (by assumption)))))
          have hw1 : IntKind.i64.wrap ((csn : Int) - 1) = (csn : Int) - 1 := IntWalk.i64_in _ (by have := Hxs.out; omega)
          have hb1 : ((cxn : Int) == (csn : Int) - 1) = true := by rw [beq_iff_eq]; have := Hms.out; have := Hmx.out; omega
          clear hdx hlx
          go_wp2_with fail
          refine Calls.mono hcall ?_
          rintro e wz hr
          obtain ⟨_, rfl, rfl, ez⟩ := ret_ext hr
          have Xz := Lib.hid ez
          clear hr hcall ez c0 c1 c2 c3 c4 c5
          go_wp2_with fail
          go_ret
          exact ⟨_, rfl, rfl, (by repeat (first | exact Ext.refl _ | exact RowKit.Hid.out (by assumption) | (refine Ext.trans ?_ (Ext.alloc _ _)) | (refine Ext.trans ?_ (RowKit.Hid.out (by assumption)))))⟩
        · have h2b : (bad != 0) = true := by rw [bne_iff_ne]; exact h2
          go_wp2_with fail
          go_ret
          exact ⟨_, rfl, rfl, (by repeat (first | exact Ext.refl _ | exact RowKit.Hid.out (by assumption) | (refine Ext.trans ?_ (Ext.alloc _ _)) | (refine Ext.trans ?_ (RowKit.Hid.out (by assumption)))))⟩
      · have h3b : (three == 0) = false := by rw [beq_eq_false_iff_ne]; exact h3
        by_cases h2 : bad = 0
        · subst h2
          obtain ⟨hdx, hlx⟩ := HFx.out rfl
          have hcall := IsDesign_c wc mkx _ _ _ (HTx.out wc (by repeat (first | exact Ext.refl _ | exact RowKit.Hid.out (by assumption) | (refine Ext.trans ?_ (Ext.alloc _ _)) | (refine Ext.trans ?_ (RowKit.Hid.out (by assumption)))))) _ _ _ (HCx.out wc (by repeat (first | exact Ext.refl _ | exact RowKit.Hid.out (by assumption) | (refine Ext.trans ?_ (Ext.alloc _ _)) | (refine Ext.trans ?_ (RowKit.Hid.out (by assumption))))))
          rw [hdx] at hcall
          unfold sysV at hcall
          obtain ⟨c0, c1, c2, c3, c4, c5⟩ := HSx.out wc (by repeat (first | exact Ext.refl _ | exact RowKit.Hid.out (by assumption) | (refine Ext.trans ?_ (Ext.alloc _ _)) | (refine Ext.trans ?_ (RowKit.Hid.out (by assumption)))))
          have hw1 : IntKind.i64.wrap ((csn : Int) - 1) = (csn : Int) - 1 := IntWalk.i64_in _ (by have := Hxs.out; omega)
          have hb1 : ((cxn : Int) == (csn : Int) - 1) = true := by rw [beq_iff_eq]; have := Hms.out; have := Hmx.out; omega
          clear hdx hlx
          go_wp2_with fail
          refine Calls.mono hcall ?_
          rintro e wz hr
          obtain ⟨_, rfl, rfl, ez⟩ := ret_ext hr
          have Xz := Lib.hid ez
          clear hr hcall ez c0 c1 c2 c3 c4 c5
          go_wp2_with fail
          go_ret
          exact ⟨_, rfl, rfl, (by repeat (first | exact Ext.refl _ | exact RowKit.Hid.out (by assumption) | (refine Ext.trans ?_ (Ext.alloc _ _)) | (refine Ext.trans ?_ (RowKit.Hid.out (by assumption)))))⟩
        · have h2b : (bad != 0) = true := by rw [bne_iff_ne]; exact h2
          go_wp2_with fail
          go_ret
          exact ⟨_, rfl, rfl, (by repeat (first | exact Ext.refl _ | exact RowKit.Hid.out (by assumption) | (refine Ext.trans ?_ (Ext.alloc _ _)) | (refine Ext.trans ?_ (RowKit.Hid.out (by assumption)))))⟩


/-! ### the row -/
theorem own : ownKnob Tryz.prog.godebug = none := by kernel_rfl
theorem laidOut : laidOutB Tryz.prog = true := by kernel_rfl
set_option maxRecDepth 100000 in
theorem lifted (os : Os) (started : os.Started) (H : Type) (enc : TypeId × Value → H) :
    ReturnsInHanded {} Tryz.checked os 4 .any (Rows.fnRetiredSpec.pre6 enc Tryz.prog Tryz.f4 Rows.fnRetiredRow.domain false) (Rows.fnRetiredSpec.post enc Tryz.prog Tryz.f4 false true false false) := by
  refine returnsInHanded_of_change (C := Tryz.checked) own started (by kernel_rfl) Tryz.func4
    (ChangeSpec.witness6 (enc := enc) (C := Tryz.checked) false ⟨#[], #[.slice none 0 0], []⟩ 8 (by kernel_rfl) (by kernel_rfl) (by kernel_rfl) (by kernel_rfl)) ?_
  intro W base args ds gs before hval0 hW hcnd _
  have hval : ∀ (j : Nat) t v, Tryz.f4.params[j]? = some t → args[j]? = some v → Value.okWide Tryz.prog W .any base t v := hval0
  have hW' := hW
  obtain ⟨p, q, hA0, hV, rfl, hfz, hnd⟩ := hW
  have hA : DataW.TrodAll enc Tryz.prog W 0 (fun _ => true) true Tryz.f4.params.toList args.toList ds p := hA0
  rw [Tryz.params4] at hA hval
  obtain ⟨v0, vs0, d0, ds0, p0, q0, hargs, rfl, rfl, h0, r0⟩ := trodAll_cons hA
  obtain ⟨rfl, rfl, rfl⟩ := trodAll_nil r0
  obtain rfl : args = #[v0] := by cases args; simp_all
  obtain ⟨rfl, rfl⟩ := trodVars_none hV
  have k0 := h0
  have lt0 : ∀ x ∈ p0, x.block < W.heap.size := by obtain ⟨m, hm⟩ := k0; exact DataW.trod_lt m _ _ _ hm
  obtain ⟨a0, len0, cap0, rfl⟩ := okWide_slice Tryz.underlying22 (hval 0 22 v0 rfl rfl)
  obtain ⟨x0, w0⟩ : ∃ xs, BytesR (.old W) W (.slice a0 len0 cap0) xs := by obtain ⟨fuel, hf⟩ := h0; exact open_BytesR Tryz.underlying22 Tryz.underlying5 (by kernel_rfl) hf
  clear hA0 hval0
  refine (walk W _ x0 w0).mono fun e W' hret => ?_
  obtain ⟨r, rfl, rfl, bel⟩ := hret
  exact ⟨_, rfl, _, _, _, [], _, [], hW', trodAll_mk1 (shut_bool Tryz.underlying4 _), (trodAll_cons_mk (Below.trod laidOut (by kernel_rfl) (of_decide_eq_true (by kernel_rfl)) k0 bel lt0) trodAll_mk0), rfl, bel.frame _, fun h => by cases h⟩

theorem over : Rows.fnRetiredRow.holds Tryz.pinned (OpenSpec.ofChange Rows.fnRetiredSpec) :=
  OpenClaim.holds_of_wide 4 Tryz.f4 rfl rfl rfl rfl rfl rfl rfl ⟨rfl, rfl, rfl, rfl, rfl⟩ rfl rfl rfl rfl rfl (by kernel_rfl) Tryz.func4 (by kernel_rfl)
    (of_decide_eq_true (by kernel_rfl)) (by unfold Func.isWrapper; first | (rw [if_pos (by decide +kernel)]; kernel_rfl) | (rw [if_neg (by decide +kernel)]; exact ⟨rfl, rfl⟩))
    (fun os started H enc _ => lifted os started H enc)

theorem proved : Rows.FnRetiredSaid := over

end fnRetired
end Go.Proofs.YthgmojggpjnckaaGreat
