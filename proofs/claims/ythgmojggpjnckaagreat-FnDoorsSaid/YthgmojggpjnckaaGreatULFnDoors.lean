/- Proved: for every code, laws.FnDoors returns true and changes nothing that was there; no condition. -/
import Derived.Test.YthgmojggpjnckaaGreatRows
import Derived.Deep.RegionLaw
import Derived.Deep.RegionHeld3
import Derived.Test.YthgmojggpjnckaaGreatUPkL
import Derived.Test.YthgmojggpjnckaaGreatUDrawThin
import Derived.Test.YthgmojggpjnckaaGreatUDoorsFacts
import Derived.Test.YthgmojggpjnckaaGreatUPkF4
import Derived.Test.YthgmojggpjnckaaGreatUCheapDoor
import Derived.Test.YthgmojggpjnckaaGreatULocksOf
import Derived.Test.YthgmojggpjnckaaGreatUGhostTabI
import Derived.Test.YthgmojggpjnckaaGreatUGhostTabS
import Derived.Test.YthgmojggpjnckaaGreatUThinDoors
import Derived.Test.YthgmojggpjnckaaGreatUCountWaf
import Derived.Test.YthgmojggpjnckaaGreatUPkF6
import Derived.Test.YthgmojggpjnckaaGreatURegionStep
namespace Go.Proofs.YthgmojggpjnckaaGreat
open Go.ChangeShapes Go.WideShapes Go.ChangeAt Go.RowKit
set_option linter.unusedVariables false
namespace fnDoors

theorem IntsR.at {z : Zone} {w : World} {a : Option Addr} {n cap : Nat} {xs : List Int} (h : IntsR z w (.slice a n cap) xs) {k : Nat} (hk : k < n) : ∃ b off, a = some ⟨b, off, none⟩ ∧ ∀ w', Ext w w' → w'.cell? ⟨b, off + k, none⟩ = some (.int .i64 (xs.getD k 0)) := by
  obtain ⟨b, off, h1, -, h2⟩ := ints_at h hk
  exact ⟨b, off, h1, h2⟩

set_option maxRecDepth 20000 in
set_option maxHeartbeats 20000000 in
theorem walk (w : World) (v : Value) (x : List Int) (h : BytesR (.old w) w v x) : Calls Tryz.prog 5 #[v] w (Ret w fun r _ => r = .bool true) := by
  have hcall := big_c w v _ x h
  have H := Lib.hid (fun (w' : World) (e : Ext w w') => stable_bytes.ext h e)
  clear h
  cases hb : decide (4096 < x.length) with
  | true =>
    rw [hb] at hcall
    clear hb
    go_enter Tryz.func5, Tryz.ntmps5
    go_wp2_with fail
    refine Calls.mono hcall ?_
    rintro e w1 hr
    obtain ⟨rfl, hd, e1⟩ := retq_ext hr
    clear hr hcall
    go_wp2_with fail
    go_ret
    exact ⟨_, rfl, rfl, e1⟩
  | false =>
    rw [hb] at hcall
    clear hb
    go_enter Tryz.func5, Tryz.ntmps5
    go_wp2_with fail
    refine Calls.mono hcall ?_
    rintro e w1 hr
    obtain ⟨rfl, hd, e1⟩ := retq_ext hr
    have X1 := Lib.hid e1
    clear hr hcall hd e1
    have hcall := DrawSharedLocks_c w1 v _ x (H.out _ (by repeat (first | exact Ext.refl _ | exact RowKit.Hid.out (by assumption) | (refine Ext.trans ?_ (Ext.alloc _ _)) | (refine Ext.trans ?_ (RowKit.Hid.out (by assumption))))))
    go_wp2_with fail
    refine Calls.mono hcall ?_
    rintro e w2 hr
    obtain ⟨_, rfl, ⟨mks, vt, ts, vc, cutss, rfl, ht, hc⟩, e2⟩ := ret_ext hr
    have X2 := Lib.hid e2
    clear hr hcall e2
    obtain ⟨tsa, tsn, tsk, rfl, -⟩ := SliceR.shape ht
    obtain ⟨csa, csn, csk, rfl, -⟩ := SliceR.shape hc
    have HTs := Lib.hid (fun (w' : World) (e : Ext w2 w') => stable_rows.ext ht e)
    have HCs := Lib.hid (fun (w' : World) (e : Ext w2 w') => stable_rows.ext hc e)
    clear ht hc
    unfold sysV
    go_upto_region 4 with fail
    generalize hw3 : World.alloc w2 _ = w3
    obtain ⟨e3, S3⟩ := sys_box hw3
    obtain ⟨bxs, hbs⟩ : ∃ bxs, w2.heap.size = bxs := ⟨_, rfl⟩
    rw [hbs] at S3
    simp only [hbs]
    have HSs := Lib.hid (fun (w' : World) (e : Ext w3 w') => S3.ext e)
    have X3 := Lib.hid e3
    clear hw3 hbs S3 e3
    obtain ⟨⟨h, bad⟩, hexh⟩ : ∃ q, sharedOf mks ts cutss = q := ⟨_, rfl⟩
    obtain ⟨⟨c, one⟩, hexc⟩ : ∃ q, cheapDoor mks ts cutss = q := ⟨_, rfl⟩
    have HF : Hid (bad = 0 → ∃ (ls : List (List (List Int))) (gs : List Int) (n cn : Nat), c = (cn : Int) ∧ locksOf mks ts cutss = (ls, 0) ∧ ghostTab mks ts cutss = (gs, 0) ∧ DoorsF mks ls h gs n cn) := fun h0 => doors_facts hexh hexc h0
    have hcall := SharedLocks_c w3 mks _ _ ts (HTs.out _ (by repeat (first | exact Ext.refl _ | exact RowKit.Hid.out (by assumption) | (refine Ext.trans ?_ (Ext.alloc _ _)) | (refine Ext.trans ?_ (RowKit.Hid.out (by assumption)))))) _ _ cutss (HCs.out _ (by repeat (first | exact Ext.refl _ | exact RowKit.Hid.out (by assumption) | (refine Ext.trans ?_ (Ext.alloc _ _)) | (refine Ext.trans ?_ (RowKit.Hid.out (by assumption)))))) 
    rw [hexh] at hcall
    unfold sysV at hcall
    obtain ⟨c0, c1, c2, c3, c4, c5⟩ := HSs.out w3 (by repeat (first | exact Ext.refl _ | exact RowKit.Hid.out (by assumption) | (refine Ext.trans ?_ (Ext.alloc _ _)) | (refine Ext.trans ?_ (RowKit.Hid.out (by assumption)))))
    go_wp2_with fail
    refine Calls.mono hcall ?_
    rintro e w4 hr
    obtain ⟨_, rfl, ⟨u0, rfl, i0⟩, e4⟩ := ret_ext hr
    have X4 := Lib.hid e4
    clear hr hcall c0 c1 c2 c3 c4 c5
    simp only at i0
    obtain ⟨iha, ihn, ihk, rfl, hlh, -⟩ := SliceR.shape i0
    have Hlh := Lib.hid hlh
    have HIh := Lib.hid (fun (w' : World) (e : Ext w4 w') => stable_ints.ext i0 e)
    clear i0 hlh
    clear e4
    have hcall := SharedLocksSpec_c w4 mks _ _ ts (HTs.out _ (by repeat (first | exact Ext.refl _ | exact RowKit.Hid.out (by assumption) | (refine Ext.trans ?_ (Ext.alloc _ _)) | (refine Ext.trans ?_ (RowKit.Hid.out (by assumption)))))) _ _ cutss (HCs.out _ (by repeat (first | exact Ext.refl _ | exact RowKit.Hid.out (by assumption) | (refine Ext.trans ?_ (Ext.alloc _ _)) | (refine Ext.trans ?_ (RowKit.Hid.out (by assumption)))))) 
    rw [hexh] at hcall
    unfold sysV at hcall
    obtain ⟨c0, c1, c2, c3, c4, c5⟩ := HSs.out w4 (by repeat (first | exact Ext.refl _ | exact RowKit.Hid.out (by assumption) | (refine Ext.trans ?_ (Ext.alloc _ _)) | (refine Ext.trans ?_ (RowKit.Hid.out (by assumption)))))
    go_wp2_with fail
    refine Calls.mono hcall ?_
    rintro e w5 hr
    obtain ⟨_, rfl, ⟨u0, rfl, i0⟩, e5⟩ := ret_ext hr
    have X5 := Lib.hid e5
    clear hr hcall c0 c1 c2 c3 c4 c5
    simp only at i0
    obtain ⟨ima, imn, imk, rfl, hlm, -⟩ := SliceR.shape i0
    have Hlm := Lib.hid hlm
    have HIm := Lib.hid (fun (w' : World) (e : Ext w5 w') => stable_ints.ext i0 e)
    clear i0 hlm
    clear e5
    clear hexh
    have hcall := CheapestDoor_c w5 mks _ _ ts (HTs.out _ (by repeat (first | exact Ext.refl _ | exact RowKit.Hid.out (by assumption) | (refine Ext.trans ?_ (Ext.alloc _ _)) | (refine Ext.trans ?_ (RowKit.Hid.out (by assumption)))))) _ _ cutss (HCs.out _ (by repeat (first | exact Ext.refl _ | exact RowKit.Hid.out (by assumption) | (refine Ext.trans ?_ (Ext.alloc _ _)) | (refine Ext.trans ?_ (RowKit.Hid.out (by assumption)))))) 
    rw [hexc] at hcall
    unfold sysV at hcall
    obtain ⟨c0, c1, c2, c3, c4, c5⟩ := HSs.out w5 (by repeat (first | exact Ext.refl _ | exact RowKit.Hid.out (by assumption) | (refine Ext.trans ?_ (Ext.alloc _ _)) | (refine Ext.trans ?_ (RowKit.Hid.out (by assumption)))))
    go_wp2_with fail
    refine Calls.mono hcall ?_
    rintro e w6 hr
    obtain ⟨_, rfl, rfl, e6⟩ := ret_ext hr
    have X6 := Lib.hid e6
    clear hr hcall c0 c1 c2 c3 c4 c5
    unfold IntCode
    clear e6
    have hcall := CheapestDoorSpec_c w6 mks _ _ ts (HTs.out _ (by repeat (first | exact Ext.refl _ | exact RowKit.Hid.out (by assumption) | (refine Ext.trans ?_ (Ext.alloc _ _)) | (refine Ext.trans ?_ (RowKit.Hid.out (by assumption)))))) _ _ cutss (HCs.out _ (by repeat (first | exact Ext.refl _ | exact RowKit.Hid.out (by assumption) | (refine Ext.trans ?_ (Ext.alloc _ _)) | (refine Ext.trans ?_ (RowKit.Hid.out (by assumption)))))) 
    rw [hexc] at hcall
    unfold sysV at hcall
    obtain ⟨c0, c1, c2, c3, c4, c5⟩ := HSs.out w6 (by repeat (first | exact Ext.refl _ | exact RowKit.Hid.out (by assumption) | (refine Ext.trans ?_ (Ext.alloc _ _)) | (refine Ext.trans ?_ (RowKit.Hid.out (by assumption)))))
    go_wp2_with fail
    refine Calls.mono hcall ?_
    rintro e w7 hr
    obtain ⟨_, rfl, rfl, e7⟩ := ret_ext hr
    have X7 := Lib.hid e7
    clear hr hcall c0 c1 c2 c3 c4 c5
    unfold IntCode
    clear e7
    clear hexc
    have hcall := DrawThinDoors_c w7 v _ x (H.out _ (by repeat (first | exact Ext.refl _ | exact RowKit.Hid.out (by assumption) | (refine Ext.trans ?_ (Ext.alloc _ _)) | (refine Ext.trans ?_ (RowKit.Hid.out (by assumption))))))
    go_wp2_with fail
    refine Calls.mono hcall ?_
    rintro e w8 hr
    obtain ⟨_, rfl, ⟨mkx, vt, tx, vc, cutsx, leastx, rfl, -, ht, hc⟩, e8⟩ := ret_ext hr
    have X8 := Lib.hid e8
    clear hr hcall e8
    obtain ⟨txa, txn, txk, rfl, -⟩ := SliceR.shape ht
    obtain ⟨cxa, cxn, cxk, rfl, -⟩ := SliceR.shape hc
    have HTx := Lib.hid (fun (w' : World) (e : Ext w8 w') => stable_rows.ext ht e)
    have HCx := Lib.hid (fun (w' : World) (e : Ext w8 w') => stable_rows.ext hc e)
    clear ht hc
    unfold sysV
    go_upto_region 9 with fail
    generalize hw9 : World.alloc w8 _ = w9
    obtain ⟨e9, S9⟩ := sys_box hw9
    obtain ⟨bxx, hbx⟩ : ∃ bxx, w8.heap.size = bxx := ⟨_, rfl⟩
    rw [hbx] at S9
    simp only [hbx]
    have HSx := Lib.hid (fun (w' : World) (e : Ext w9 w') => S9.ext e)
    have X9 := Lib.hid e9
    clear hw9 hbx S9 e9
    obtain ⟨⟨th, three⟩, hext⟩ : ∃ q, thinDoors mkx tx cutsx leastx = q := ⟨_, rfl⟩
    have hcall := ThinDoors_c w9 mkx _ _ tx (HTx.out _ (by repeat (first | exact Ext.refl _ | exact RowKit.Hid.out (by assumption) | (refine Ext.trans ?_ (Ext.alloc _ _)) | (refine Ext.trans ?_ (RowKit.Hid.out (by assumption)))))) _ _ cutsx (HCx.out _ (by repeat (first | exact Ext.refl _ | exact RowKit.Hid.out (by assumption) | (refine Ext.trans ?_ (Ext.alloc _ _)) | (refine Ext.trans ?_ (RowKit.Hid.out (by assumption)))))) leastx
    rw [hext] at hcall
    unfold sysV at hcall
    obtain ⟨c0, c1, c2, c3, c4, c5⟩ := HSx.out w9 (by repeat (first | exact Ext.refl _ | exact RowKit.Hid.out (by assumption) | (refine Ext.trans ?_ (Ext.alloc _ _)) | (refine Ext.trans ?_ (RowKit.Hid.out (by assumption)))))
    go_wp2_with fail
    refine Calls.mono hcall ?_
    rintro e w10 hr
    obtain ⟨_, rfl, ⟨u0, rfl, i0⟩, e10⟩ := ret_ext hr
    have X10 := Lib.hid e10
    clear hr hcall c0 c1 c2 c3 c4 c5
    simp only at i0
    obtain ⟨ita, itn, itk, rfl, hlt, -⟩ := SliceR.shape i0
    have Hlt := Lib.hid hlt
    have HIt := Lib.hid (fun (w' : World) (e : Ext w10 w') => stable_ints.ext i0 e)
    clear i0 hlt
    clear e10
    have hcall := ThinDoorsSpec_c w10 mkx _ _ tx (HTx.out _ (by repeat (first | exact Ext.refl _ | exact RowKit.Hid.out (by assumption) | (refine Ext.trans ?_ (Ext.alloc _ _)) | (refine Ext.trans ?_ (RowKit.Hid.out (by assumption)))))) _ _ cutsx (HCx.out _ (by repeat (first | exact Ext.refl _ | exact RowKit.Hid.out (by assumption) | (refine Ext.trans ?_ (Ext.alloc _ _)) | (refine Ext.trans ?_ (RowKit.Hid.out (by assumption)))))) leastx
    rw [hext] at hcall
    unfold sysV at hcall
    obtain ⟨c0, c1, c2, c3, c4, c5⟩ := HSx.out w10 (by repeat (first | exact Ext.refl _ | exact RowKit.Hid.out (by assumption) | (refine Ext.trans ?_ (Ext.alloc _ _)) | (refine Ext.trans ?_ (RowKit.Hid.out (by assumption)))))
    go_wp2_with fail
    refine Calls.mono hcall ?_
    rintro e w11 hr
    obtain ⟨_, rfl, ⟨u0, rfl, i0⟩, e11⟩ := ret_ext hr
    have X11 := Lib.hid e11
    clear hr hcall c0 c1 c2 c3 c4 c5
    simp only at i0
    obtain ⟨iua, iun, iuk, rfl, hlu, -⟩ := SliceR.shape i0
    have Hlu := Lib.hid hlu
    have HIu := Lib.hid (fun (w' : World) (e : Ext w11 w') => stable_ints.ext i0 e)
    clear i0 hlu
    clear e11
    clear hext
    have hcall := likeInts_c w11 _ _ _ _ h h (HIh.out _ (by repeat (first | exact Ext.refl _ | exact RowKit.Hid.out (by assumption) | (refine Ext.trans ?_ (Ext.alloc _ _)) | (refine Ext.trans ?_ (RowKit.Hid.out (by assumption)))))) (HIm.out _ (by repeat (first | exact Ext.refl _ | exact RowKit.Hid.out (by assumption) | (refine Ext.trans ?_ (Ext.alloc _ _)) | (refine Ext.trans ?_ (RowKit.Hid.out (by assumption))))))
    rw [show decide (h = h) = true by simp] at hcall
    go_wp2_with fail
    refine Calls.mono hcall ?_
    rintro e w12 hr
    obtain ⟨rfl, -, e12⟩ := retq_ext hr
    have X12 := Lib.hid e12
    clear hr hcall e12
    have hcall := likeInts_c w12 _ _ _ _ th th (HIt.out _ (by repeat (first | exact Ext.refl _ | exact RowKit.Hid.out (by assumption) | (refine Ext.trans ?_ (Ext.alloc _ _)) | (refine Ext.trans ?_ (RowKit.Hid.out (by assumption)))))) (HIu.out _ (by repeat (first | exact Ext.refl _ | exact RowKit.Hid.out (by assumption) | (refine Ext.trans ?_ (Ext.alloc _ _)) | (refine Ext.trans ?_ (RowKit.Hid.out (by assumption))))))
    rw [show decide (th = th) = true by simp] at hcall
    go_wp2_with fail
    refine Calls.mono hcall ?_
    rintro e w13 hr
    obtain ⟨rfl, -, e13⟩ := retq_ext hr
    have X13 := Lib.hid e13
    clear hr hcall e13
    clear HIt HIu HSx HTx HCx Hlt Hlu
    by_cases hbad : bad = 0
    · subst hbad
      obtain ⟨ls, gs, n, cn, rfl, hexl, hexg, hF⟩ := HF.out rfl
      have HD := Lib.hid hF
      clear HF hF
      have hcall := LocksOf_c w13 mks _ _ ts (HTs.out _ (by repeat (first | exact Ext.refl _ | exact RowKit.Hid.out (by assumption) | (refine Ext.trans ?_ (Ext.alloc _ _)) | (refine Ext.trans ?_ (RowKit.Hid.out (by assumption)))))) _ _ cutss (HCs.out _ (by repeat (first | exact Ext.refl _ | exact RowKit.Hid.out (by assumption) | (refine Ext.trans ?_ (Ext.alloc _ _)) | (refine Ext.trans ?_ (RowKit.Hid.out (by assumption)))))) 
      rw [hexl] at hcall
      unfold sysV at hcall
      obtain ⟨c0, c1, c2, c3, c4, c5⟩ := HSs.out w13 (by repeat (first | exact Ext.refl _ | exact RowKit.Hid.out (by assumption) | (refine Ext.trans ?_ (Ext.alloc _ _)) | (refine Ext.trans ?_ (RowKit.Hid.out (by assumption)))))
      go_wp2_with fail
      refine Calls.mono hcall ?_
      rintro e w14 hr
      obtain ⟨_, rfl, ⟨u0, rfl, i0⟩, e14⟩ := ret_ext hr
      have X14 := Lib.hid e14
      clear hr hcall c0 c1 c2 c3 c4 c5
      simp only at i0
      obtain ⟨ila, iln, ilk, rfl, hll, -⟩ := SliceR.shape i0
      have Hll := Lib.hid hll
      have HIl := Lib.hid (fun (w' : World) (e : Ext w14 w') => stable_locks.ext i0 e)
      clear i0 hll
      clear e14
      have hcall := LocksOfSpec_c w14 mks _ _ ts (HTs.out _ (by repeat (first | exact Ext.refl _ | exact RowKit.Hid.out (by assumption) | (refine Ext.trans ?_ (Ext.alloc _ _)) | (refine Ext.trans ?_ (RowKit.Hid.out (by assumption)))))) _ _ cutss (HCs.out _ (by repeat (first | exact Ext.refl _ | exact RowKit.Hid.out (by assumption) | (refine Ext.trans ?_ (Ext.alloc _ _)) | (refine Ext.trans ?_ (RowKit.Hid.out (by assumption)))))) 
      rw [hexl] at hcall
      unfold sysV at hcall
      obtain ⟨c0, c1, c2, c3, c4, c5⟩ := HSs.out w14 (by repeat (first | exact Ext.refl _ | exact RowKit.Hid.out (by assumption) | (refine Ext.trans ?_ (Ext.alloc _ _)) | (refine Ext.trans ?_ (RowKit.Hid.out (by assumption)))))
      go_wp2_with fail
      refine Calls.mono hcall ?_
      rintro e w15 hr
      obtain ⟨_, rfl, ⟨u0, rfl, i0⟩, e15⟩ := ret_ext hr
      have X15 := Lib.hid e15
      clear hr hcall c0 c1 c2 c3 c4 c5
      simp only at i0
      obtain ⟨ika, ikn, ikk, rfl, hlk, -⟩ := SliceR.shape i0
      have Hlk := Lib.hid hlk
      have HIk := Lib.hid (fun (w' : World) (e : Ext w15 w') => stable_locks.ext i0 e)
      clear i0 hlk
      clear e15
      clear hexl
      have hcall := likeOwnLock_c w15 _ _ _ _ ls (HIl.out _ (by repeat (first | exact Ext.refl _ | exact RowKit.Hid.out (by assumption) | (refine Ext.trans ?_ (Ext.alloc _ _)) | (refine Ext.trans ?_ (RowKit.Hid.out (by assumption)))))) (HIk.out _ (by repeat (first | exact Ext.refl _ | exact RowKit.Hid.out (by assumption) | (refine Ext.trans ?_ (Ext.alloc _ _)) | (refine Ext.trans ?_ (RowKit.Hid.out (by assumption))))))
      go_wp2_with fail
      refine Calls.mono hcall ?_
      rintro e w16 hr
      obtain ⟨rfl, -, e16⟩ := retq_ext hr
      have X16 := Lib.hid e16
      clear hr hcall e16 HIk Hlk
      have hsz2 : w2.heap.size ≤ w16.heap.size := Ext.size (w := w2) (by repeat (first | exact Ext.refl _ | exact RowKit.Hid.out (by assumption) | (refine Ext.trans ?_ (Ext.alloc _ _)) | (refine Ext.trans ?_ (RowKit.Hid.out (by assumption)))))
      have hcall := GhostTable_c w16 mks _ _ ts (HTs.out _ (by repeat (first | exact Ext.refl _ | exact RowKit.Hid.out (by assumption) | (refine Ext.trans ?_ (Ext.alloc _ _)) | (refine Ext.trans ?_ (RowKit.Hid.out (by assumption)))))) _ _ cutss (HCs.out _ (by repeat (first | exact Ext.refl _ | exact RowKit.Hid.out (by assumption) | (refine Ext.trans ?_ (Ext.alloc _ _)) | (refine Ext.trans ?_ (RowKit.Hid.out (by assumption)))))) hsz2
      rw [hexg] at hcall
      unfold sysV at hcall
      obtain ⟨c0, c1, c2, c3, c4, c5⟩ := HSs.out w16 (by repeat (first | exact Ext.refl _ | exact RowKit.Hid.out (by assumption) | (refine Ext.trans ?_ (Ext.alloc _ _)) | (refine Ext.trans ?_ (RowKit.Hid.out (by assumption)))))
      go_wp2_with fail
      refine Calls.mono hcall ?_
      rintro e w17 hr
      obtain ⟨_, rfl, ⟨u0, rfl, i0⟩, e17⟩ := ret_ext hr
      have X17 := Lib.hid e17
      clear hr hcall c0 c1 c2 c3 c4 c5
      simp only at i0
      obtain ⟨iga, ign, igk, rfl, hlg, -⟩ := SliceR.shape i0
      have Hlg := Lib.hid hlg
      have HIg := Lib.hid (fun (w' : World) (e : Ext w17 w') => stable_ints.ext i0 e)
      clear i0 hlg
      clear e17
      clear hsz2
      have hcall := GhostTableSpec_c w17 mks _ _ ts (HTs.out _ (by repeat (first | exact Ext.refl _ | exact RowKit.Hid.out (by assumption) | (refine Ext.trans ?_ (Ext.alloc _ _)) | (refine Ext.trans ?_ (RowKit.Hid.out (by assumption)))))) _ _ cutss (HCs.out _ (by repeat (first | exact Ext.refl _ | exact RowKit.Hid.out (by assumption) | (refine Ext.trans ?_ (Ext.alloc _ _)) | (refine Ext.trans ?_ (RowKit.Hid.out (by assumption)))))) 
      rw [hexg] at hcall
      unfold sysV at hcall
      obtain ⟨c0, c1, c2, c3, c4, c5⟩ := HSs.out w17 (by repeat (first | exact Ext.refl _ | exact RowKit.Hid.out (by assumption) | (refine Ext.trans ?_ (Ext.alloc _ _)) | (refine Ext.trans ?_ (RowKit.Hid.out (by assumption)))))
      go_wp2_with fail
      refine Calls.mono hcall ?_
      rintro e w18 hr
      obtain ⟨_, rfl, ⟨u0, rfl, i0⟩, e18⟩ := ret_ext hr
      have X18 := Lib.hid e18
      clear hr hcall c0 c1 c2 c3 c4 c5
      simp only at i0
      obtain ⟨iqa, iqn, iqk, rfl, hlq, -⟩ := SliceR.shape i0
      have Hlq := Lib.hid hlq
      have HIq := Lib.hid (fun (w' : World) (e : Ext w18 w') => stable_ints.ext i0 e)
      clear i0 hlq
      clear e18
      clear hexg
      have hcall := likeInts_c w18 _ _ _ _ gs gs (HIg.out _ (by repeat (first | exact Ext.refl _ | exact RowKit.Hid.out (by assumption) | (refine Ext.trans ?_ (Ext.alloc _ _)) | (refine Ext.trans ?_ (RowKit.Hid.out (by assumption)))))) (HIq.out _ (by repeat (first | exact Ext.refl _ | exact RowKit.Hid.out (by assumption) | (refine Ext.trans ?_ (Ext.alloc _ _)) | (refine Ext.trans ?_ (RowKit.Hid.out (by assumption))))))
      rw [show decide (gs = gs) = true by simp] at hcall
      go_wp2_with fail
      refine Calls.mono hcall ?_
      rintro e w19 hr
      obtain ⟨rfl, -, e19⟩ := retq_ext hr
      have X19 := Lib.hid e19
      clear hr hcall e19
      obtain rfl : ihn = n := Hlh.out.trans HD.out.hl
      obtain rfl : iln = ihn := Hll.out.trans HD.out.ll
      obtain rfl : ign = iln := Hlg.out.trans HD.out.gl
      obtain rfl : imn = ign := Hlm.out.trans HD.out.hl
      have hn12 := HD.out.n12
      have hcl := HD.out.clt
      have HSs2 := Lib.hid (fun (w' : World) (e : Ext w19 w') => HSs.out w' (Ext.trans (by repeat (first | exact Ext.refl _ | exact RowKit.Hid.out (by assumption) | (refine Ext.trans ?_ (Ext.alloc _ _)) | (refine Ext.trans ?_ (RowKit.Hid.out (by assumption))))) e))
      have HL2 := Lib.hid (HIl.out w19 (by repeat (first | exact Ext.refl _ | exact RowKit.Hid.out (by assumption) | (refine Ext.trans ?_ (Ext.alloc _ _)) | (refine Ext.trans ?_ (RowKit.Hid.out (by assumption))))))
      have HM2 := Lib.hid (HIm.out w19 (by repeat (first | exact Ext.refl _ | exact RowKit.Hid.out (by assumption) | (refine Ext.trans ?_ (Ext.alloc _ _)) | (refine Ext.trans ?_ (RowKit.Hid.out (by assumption))))))
      have HG2 := Lib.hid (HIg.out w19 (by repeat (first | exact Ext.refl _ | exact RowKit.Hid.out (by assumption) | (refine Ext.trans ?_ (Ext.alloc _ _)) | (refine Ext.trans ?_ (RowKit.Hid.out (by assumption))))))
      have Xw : Hid (Ext w w19) := Lib.hid (by repeat (first | exact Ext.refl _ | exact RowKit.Hid.out (by assumption) | (refine Ext.trans ?_ (Ext.alloc _ _)) | (refine Ext.trans ?_ (RowKit.Hid.out (by assumption)))))
      have HCW := Lib.hid (fun (k : Nat) (hk : k < imn) (w' : World) (u : Value) (z : Zone) (g : RowsR z w' u (ls.getD k [])) => CountWafers_c w' mks u z (ls.getD k []) g (HD.out.lock k hk).1 (HD.out.lock k hk).2)
      unfold MK.v at HCW
      unfold IntCode at HCW
      simp only at HCW
      clear HIl HIm HIg HIh HIq HSs HTs HCs Hlh Hll Hlg Hlm Hlq H
      try clear X1
      try clear X2
      try clear X3
      try clear X4
      try clear X5
      try clear X6
      try clear X7
      try clear X8
      try clear X9
      try clear X10
      try clear X11
      try clear X12
      try clear X13
      try clear X14
      try clear X15
      try clear X16
      try clear X17
      try clear X18
      try clear X19
      obtain ⟨bl, ol, rfl, a3, n3, k3, -, hc3, y3, -, hy3⟩ := locks_at HL2.out hcl
      have HCo := Lib.hid (fun (w' : World) (e : Ext w19 w') => HCW.out cn hcl w' _ _ (hy3 w' e))
      have HCel : Hid (∀ w', Ext w19 w' → (w'.cell? ⟨bxs, 0, none⟩ = some (.int .i64 mks.c) ∧ w'.cell? ⟨bxs, 1, none⟩ = some (.int .i64 mks.d) ∧ w'.cell? ⟨bxs, 2, none⟩ = some (.int .i64 mks.s) ∧ w'.cell? ⟨bxs, 3, none⟩ = some (.int .i64 mks.m) ∧ w'.cell? ⟨bxs, 4, none⟩ = some (.int .i64 mks.l)) ∧ w'.cell? ⟨bl, ol + cn, none⟩ = some (.slice a3 n3 k3)) := fun w' e => by
        have q := HSs2.out w' e
        exact ⟨⟨q.c0, q.c1, q.c2, q.c3, q.c4⟩, hc3 w' e⟩
      clear hc3 hy3
      obtain ⟨own, hown⟩ : ∃ own, wafersB (ls.getD cn []) = own := ⟨_, rfl⟩
      rw [hown] at HCo
      have HOwn := Lib.hid hown
      clear hown
      go_upto_region 25 with fail
      go_wp2_with fail
      refine wp_region_noPanic ?_
      refine wp_region_held_drew (S := (fun w' => (w'.cell? ⟨bxs, 0, none⟩ = some (.int .i64 mks.c) ∧ w'.cell? ⟨bxs, 1, none⟩ = some (.int .i64 mks.d) ∧ w'.cell? ⟨bxs, 2, none⟩ = some (.int .i64 mks.s) ∧ w'.cell? ⟨bxs, 3, none⟩ = some (.int .i64 mks.m) ∧ w'.cell? ⟨bxs, 4, none⟩ = some (.int .i64 mks.l)) ∧ w'.cell? ⟨bl, ol + cn, none⟩ = some (.slice a3 n3 k3))) (by kernel_rfl) (HCel.out _ (Ext.drew _)) (fun hHeld => ?_)
      (refine take_at 0 179 (v := ?_) rfl rfl (by kernel_rfl) (by kernel_rfl) (by kernel_rfl) (fun _ _ _ h => h) (by rfl) ?_ (by assumption) ?_; rotate_left; focus (intro w999 hSw; (try dsimp only at hSw); go_simp <;> with_reducible rfl); (try simp only [Act.put, List.setIfInBounds_toArray, List.set_cons_zero, List.set_cons_succ]))
      (refine take_at 1 180 (v := ?_) rfl rfl (by kernel_rfl) (by kernel_rfl) (by kernel_rfl) (fun _ _ _ h => h) (by rfl) ?_ (by assumption) ?_; rotate_left; focus (intro w999 hSw; (try dsimp only at hSw); go_simp <;> with_reducible rfl); (try simp only [Act.put, List.setIfInBounds_toArray, List.set_cons_zero, List.set_cons_succ]))
      (refine take_at 2 181 (v := ?_) rfl rfl (by kernel_rfl) (by kernel_rfl) (by kernel_rfl) (fun _ _ _ h => h) (by rfl) ?_ (by assumption) ?_; rotate_left; focus (intro w999 hSw; (try dsimp only at hSw); go_simp <;> with_reducible rfl); (try simp only [Act.put, List.setIfInBounds_toArray, List.set_cons_zero, List.set_cons_succ]))
      (refine take_at 3 182 (v := ?_) rfl rfl (by kernel_rfl) (by kernel_rfl) (by kernel_rfl) (fun _ _ _ h => h) (by rfl) ?_ (by assumption) ?_; rotate_left; focus (intro w999 hSw; (try dsimp only at hSw); go_simp <;> with_reducible rfl); (try simp only [Act.put, List.setIfInBounds_toArray, List.set_cons_zero, List.set_cons_succ]))
      (refine take_at 4 183 (v := ?_) rfl rfl (by kernel_rfl) (by kernel_rfl) (by kernel_rfl) (fun _ _ _ h => h) (by rfl) ?_ (by assumption) ?_; rotate_left; focus (intro w999 hSw; (try dsimp only at hSw); go_simp <;> with_reducible rfl); (try simp only [Act.put, List.setIfInBounds_toArray, List.set_cons_zero, List.set_cons_succ]))
      (refine take_at 5 184 (v := ?_) rfl rfl (by kernel_rfl) (by kernel_rfl) (by kernel_rfl) (fun _ _ _ h => h) (by rfl) ?_ (by assumption) ?_; rotate_left; focus (intro w999 hSw; (try dsimp only at hSw); go_simp <;> with_reducible rfl); (try simp only [Act.put, List.setIfInBounds_toArray, List.set_cons_zero, List.set_cons_succ]))
      (refine wpAnyH_ready (rs := [6]) (by kernel_rfl) (by simp) ?_; refine AllReadyH.cons rfl (fun K hK => ?_) AllReadyH.nil; go_simp)
      refine (HCo.out _ (Ext.drew _)).mono ?_
      rintro e w20 hr
      obtain ⟨_, rfl, rfl, eM⟩ := ret_ext hr
      have eLM : Ext w19 w20 := (Ext.drew _).trans eM
      clear hr
      (refine hK.out _ _ ?_ (fun hHeld => ?_))
      · exact HCel.out _ eLM
      (clear hK K; try simp only [Act.put, List.setIfInBounds_toArray, List.set_cons_zero, List.set_cons_succ])
      (refine take_at 7 178 (v := ?_) rfl rfl (by kernel_rfl) (by kernel_rfl) (by kernel_rfl) (fun _ _ _ h => h) (by rfl) ?_ (by assumption) ?_; rotate_left; focus (intro w999 hSw; (try dsimp only at hSw); go_simp <;> with_reducible rfl); (try simp only [Act.put, List.setIfInBounds_toArray, List.set_cons_zero, List.set_cons_succ]))
      (refine take_at 8 186 (v := ?_) rfl rfl (by kernel_rfl) (by kernel_rfl) (by kernel_rfl) (fun _ _ _ h => h) (by rfl) ?_ (by assumption) ?_; rotate_left; focus (intro w999 hSw; (try dsimp only at hSw); go_simp <;> with_reducible rfl); (try simp only [Act.put, List.setIfInBounds_toArray, List.set_cons_zero, List.set_cons_succ]))
      (refine take_at 9 187 (v := ?_) rfl rfl (by kernel_rfl) (by kernel_rfl) (by kernel_rfl) (fun _ _ _ h => h) (by rfl) ?_ (by assumption) ?_; rotate_left; focus (intro w999 hSw; (try dsimp only at hSw); go_simp <;> with_reducible rfl); (try simp only [Act.put, List.setIfInBounds_toArray, List.set_cons_zero, List.set_cons_succ]))
      (refine take_at 10 28 (v := ?_) rfl rfl (by kernel_rfl) (by kernel_rfl) (by kernel_rfl) (fun _ _ _ h => h) (by rfl) ?_ (by assumption) ?_; rotate_left; focus (intro w999 hSw; (try dsimp only at hSw); go_simp <;> with_reducible rfl); (try simp only [Act.put, List.setIfInBounds_toArray, List.set_cons_zero, List.set_cons_succ]))
      (refine take_at 11 29 (v := ?_) rfl rfl (by kernel_rfl) (by kernel_rfl) (by kernel_rfl) (fun _ _ _ h => h) (by rfl) ?_ (by assumption) ?_; rotate_left; focus (intro w999 hSw; (try dsimp only at hSw); go_simp <;> with_reducible rfl); (try simp only [Act.put, List.setIfInBounds_toArray, List.set_cons_zero, List.set_cons_succ]))
      refine wpAnyH_done (by kernel_rfl) ?_ _
      refine NoPanic.normal ?_
      clear HCo HCel eM
      have XM := Lib.hid eLM
      clear eLM
      go_wp2_with fail
      go_loopw [30, 31, 32] (fun s30 _ _ wr => ∃ k : Nat, k ≤ imn ∧ s30 = .int .i64 k ∧ Ext w20 wr) (fun s30 _ _ _ => imn - (intOf s30).toNat)
      case atStart => exact ⟨0, Nat.zero_le _, rfl, Ext.refl _⟩
      case round =>
        obtain ⟨k, hk, rfl, er⟩ := hrel
        have Er := Lib.hid (XM.out.trans er)
        have Er2 := Lib.hid er
        clear er
        by_cases hlt : k < imn
        · obtain ⟨m, hm, hhm, hlm, hgm⟩ := HD.out.same k hlt
          have hle := HD.out.least k hlt
          rw [HOwn.out] at hle
          obtain ⟨bl2, ol2, hel2, a4, n4, k4, -, hc4, y4, -, hy4⟩ := locks_at HL2.out hlt
          obtain ⟨bl3, ol3, hel3, a5, n5, k5, -, hc5, y5, -, hy5⟩ := locks_at HL2.out hm
          injection hel2 with hel2; injection hel2 with q1 q2 _
          subst q1; subst q2
          injection hel3 with hel3; injection hel3 with q1 q2 _
          subst q1; subst q2
          obtain ⟨bm, om, hma, hcm⟩ := IntsR.at HM2.out hlt
          obtain ⟨bg, og, hga, hcg⟩ := IntsR.at HG2.out hlt
          obtain ⟨bg2, og2, hga2, hcg2⟩ := IntsR.at HG2.out hm
          subst hma
          subst hga
          injection hga2 with hga2; injection hga2 with q1 q2 _
          subst q1; subst q2
          rw [hhm] at hcm
          rw [← hgm] at hcg2
          have HCo := Lib.hid (fun (w' : World) (e : Ext w19 w') => HCW.out k hlt w' _ _ (hy4 w' e))
          have HLk := Lib.hid (fun (w' : World) (e : Ext w19 w') => likeLocks_c w' _ _ _ _ _ _ (hy4 w' e) (hy5 w' e))
          rw [← hlm, show decide (ls.getD k [] = ls.getD k []) = true by simp] at HLk
          have HCel : Hid (∀ w', Ext w19 w' → (w'.cell? ⟨bxs, 0, none⟩ = some (.int .i64 mks.c) ∧ w'.cell? ⟨bxs, 1, none⟩ = some (.int .i64 mks.d) ∧ w'.cell? ⟨bxs, 2, none⟩ = some (.int .i64 mks.s) ∧ w'.cell? ⟨bxs, 3, none⟩ = some (.int .i64 mks.m) ∧ w'.cell? ⟨bxs, 4, none⟩ = some (.int .i64 mks.l)) ∧ w'.cell? ⟨bl, ol + k, none⟩ = some (.slice a4 n4 k4)) := fun w' e => by
            have q := HSs2.out w' e
            exact ⟨⟨q.c0, q.c1, q.c2, q.c3, q.c4⟩, hc4 w' e⟩
          generalize gs.getD k 0 = gk at *
          have HCe2 : Hid (∀ w', Ext w19 w' → w'.cell? ⟨bl, ol + k, none⟩ = some (.slice a4 n4 k4) ∧ w'.cell? ⟨bl, ol + m, none⟩ = some (.slice a5 n5 k5) ∧ w'.cell? ⟨bm, om + k, none⟩ = some (.int .i64 m) ∧ w'.cell? ⟨bg, og + k, none⟩ = some (.int .i64 gk) ∧ w'.cell? ⟨bg, og + m, none⟩ = some (.int .i64 gk)) := fun w' e => ⟨hc4 w' e, hc5 w' e, hcm w' e, hcg w' e, hcg2 w' e⟩
          generalize wafersB (ls.getD k []) = wk at *
          have hnl : ¬ (wk < own) := by omega
          have hnb : decide (wk < own) = false := decide_eq_false hnl
          clear hc4 hc5 hcm hcg hcg2 hy4 hy5 hhm hlm hgm hle
          go_upto_region 29 with fail
          go_wp2_with fail
          refine wp_region_noPanic ?_
          refine wp_region_held_drew (S := (fun w' => (w'.cell? ⟨bxs, 0, none⟩ = some (.int .i64 mks.c) ∧ w'.cell? ⟨bxs, 1, none⟩ = some (.int .i64 mks.d) ∧ w'.cell? ⟨bxs, 2, none⟩ = some (.int .i64 mks.s) ∧ w'.cell? ⟨bxs, 3, none⟩ = some (.int .i64 mks.m) ∧ w'.cell? ⟨bxs, 4, none⟩ = some (.int .i64 mks.l)) ∧ w'.cell? ⟨bl, ol + k, none⟩ = some (.slice a4 n4 k4))) (by kernel_rfl) (HCel.out _ (Er.out.trans (Ext.drew _))) (fun hHeld => ?_)
          (refine take_at 0 195 (v := ?_) rfl rfl (by kernel_rfl) (by kernel_rfl) (by kernel_rfl) (fun _ _ _ h => h) (by rfl) ?_ (by assumption) ?_; rotate_left; focus (intro w999 hSw; (try dsimp only at hSw); go_simp <;> with_reducible rfl); (try simp only [Act.put, List.setIfInBounds_toArray, List.set_cons_zero, List.set_cons_succ]))
          (refine take_at 1 196 (v := ?_) rfl rfl (by kernel_rfl) (by kernel_rfl) (by kernel_rfl) (fun _ _ _ h => h) (by rfl) ?_ (by assumption) ?_; rotate_left; focus (intro w999 hSw; (try dsimp only at hSw); go_simp <;> with_reducible rfl); (try simp only [Act.put, List.setIfInBounds_toArray, List.set_cons_zero, List.set_cons_succ]))
          (refine take_at 2 197 (v := ?_) rfl rfl (by kernel_rfl) (by kernel_rfl) (by kernel_rfl) (fun _ _ _ h => h) (by rfl) ?_ (by assumption) ?_; rotate_left; focus (intro w999 hSw; (try dsimp only at hSw); go_simp <;> with_reducible rfl); (try simp only [Act.put, List.setIfInBounds_toArray, List.set_cons_zero, List.set_cons_succ]))
          (refine take_at 3 198 (v := ?_) rfl rfl (by kernel_rfl) (by kernel_rfl) (by kernel_rfl) (fun _ _ _ h => h) (by rfl) ?_ (by assumption) ?_; rotate_left; focus (intro w999 hSw; (try dsimp only at hSw); go_simp <;> with_reducible rfl); (try simp only [Act.put, List.setIfInBounds_toArray, List.set_cons_zero, List.set_cons_succ]))
          (refine take_at 4 199 (v := ?_) rfl rfl (by kernel_rfl) (by kernel_rfl) (by kernel_rfl) (fun _ _ _ h => h) (by rfl) ?_ (by assumption) ?_; rotate_left; focus (intro w999 hSw; (try dsimp only at hSw); go_simp <;> with_reducible rfl); (try simp only [Act.put, List.setIfInBounds_toArray, List.set_cons_zero, List.set_cons_succ]))
          (refine take_at 5 200 (v := ?_) rfl rfl (by kernel_rfl) (by kernel_rfl) (by kernel_rfl) (fun _ _ _ h => h) (by rfl) ?_ (by assumption) ?_; rotate_left; focus (intro w999 hSw; (try dsimp only at hSw); go_simp <;> with_reducible rfl); (try simp only [Act.put, List.setIfInBounds_toArray, List.set_cons_zero, List.set_cons_succ]))
          (refine wpAnyH_ready (rs := [6]) (by kernel_rfl) (by simp) ?_; refine AllReadyH.cons rfl (fun K hK => ?_) AllReadyH.nil; go_simp)
          refine (HCo.out _ (Er.out.trans (Ext.drew _))).mono ?_
          rintro e wa hr
          obtain ⟨_, rfl, rfl, ea⟩ := ret_ext hr
          have era : Ext wr wa := (Ext.drew _).trans ea
          clear hr
          (refine hK.out _ _ ?_ (fun hHeld => ?_))
          · exact HCel.out _ (Er.out.trans era)
          (clear hK K; try simp only [Act.put, List.setIfInBounds_toArray, List.set_cons_zero, List.set_cons_succ])
          (refine take_at 7 194 (v := ?_) rfl rfl (by kernel_rfl) (by kernel_rfl) (by kernel_rfl) (fun _ _ _ h => h) (by rfl) ?_ (by assumption) ?_; rotate_left; focus (intro w999 hSw; (try dsimp only at hSw); go_simp <;> with_reducible rfl); (try simp only [Act.put, List.setIfInBounds_toArray, List.set_cons_zero, List.set_cons_succ]))
          (refine take_at 8 202 (v := ?_) rfl rfl (by kernel_rfl) (by kernel_rfl) (by kernel_rfl) (fun _ _ _ h => h) (by rfl) ?_ (by assumption) ?_; rotate_left; focus (intro w999 hSw; (try dsimp only at hSw); go_simp <;> with_reducible rfl); (try simp only [Act.put, List.setIfInBounds_toArray, List.set_cons_zero, List.set_cons_succ]))
          (refine take_at 9 203 (v := ?_) rfl rfl (by kernel_rfl) (by kernel_rfl) (by kernel_rfl) (fun _ _ _ h => h) (by rfl) ?_ (by assumption) ?_; rotate_left; focus (intro w999 hSw; (try dsimp only at hSw); go_simp <;> with_reducible rfl); (try simp only [Act.put, List.setIfInBounds_toArray, List.set_cons_zero, List.set_cons_succ]))
          (refine take_at 10 31 (v := ?_) rfl rfl (by kernel_rfl) (by kernel_rfl) (by kernel_rfl) (fun _ _ _ h => h) (by rfl) ?_ (by assumption) ?_; rotate_left; focus (intro w999 hSw; (try dsimp only at hSw); go_simp <;> with_reducible rfl); (try simp only [Act.put, List.setIfInBounds_toArray, List.set_cons_zero, List.set_cons_succ]))
          (refine take_at 11 32 (v := ?_) rfl rfl (by kernel_rfl) (by kernel_rfl) (by kernel_rfl) (fun _ _ _ h => h) (by rfl) ?_ (by assumption) ?_; rotate_left; focus (intro w999 hSw; (try dsimp only at hSw); go_simp <;> with_reducible rfl); (try simp only [Act.put, List.setIfInBounds_toArray, List.set_cons_zero, List.set_cons_succ]))
          refine wpAnyH_done (by kernel_rfl) ?_ _
          refine NoPanic.normal ?_
          have Ea := Lib.hid (Er.out.trans era)
          have Era := Lib.hid era
          clear HCo HCel ea era
          go_upto_region 30 with fail
          go_wp2_with fail
          refine wp_region_noPanic ?_
          refine wp_region_held_drew (S := (fun w' => w'.cell? ⟨bl, ol + k, none⟩ = some (.slice a4 n4 k4) ∧ w'.cell? ⟨bl, ol + m, none⟩ = some (.slice a5 n5 k5) ∧ w'.cell? ⟨bm, om + k, none⟩ = some (.int .i64 m) ∧ w'.cell? ⟨bg, og + k, none⟩ = some (.int .i64 gk) ∧ w'.cell? ⟨bg, og + m, none⟩ = some (.int .i64 gk))) (by kernel_rfl) (HCe2.out _ (Ea.out.trans (Ext.drew _))) (fun hHeld => ?_)
          (refine take_at 0 204 (v := ?_) rfl rfl (by kernel_rfl) (by kernel_rfl) (by kernel_rfl) (fun _ _ _ h => h) (by kernel_rfl) ?_ (by assumption) ?_; rotate_left; focus (intro w999 hSw; (try dsimp only at hSw); go_simp <;> with_reducible rfl); (try simp only [Act.put, List.setIfInBounds_toArray, List.set_cons_zero, List.set_cons_succ]))
          (refine take_at 1 205 (v := ?_) rfl rfl (by kernel_rfl) (by kernel_rfl) (by kernel_rfl) (fun _ _ _ h => h) (by kernel_rfl) ?_ (by assumption) ?_; rotate_left; focus (intro w999 hSw; (try dsimp only at hSw); go_simp <;> with_reducible rfl); (try simp only [Act.put, List.setIfInBounds_toArray, List.set_cons_zero, List.set_cons_succ]))
          (refine take_at 2 206 (v := ?_) rfl rfl (by kernel_rfl) (by kernel_rfl) (by kernel_rfl) (fun _ _ _ h => h) (by kernel_rfl) ?_ (by assumption) ?_; rotate_left; focus (intro w999 hSw; (try dsimp only at hSw); go_simp <;> with_reducible rfl); (try simp only [Act.put, List.setIfInBounds_toArray, List.set_cons_zero, List.set_cons_succ]))
          (refine take_at 3 207 (v := ?_) rfl rfl (by kernel_rfl) (by kernel_rfl) (by kernel_rfl) (fun _ _ _ h => h) (by kernel_rfl) ?_ (by assumption) ?_; rotate_left; focus (intro w999 hSw; (try dsimp only at hSw); go_simp <;> with_reducible rfl); (try simp only [Act.put, List.setIfInBounds_toArray, List.set_cons_zero, List.set_cons_succ]))
          (refine take_at 4 208 (v := ?_) rfl rfl (by kernel_rfl) (by kernel_rfl) (by kernel_rfl) (fun _ _ _ h => h) (by kernel_rfl) ?_ (by assumption) ?_; rotate_left; focus (intro w999 hSw; (try dsimp only at hSw); go_simp <;> with_reducible rfl); (try simp only [Act.put, List.setIfInBounds_toArray, List.set_cons_zero, List.set_cons_succ]))
          (refine take_at 5 209 (v := ?_) rfl rfl (by kernel_rfl) (by kernel_rfl) (by kernel_rfl) (fun _ _ _ h => h) (by kernel_rfl) ?_ (by assumption) ?_; rotate_left; focus (intro w999 hSw; (try dsimp only at hSw); go_simp <;> with_reducible rfl); (try simp only [Act.put, List.setIfInBounds_toArray, List.set_cons_zero, List.set_cons_succ]))
          (refine take_at 6 210 (v := ?_) rfl rfl (by kernel_rfl) (by kernel_rfl) (by kernel_rfl) (fun _ _ _ h => h) (by kernel_rfl) ?_ (by assumption) ?_; rotate_left; focus (intro w999 hSw; (try dsimp only at hSw); go_simp <;> with_reducible rfl); (try simp only [Act.put, List.setIfInBounds_toArray, List.set_cons_zero, List.set_cons_succ]))
          (refine take_at 7 211 (v := ?_) rfl rfl (by kernel_rfl) (by kernel_rfl) (by kernel_rfl) (fun _ _ _ h => h) (by kernel_rfl) ?_ (by assumption) ?_; rotate_left; focus (intro w999 hSw; (try dsimp only at hSw); go_simp <;> with_reducible rfl); (try simp only [Act.put, List.setIfInBounds_toArray, List.set_cons_zero, List.set_cons_succ]))
          (refine take_at 8 212 (v := ?_) rfl rfl (by kernel_rfl) (by kernel_rfl) (by kernel_rfl) (fun _ _ _ h => h) (by kernel_rfl) ?_ (by assumption) ?_; rotate_left; focus (intro w999 hSw; (try dsimp only at hSw); go_simp <;> with_reducible rfl); (try simp only [Act.put, List.setIfInBounds_toArray, List.set_cons_zero, List.set_cons_succ]))
          (refine take_at 9 213 (v := ?_) rfl rfl (by kernel_rfl) (by kernel_rfl) (by kernel_rfl) (fun _ _ _ h => h) (by kernel_rfl) ?_ (by assumption) ?_; rotate_left; focus (intro w999 hSw; (try dsimp only at hSw); go_simp <;> with_reducible rfl); (try simp only [Act.put, List.setIfInBounds_toArray, List.set_cons_zero, List.set_cons_succ]))
          (refine take_at 10 214 (v := ?_) rfl rfl (by kernel_rfl) (by kernel_rfl) (by kernel_rfl) (fun _ _ _ h => h) (by kernel_rfl) ?_ (by assumption) ?_; rotate_left; focus (intro w999 hSw; (try dsimp only at hSw); go_simp <;> with_reducible rfl); (try simp only [Act.put, List.setIfInBounds_toArray, List.set_cons_zero, List.set_cons_succ]))
          (refine take_at 11 215 (v := ?_) rfl rfl (by kernel_rfl) (by kernel_rfl) (by kernel_rfl) (fun _ _ _ h => h) (by kernel_rfl) ?_ (by assumption) ?_; rotate_left; focus (intro w999 hSw; (try dsimp only at hSw); go_simp <;> with_reducible rfl); (try simp only [Act.put, List.setIfInBounds_toArray, List.set_cons_zero, List.set_cons_succ]))
          (refine take_at 12 216 (v := ?_) rfl rfl (by kernel_rfl) (by kernel_rfl) (by kernel_rfl) (fun _ _ _ h => h) (by kernel_rfl) ?_ (by assumption) ?_; rotate_left; focus (intro w999 hSw; (try dsimp only at hSw); go_simp <;> with_reducible rfl); (try simp only [Act.put, List.setIfInBounds_toArray, List.set_cons_zero, List.set_cons_succ]))
          (refine take_at 13 217 (v := ?_) rfl rfl (by kernel_rfl) (by kernel_rfl) (by kernel_rfl) (fun _ _ _ h => h) (by kernel_rfl) ?_ (by assumption) ?_; rotate_left; focus (intro w999 hSw; (try dsimp only at hSw); go_simp <;> with_reducible rfl); (try simp only [Act.put, List.setIfInBounds_toArray, List.set_cons_zero, List.set_cons_succ]))
          (refine take_at 14 218 (v := ?_) rfl rfl (by kernel_rfl) (by kernel_rfl) (by kernel_rfl) (fun _ _ _ h => h) (by kernel_rfl) ?_ (by assumption) ?_; rotate_left; focus (intro w999 hSw; (try dsimp only at hSw); go_simp <;> with_reducible rfl); (try simp only [Act.put, List.setIfInBounds_toArray, List.set_cons_zero, List.set_cons_succ]))
          (refine take_at 15 219 (v := ?_) rfl rfl (by kernel_rfl) (by kernel_rfl) (by kernel_rfl) (fun _ _ _ h => h) (by kernel_rfl) ?_ (by assumption) ?_; rotate_left; focus (intro w999 hSw; (try dsimp only at hSw); go_simp <;> with_reducible rfl); (try simp only [Act.put, List.setIfInBounds_toArray, List.set_cons_zero, List.set_cons_succ]))
          (refine take_at 16 220 (v := ?_) rfl rfl (by kernel_rfl) (by kernel_rfl) (by kernel_rfl) (fun _ _ _ h => h) (by kernel_rfl) ?_ (by assumption) ?_; rotate_left; focus (intro w999 hSw; (try dsimp only at hSw); go_simp <;> with_reducible rfl); (try simp only [Act.put, List.setIfInBounds_toArray, List.set_cons_zero, List.set_cons_succ]))
          (refine take_at 17 221 (v := ?_) rfl rfl (by kernel_rfl) (by kernel_rfl) (by kernel_rfl) (fun _ _ _ h => h) (by kernel_rfl) ?_ (by assumption) ?_; rotate_left; focus (intro w999 hSw; (try dsimp only at hSw); go_simp <;> with_reducible rfl); (try simp only [Act.put, List.setIfInBounds_toArray, List.set_cons_zero, List.set_cons_succ]))
          (refine take_at 18 222 (v := ?_) rfl rfl (by kernel_rfl) (by kernel_rfl) (by kernel_rfl) (fun _ _ _ h => h) (by kernel_rfl) ?_ (by assumption) ?_; rotate_left; focus (intro w999 hSw; (try dsimp only at hSw); go_simp <;> with_reducible rfl); (try simp only [Act.put, List.setIfInBounds_toArray, List.set_cons_zero, List.set_cons_succ]))
          (refine take_at 19 223 (v := ?_) rfl rfl (by kernel_rfl) (by kernel_rfl) (by kernel_rfl) (fun _ _ _ h => h) (by kernel_rfl) ?_ (by assumption) ?_; rotate_left; focus (intro w999 hSw; (try dsimp only at hSw); go_simp <;> with_reducible rfl); (try simp only [Act.put, List.setIfInBounds_toArray, List.set_cons_zero, List.set_cons_succ]))
          (refine take_at 20 224 (v := ?_) rfl rfl (by kernel_rfl) (by kernel_rfl) (by kernel_rfl) (fun _ _ _ h => h) (by kernel_rfl) ?_ (by assumption) ?_; rotate_left; focus (intro w999 hSw; (try dsimp only at hSw); go_simp <;> with_reducible rfl); (try simp only [Act.put, List.setIfInBounds_toArray, List.set_cons_zero, List.set_cons_succ]))
          (refine take_at 21 225 (v := ?_) rfl rfl (by kernel_rfl) (by kernel_rfl) (by kernel_rfl) (fun _ _ _ h => h) (by kernel_rfl) ?_ (by assumption) ?_; rotate_left; focus (intro w999 hSw; (try dsimp only at hSw); go_simp <;> with_reducible rfl); (try simp only [Act.put, List.setIfInBounds_toArray, List.set_cons_zero, List.set_cons_succ]))
          (refine take_at 22 226 (v := ?_) rfl rfl (by kernel_rfl) (by kernel_rfl) (by kernel_rfl) (fun _ _ _ h => h) (by kernel_rfl) ?_ (by assumption) ?_; rotate_left; focus (intro w999 hSw; (try dsimp only at hSw); go_simp <;> with_reducible rfl); (try simp only [Act.put, List.setIfInBounds_toArray, List.set_cons_zero, List.set_cons_succ]))
          (refine take_at 23 227 (v := ?_) rfl rfl (by kernel_rfl) (by kernel_rfl) (by kernel_rfl) (fun _ _ _ h => h) (by kernel_rfl) ?_ (by assumption) ?_; rotate_left; focus (intro w999 hSw; (try dsimp only at hSw); go_simp <;> with_reducible rfl); (try simp only [Act.put, List.setIfInBounds_toArray, List.set_cons_zero, List.set_cons_succ]))
          (refine take_at 24 228 (v := ?_) rfl rfl (by kernel_rfl) (by kernel_rfl) (by kernel_rfl) (fun _ _ _ h => h) (by kernel_rfl) ?_ (by assumption) ?_; rotate_left; focus (intro w999 hSw; (try dsimp only at hSw); go_simp <;> with_reducible rfl); (try simp only [Act.put, List.setIfInBounds_toArray, List.set_cons_zero, List.set_cons_succ]))
          (refine take_at 25 229 (v := ?_) rfl rfl (by kernel_rfl) (by kernel_rfl) (by kernel_rfl) (fun _ _ _ h => h) (by kernel_rfl) ?_ (by assumption) ?_; rotate_left; focus (intro w999 hSw; (try dsimp only at hSw); go_simp <;> with_reducible rfl); (try simp only [Act.put, List.setIfInBounds_toArray, List.set_cons_zero, List.set_cons_succ]))
          (refine take_at 26 230 (v := ?_) rfl rfl (by kernel_rfl) (by kernel_rfl) (by kernel_rfl) (fun _ _ _ h => h) (by kernel_rfl) ?_ (by assumption) ?_; rotate_left; focus (intro w999 hSw; (try dsimp only at hSw); go_simp <;> with_reducible rfl); (try simp only [Act.put, List.setIfInBounds_toArray, List.set_cons_zero, List.set_cons_succ]))
          (refine take_at 27 231 (v := ?_) rfl rfl (by kernel_rfl) (by kernel_rfl) (by kernel_rfl) (fun _ _ _ h => h) (by kernel_rfl) ?_ (by assumption) ?_; rotate_left; focus (intro w999 hSw; (try dsimp only at hSw); go_simp <;> with_reducible rfl); (try simp only [Act.put, List.setIfInBounds_toArray, List.set_cons_zero, List.set_cons_succ]))
          (refine take_at 28 232 (v := ?_) rfl rfl (by kernel_rfl) (by kernel_rfl) (by kernel_rfl) (fun _ _ _ h => h) (by kernel_rfl) ?_ (by assumption) ?_; rotate_left; focus (intro w999 hSw; (try dsimp only at hSw); go_simp <;> with_reducible rfl); (try simp only [Act.put, List.setIfInBounds_toArray, List.set_cons_zero, List.set_cons_succ]))
          (refine take_at 29 233 (v := ?_) rfl rfl (by kernel_rfl) (by kernel_rfl) (by kernel_rfl) (fun _ _ _ h => h) (by kernel_rfl) ?_ (by assumption) ?_; rotate_left; focus (intro w999 hSw; (try dsimp only at hSw); go_simp <;> with_reducible rfl); (try simp only [Act.put, List.setIfInBounds_toArray, List.set_cons_zero, List.set_cons_succ]))
          (refine take_at 30 234 (v := ?_) rfl rfl (by kernel_rfl) (by kernel_rfl) (by kernel_rfl) (fun _ _ _ h => h) (by kernel_rfl) ?_ (by assumption) ?_; rotate_left; focus (intro w999 hSw; (try dsimp only at hSw); go_simp <;> with_reducible rfl); (try simp only [Act.put, List.setIfInBounds_toArray, List.set_cons_zero, List.set_cons_succ]))
          (refine take_at 31 235 (v := ?_) rfl rfl (by kernel_rfl) (by kernel_rfl) (by kernel_rfl) (fun _ _ _ h => h) (by kernel_rfl) ?_ (by assumption) ?_; rotate_left; focus (intro w999 hSw; (try dsimp only at hSw); go_simp <;> with_reducible rfl); (try simp only [Act.put, List.setIfInBounds_toArray, List.set_cons_zero, List.set_cons_succ]))
          (refine take_at 32 236 (v := ?_) rfl rfl (by kernel_rfl) (by kernel_rfl) (by kernel_rfl) (fun _ _ _ h => h) (by kernel_rfl) ?_ (by assumption) ?_; rotate_left; focus (intro w999 hSw; (try dsimp only at hSw); go_simp <;> with_reducible rfl); (try simp only [Act.put, List.setIfInBounds_toArray, List.set_cons_zero, List.set_cons_succ]))
          (refine wpAnyH_ready (rs := [33]) (by kernel_rfl) (by simp) ?_; refine AllReadyH.cons rfl (fun K hK => ?_) AllReadyH.nil; go_simp)
          refine (HLk.out _ (Ea.out.trans (Ext.drew _))).mono ?_
          rintro e wb hr
          obtain ⟨_, rfl, rfl, eb⟩ := ret_ext hr
          have eab : Ext wa wb := (Ext.drew _).trans eb
          clear hr
          (refine hK.out _ _ ?_ (fun hHeld => ?_))
          · exact HCe2.out _ (Ea.out.trans eab)
          (clear hK K; try simp only [Act.put, List.setIfInBounds_toArray, List.set_cons_zero, List.set_cons_succ])
          (refine take_at 34 238 (v := ?_) rfl rfl (by kernel_rfl) (by kernel_rfl) (by kernel_rfl) (fun _ _ _ h => h) (by kernel_rfl) ?_ (by assumption) ?_; rotate_left; focus (intro w999 hSw; (try dsimp only at hSw); go_simp <;> with_reducible rfl); (try simp only [Act.put, List.setIfInBounds_toArray, List.set_cons_zero, List.set_cons_succ]))
          (refine take_at 35 239 (v := ?_) rfl rfl (by kernel_rfl) (by kernel_rfl) (by kernel_rfl) (fun _ _ _ h => h) (by kernel_rfl) ?_ (by assumption) ?_; rotate_left; focus (intro w999 hSw; (try dsimp only at hSw); go_simp <;> with_reducible rfl); (try simp only [Act.put, List.setIfInBounds_toArray, List.set_cons_zero, List.set_cons_succ]))
          refine wpAnyH_done (by kernel_rfl) ?_ _
          refine NoPanic.normal ?_
          clear HCe2 HLk
          go_wp2_with fail
          go_roundw
          case rel => exact ⟨k + 1, by omega, by go_num, (Er2.out.trans Era.out).trans eab⟩
          case measure => simp [intOf]; omega
        · have XE : Hid (Ext w wr) := Xw.out.trans Er.out
          go_wp2_with fail
          go_ret
          exact ⟨_, rfl, rfl, XE.out⟩
    · have hne : (bad != 0) = true := by rw [bne_iff_ne]; exact hbad
      have XE : Hid (Ext w w13) := Lib.hid (by repeat (first | exact Ext.refl _ | exact RowKit.Hid.out (by assumption) | (refine Ext.trans ?_ (Ext.alloc _ _)) | (refine Ext.trans ?_ (RowKit.Hid.out (by assumption)))))
      clear HF hbad
      go_wp2_with fail
      go_ret
      exact ⟨_, rfl, rfl, XE.out⟩


/-! ### the row -/
theorem own : ownKnob Tryz.prog.godebug = none := by kernel_rfl
theorem laidOut : laidOutB Tryz.prog = true := by kernel_rfl
set_option maxRecDepth 100000 in
theorem lifted (os : Os) (started : os.Started) (H : Type) (enc : TypeId × Value → H) :
    ReturnsInHanded {} Tryz.checked os 5 .any (Rows.fnDoorsSpec.pre6 enc Tryz.prog Tryz.f5 Rows.fnDoorsRow.domain false) (Rows.fnDoorsSpec.post enc Tryz.prog Tryz.f5 false true false false) := by
  refine returnsInHanded_of_change (C := Tryz.checked) own started (by kernel_rfl) Tryz.func5
    (ChangeSpec.witness6 (enc := enc) (C := Tryz.checked) false ⟨#[], #[.slice none 0 0], []⟩ 8 (by kernel_rfl) (by kernel_rfl) (by kernel_rfl) (by kernel_rfl)) ?_
  intro W base args ds gs before hval0 hW hcnd _
  have hval : ∀ (j : Nat) t v, Tryz.f5.params[j]? = some t → args[j]? = some v → Value.okWide Tryz.prog W .any base t v := hval0
  have hW' := hW
  obtain ⟨p, q, hA0, hV, rfl, hfz, hnd⟩ := hW
  have hA : DataW.TrodAll enc Tryz.prog W 0 (fun _ => true) true Tryz.f5.params.toList args.toList ds p := hA0
  rw [Tryz.params5] at hA hval
  obtain ⟨v0, vs0, d0, ds0, p0, q0, hargs, rfl, rfl, h0, r0⟩ := trodAll_cons hA
  obtain ⟨rfl, rfl, rfl⟩ := trodAll_nil r0
  obtain rfl : args = #[v0] := by cases args; simp_all
  obtain ⟨rfl, rfl⟩ := trodVars_none hV
  have k0 := h0
  have lt0 : ∀ x ∈ p0, x.block < W.heap.size := by obtain ⟨m, hm⟩ := k0; exact DataW.trod_lt m _ _ _ hm
  obtain ⟨a0, len0, cap0, rfl⟩ := okWide_slice Tryz.underlying22 (hval 0 22 v0 rfl rfl)
  obtain ⟨x0, w0⟩ : ∃ xs, BytesR (.old W) W (.slice a0 len0 cap0) xs := by obtain ⟨fuel, hf⟩ := h0; exact open_BytesR Tryz.underlying22 Tryz.underlying5 (by kernel_rfl) hf
  clear hA0 hval0
  refine (walk W _ x0 w0).mono fun e W' hret => ?_
  obtain ⟨r, rfl, rfl, bel⟩ := hret
  exact ⟨_, rfl, _, _, _, [], _, [], hW', trodAll_mk1 (shut_bool Tryz.underlying4 _), (trodAll_cons_mk (Below.trod laidOut (by kernel_rfl) (of_decide_eq_true (by kernel_rfl)) k0 bel lt0) trodAll_mk0), rfl, bel.frame _, fun h => by cases h⟩

theorem over : Rows.fnDoorsRow.holds Tryz.pinned (OpenSpec.ofChange Rows.fnDoorsSpec) :=
  OpenClaim.holds_of_wide 5 Tryz.f5 rfl rfl rfl rfl rfl rfl rfl ⟨rfl, rfl, rfl, rfl, rfl⟩ rfl rfl rfl rfl rfl (by kernel_rfl) Tryz.func5 (by kernel_rfl)
    (of_decide_eq_true (by kernel_rfl)) (by unfold Func.isWrapper; first | (rw [if_pos (by decide +kernel)]; kernel_rfl) | (rw [if_neg (by decide +kernel)]; exact ⟨rfl, rfl⟩))
    (fun os started H enc _ => lifted os started H enc)

theorem proved : Rows.FnDoorsSaid := over

end fnDoors
end Go.Proofs.YthgmojggpjnckaaGreat
