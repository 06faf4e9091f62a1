/- Proved: the line of a door, the reference. -/
import Derived.Test.YtpcgbfogkcbddaaGreatDoorChecked
import Derived.Deep.RegionHeld3
import Derived.Test.YtpcgbfogkcbddaaGreatDoorUDoorLineI
import Derived.Test.YtpcgbfogkcbddaaGreatDoorUPinTextS
import Derived.Test.YtpcgbfogkcbddaaGreatDoorUKeyLineS
import Derived.Test.YtpcgbfogkcbddaaGreatDoorUPkC
namespace Go.Proofs.YtpcgbfogkcbddaaGreatDoor
open Go.ChangeShapes Go.WideShapes Go.ChangeAt Go.RowKit
set_option linter.unusedVariables false

set_option maxRecDepth 20000 in
set_option maxHeartbeats 1000000 in
theorem l27Door_c (w : World) (mk : MK) (v : Value) (z : Zone) (t : List (List Int)) (h : RowsR z w v t) (u : Value) (y : Zone) (cuts : List (List Int)) (hc : RowsR y w u cuts) (ok : DesignOk mk t cuts) (d : Nat) (hd : d < doorsOf t) :
    Calls Tryz.prog 52 #[sysV mk v, u, .int .i64 (d : Int)] w (Ret w fun r _ => r = .string (doorLineV d (pinsAt mk t cuts d))) := by
  have hd12 := ok.doors
  have hlk : (locks mk t cuts).getD d [] = hull mk (keysAt t cuts d cuts.length) := by
    unfold locks locksTo
    rw [List.getD_eq_getElem?_getD, List.getElem?_map, List.getElem?_range hd]
    rfl
  have lok := doorOk ok hd
  have pok := pinsAt_ok ok hd
  unfold pinsAt at pok
  have HD : Hid (∀ w', Ext w w' → Calls Tryz.prog 80 #[.int .i64 (d : Int)] w' (Ret w' fun r _ => r = .string (strOf (numD d)))) := fun w' _ => l01Dec_c d w' (by omega)
  have HL := Lib.hid (fun (w' : World) (e : Ext w w') => by
    have := l15Lock_c w' mk ok.mk1 ok.mk2 v z t (stable_rows.ext h e) u y cuts (stable_rows.ext hc e) ok.le ok.len.2 (fun r hr => (ok.key r hr).len) d (fun k hk => by rw [ok.row k hk]; exact hd)
    rw [← hlk] at this
    exact this)
  have HP := Lib.hid (fun (w' : World) (x : Value) (zx : Zone) (g : RowsR zx w' x ((locks mk t cuts).getD d [])) => l05Pins_c w' mk x zx _ g lok)
  have HT := Lib.hid (fun (w' : World) (x : Value) (zx : Zone) (g : RowsR zx w' x (pinsL mk.d ((locks mk t cuts).getD d []))) => l05Text_c w' x zx _ g pok)
  have HR : Hid (doorLineV d (pinsAt mk t cuts d) = (((⟨#[100, 111, 111, 114, 32]⟩ : ByteArray) ++ strOf (numD d)) ++ ⟨#[32]⟩) ++ strOf (pinsD (pinsL mk.d ((locks mk t cuts).getD d [])))) := rfl
  have hA : (strOf (numD (d : Int))).size ≤ 11 := by rw [strOf_size]; exact dec_len10 (by omega)
  have hB : (strOf (pinsD (pinsL mk.d ((locks mk t cuts).getD d [])))).size ≤ 114 := by rw [strOf_size]; exact pinsD_len pok
  obtain ⟨a, n, cap, rfl, -⟩ := SliceR.shape h
  obtain ⟨a2, n2, cap2, rfl, -⟩ := SliceR.shape hc
  generalize doorLineV d (pinsAt mk t cuts d) = res at *
  generalize strOf (numD (d : Int)) = A at *
  generalize strOf (pinsD (pinsL mk.d ((locks mk t cuts).getD d []))) = B at *
  generalize pinsL mk.d ((locks mk t cuts).getD d []) = ps at *
  generalize (locks mk t cuts).getD d [] = lk at *
  have hs1 : ¬ (9223372036854775807 < 5 + A.size) := by omega
  have hs2 : ¬ (9223372036854775807 < 5 + A.size + 1) := by omega
  have hs3 : ¬ (9223372036854775807 < 5 + A.size + 1 + B.size) := by omega
  unfold LockP at HL
  clear h hc ok hd hd12 lok pok hA hB hlk
  unfold sysV MK.v at *
  go_enter Tryz.func52, Tryz.ntmps52
  go_wp2_with fail
  generalize hw0 : World.alloc _ _ = w0
  obtain ⟨e0, S0⟩ := sys_box hw0
  clear hw0
  have HCel : Hid (∀ w', Ext w0 w' → w'.cell? ⟨w.heap.size, 0, none⟩ = some (.int .i64 mk.c) ∧ w'.cell? ⟨w.heap.size, 1, none⟩ = some (.int .i64 mk.d) ∧ w'.cell? ⟨w.heap.size, 2, none⟩ = some (.int .i64 mk.s) ∧ w'.cell? ⟨w.heap.size, 3, none⟩ = some (.int .i64 mk.m) ∧ w'.cell? ⟨w.heap.size, 4, none⟩ = some (.int .i64 mk.l) ∧ w'.cell? ⟨w.heap.size, 5, none⟩ = some (.slice a n cap)) := fun w' e => S0.all e
  have HD1 := Lib.hid (fun (w' : World) (e : Ext w0 w') => HD.out w' (e0.trans e))
  have HL1 := Lib.hid (fun (w' : World) (e : Ext w0 w') => HL.out w' (e0.trans e))
  clear S0 HD HL
  go_region_held3 (fun w' => w'.cell? ⟨w.heap.size, 0, none⟩ = some (.int .i64 mk.c) ∧ w'.cell? ⟨w.heap.size, 1, none⟩ = some (.int .i64 mk.d) ∧ w'.cell? ⟨w.heap.size, 2, none⟩ = some (.int .i64 mk.s) ∧ w'.cell? ⟨w.heap.size, 3, none⟩ = some (.int .i64 mk.m) ∧ w'.cell? ⟨w.heap.size, 4, none⟩ = some (.int .i64 mk.l) ∧ w'.cell? ⟨w.heap.size, 5, none⟩ = some (.slice a n cap)) (exact HCel.out _ (by repeat (first | exact Ext.refl _ | assumption | (refine Ext.trans ?_ (Ext.alloc _ _)) | (refine Ext.trans ?_ (Ext.drew _)) | (refine Ext.trans ?_ (by assumption))))) (first | (go_at_call 80; (with_reducible refine (HD1.out _ (by repeat (first | exact Ext.refl _ | assumption | (refine Ext.trans ?_ (Ext.alloc _ _)) | (refine Ext.trans ?_ (Ext.drew _)) | (refine Ext.trans ?_ (by assumption))))).mono ?_); rintro e w5 hr5; obtain ⟨r5, rfl, rfl, e5⟩ := ret_ext hr5; clear hr5; have ez5 : Ext w0 w5 := (by repeat (first | exact Ext.refl _ | assumption | (refine Ext.trans ?_ (Ext.alloc _ _)) | (refine Ext.trans ?_ (Ext.drew _)) | (refine Ext.trans ?_ (by assumption))))) | (go_at_call 86; (with_reducible refine (HL1.out _ (by repeat (first | exact Ext.refl _ | assumption | (refine Ext.trans ?_ (Ext.alloc _ _)) | (refine Ext.trans ?_ (Ext.drew _)) | (refine Ext.trans ?_ (by assumption))))).mono ?_); rintro e w6 hr6; obtain ⟨r6, rfl, ⟨x6, rfl, L6⟩, e6⟩ := ret_ext hr6; clear hr6; have ez6 : Ext w0 w6 := (by repeat (first | exact Ext.refl _ | assumption | (refine Ext.trans ?_ (Ext.alloc _ _)) | (refine Ext.trans ?_ (Ext.drew _)) | (refine Ext.trans ?_ (by assumption))))) | (go_at_call 85; (with_reducible refine (HP.out _ _ _ (stable_rows.ext L6 (by repeat (first | exact Ext.refl _ | assumption | (refine Ext.trans ?_ (Ext.alloc _ _)) | (refine Ext.trans ?_ (Ext.drew _)) | (refine Ext.trans ?_ (by assumption)))))).mono ?_); rintro e w7 hr7; obtain ⟨r7, rfl, P7, e7⟩ := ret_ext hr7; clear hr7; have ez7 : Ext w0 w7 := (by repeat (first | exact Ext.refl _ | assumption | (refine Ext.trans ?_ (Ext.alloc _ _)) | (refine Ext.trans ?_ (Ext.drew _)) | (refine Ext.trans ?_ (by assumption))))) | (go_at_call 84; (with_reducible refine (HT.out _ _ _ (stable_rows.ext P7 (by repeat (first | exact Ext.refl _ | assumption | (refine Ext.trans ?_ (Ext.alloc _ _)) | (refine Ext.trans ?_ (Ext.drew _)) | (refine Ext.trans ?_ (by assumption)))))).mono ?_); rintro e w8 hr8; obtain ⟨r8, rfl, rfl, e8⟩ := ret_ext hr8; clear hr8; have ez8 : Ext w0 w8 := (by repeat (first | exact Ext.refl _ | assumption | (refine Ext.trans ?_ (Ext.alloc _ _)) | (refine Ext.trans ?_ (Ext.drew _)) | (refine Ext.trans ?_ (by assumption))))) | fail)
  all_goals go_wp2_with fail
  all_goals go_ret
  all_goals exact ⟨_, rfl, by rw [HR.out]; rfl, e0.trans ez8⟩

set_option maxRecDepth 20000 in
set_option maxHeartbeats 1000000 in
theorem DoorLineSpec_c (w : World) (mk : MK) (v : Value) (z : Zone) (t : List (List Int)) (h : RowsR z w v t) (u : Value) (y : Zone) (cuts : List (List Int)) (hc : RowsR y w u cuts) (k : Int) :
    Calls Tryz.prog 17 #[sysV mk v, u, .int .i64 k] w (Ret w fun r _ => r = StrCode (doorLineM mk t cuts k)) := by
  have HD := Lib.hid (fun (w' : World) (e : Ext w w') => l21Code_c w' mk v z t (stable_rows.ext h e) u y cuts (stable_rows.ext hc e))
  have HP := Lib.hid (fun (h0 : designCode mk t cuts = 0) (w' : World) (e : Ext w w') => by
    have ok := designCode_zero h0
    have h1 := l15Pair_c w' mk v z t (stable_rows.ext h e) (by have := ok.len; omega) (by have := ok.doors; omega) 0 k
    have h2 : inB 0 0 ((t.length : Int) - 1) = true := inB_iff.2 (by have := ok.len; omega)
    rw [h2, Bool.true_and] at h1
    exact h1)
  have HK := Lib.hid (fun (h0 : designCode mk t cuts = 0) (m : Nat) (hm : m < doorsOf t) (w' : World) (e : Ext w w') => l27Door_c w' mk v z t (stable_rows.ext h e) u y cuts (stable_rows.ext hc e) (designCode_zero h0) m hm)
  have H1 : Hid (designCode mk t cuts ≠ 0 → doorLineM mk t cuts k = (⟨#[]⟩, designCode mk t cuts)) := doorLine_bad
  have H2 : Hid (designCode mk t cuts = 0 → inB k 0 ((doorsOf t : Int) - 1) = false → doorLineM mk t cuts k = (⟨#[]⟩, 2)) := doorLine_range
  have H3 : Hid (designCode mk t cuts = 0 → inB k 0 ((doorsOf t : Int) - 1) = true → doorLineM mk t cuts k = (doorLineV k.toNat (pinsAt mk t cuts k.toNat), 0)) := doorLine_ok
  obtain ⟨a, n, cap, rfl, -⟩ := SliceR.shape h
  obtain ⟨a2, n2, cap2, rfl, hn2, -⟩ := SliceR.shape hc
  generalize doorsOf t = D at *
  clear h hc hn2
  generalize hkv : (fun m => doorLineV m (pinsAt mk t cuts m)) = kV at *
  have HKV : Hid (∀ m, doorLineV m (pinsAt mk t cuts m) = kV m) := fun m => by rw [← hkv]
  clear hkv
  generalize doorLineM mk t cuts k = res at *
  generalize designCode mk t cuts = dc at *
  unfold sysV at *
  go_enter Tryz.func17, Tryz.ntmps17
  go_wp2_with fail
  generalize hw0 : World.alloc _ _ = w0
  obtain ⟨e0, S0⟩ := sys_box hw0
  clear hw0
  have HS := Lib.hid S0
  refine Calls.mono (HD.out w0 e0) ?_
  rintro e w1 hr
  obtain ⟨r, rfl, rfl, e1⟩ := ret_ext hr
  clear hr S0
  have et := e0.trans e1
  obtain ⟨c0, c1, c2, c3, c4, c5⟩ := HS.out.all e1
  by_cases hd : dc = 0
  · have H2' := Lib.hid (H2.out hd)
    have H3' := Lib.hid (H3.out hd)
    have HK' := Lib.hid (HK.out hd)
    have HP' := Lib.hid (HP.out hd w1 et)
    clear H1 H2 H3 HK HD HP
    subst hd
    go_wp2_with fail
    refine Calls.mono HP'.out ?_
    rintro e w2 hr
    obtain ⟨r, rfl, rfl, g2⟩ := ret_ext hr
    clear hr c0 c1 c2 c3 c4 c5
    have et2 := et.trans g2
    obtain ⟨c0, c1, c2, c3, c4, c5⟩ := HS.out.all (e1.trans g2)
    cases h0 : inB k 0 ((D : Int) - 1) with
    | false =>
      have HH := Lib.hid (H2'.out h0)
      clear H2' H3' h0 HP'
      go_wp2_with fail
      go_ret2
      exact ⟨_, rfl, by rw [HH.out]; rfl, et2⟩
    | true =>
      have h0' := inB_iff.1 h0
      obtain ⟨m, rfl⟩ := Int.eq_ofNat_of_zero_le h0'.1
      have HH : Hid (res = (kV m, 0)) := by rw [← HKV.out]; exact H3'.out h0
      have HK2 := Lib.hid (HK'.out m (by omega) w2 et2)
      rw [HKV.out] at HK2
      clear H2' H3' h0 h0' HK' HP' HKV
      generalize kV m = km at *
      go_wp2_with fail
      refine Calls.mono HK2.out ?_
      rintro e w3 hr
      obtain ⟨r, rfl, rfl, e3⟩ := ret_ext hr
      clear hr
      go_wp2_with fail
      go_ret2
      exact ⟨_, rfl, by rw [HH.out]; rfl, et2.trans e3⟩
  · have hb : (dc == 0) = false := by rw [beq_eq_false_iff_ne]; exact hd
    have HH := Lib.hid (H1.out hd)
    clear H1 H2 H3 HK HD HP
    go_wp2_with fail
    go_ret2
    exact ⟨_, rfl, by rw [HH.out]; rfl, et⟩
end Go.Proofs.YtpcgbfogkcbddaaGreatDoor
