/- Proved: the line of a door, the program. -/
import Derived.Test.YtpcgbfogkcbddaaGreatDoorChecked
import Derived.Deep.RegionHeld3
import Derived.Test.YtpcgbfogkcbddaaGreatDoorUPinText
import Derived.Test.YtpcgbfogkcbddaaGreatDoorUKeyLineI
import Derived.Test.YtpcgbfogkcbddaaGreatDoorUPkC
namespace Go.Proofs.YtpcgbfogkcbddaaGreatDoor
open Go.ChangeShapes Go.WideShapes Go.ChangeAt Go.RowKit
set_option linter.unusedVariables false

def pinsAt (mk : MK) (t cuts : List (List Int)) (d : Nat) : List (List Int) := pinsL mk.d ((locks mk t cuts).getD d [])
/-- the answer for the line of a door -/
def doorLineM (mk : MK) (t cuts : List (List Int)) (k : Int) : ByteArray × Int := if designCode mk t cuts ≠ 0 then (⟨#[]⟩, designCode mk t cuts) else if inB k 0 ((doorsOf t : Int) - 1) = true then (doorLineV k.toNat (pinsAt mk t cuts k.toNat), 0) else (⟨#[]⟩, 2)
theorem doorLine_bad {mk : MK} {t cuts : List (List Int)} {k : Int} (h : designCode mk t cuts ≠ 0) : doorLineM mk t cuts k = (⟨#[]⟩, designCode mk t cuts) := by unfold doorLineM; rw [if_pos h]
theorem doorLine_range {mk : MK} {t cuts : List (List Int)} {k : Int} (h : designCode mk t cuts = 0) (h2 : inB k 0 ((doorsOf t : Int) - 1) = false) : doorLineM mk t cuts k = (⟨#[]⟩, 2) := by unfold doorLineM; rw [if_neg (by simpa using h), if_neg (by rw [h2]; decide)]
theorem doorLine_ok {mk : MK} {t cuts : List (List Int)} {k : Int} (h : designCode mk t cuts = 0) (h2 : inB k 0 ((doorsOf t : Int) - 1) = true) : doorLineM mk t cuts k = (doorLineV k.toNat (pinsAt mk t cuts k.toNat), 0) := by unfold doorLineM; rw [if_neg (by simpa using h), if_pos h2]
theorem doorOk {mk : MK} {t cuts : List (List Int)} (ok : DesignOk mk t cuts) {d : Nat} (hd : d < doorsOf t) : LockOk mk ((locks mk t cuts).getD d []) := design_lock ok hd
theorem pinsAt_ok {mk : MK} {t cuts : List (List Int)} (ok : DesignOk mk t cuts) {d : Nat} (hd : d < doorsOf t) : PinsOk (pinsAt mk t cuts d) := pinsOk (doorOk ok hd)

set_option maxRecDepth 20000 in
set_option maxHeartbeats 1000000 in
theorem doorLine_c (w : World) (hT : Pow10 w) (mk : MK) (v u : Value) (a : Option Addr) (n cap : Nat) (hv : v = .slice a n cap) (z : Zone) (ls : List (List (List Int))) (h : LocksR z w u ls) (d : Nat) (hd : d < ls.length) (hd2 : d ≤ 1000) (ok : LockOk mk (ls.getD d [])) :
    Calls Tryz.prog 53 #[sysV mk v, u, .int .i64 (d : Int)] w (Ret w fun r _ => r = .string (doorLineV d (pinsL mk.d (ls.getD d [])))) := by
  subst hv
  have HTx : Hid (∀ w', Ext w w' → Calls Tryz.prog 82 #[.int .i64 (d : Int)] w' (Ret w' fun r _ => r = .string (strOf (numD d)))) := fun w' e => text_c w' (hT.ext e) d (by omega)
  have HPT := Lib.hid (fun (w' : World) (e : Ext w w') (x : Value) (zx : Zone) (g : RowsR zx w' x (ls.getD d [])) => PinsText_c w' (hT.ext e) mk x zx _ g ok)
  have HR : Hid (doorLineV d (pinsL mk.d (ls.getD d [])) = (((⟨#[100, 111, 111, 114, 32]⟩ : ByteArray) ++ strOf (numD d)) ++ ⟨#[32]⟩) ++ strOf (pinsD (pinsL mk.d (ls.getD d [])))) := rfl
  have hA : (strOf (numD (d : Int))).size ≤ 11 := by rw [strOf_size]; exact dec_len10 (by omega)
  have hB : (strOf (pinsD (pinsL mk.d (ls.getD d [])))).size ≤ 114 := by rw [strOf_size]; exact pinsD_len (pinsOk ok)
  obtain ⟨a2, n2, cap2, rfl, hn2, -⟩ := SliceR.shape h
  obtain ⟨b, off, rfl, a3, m3, k3, -, hcl, yl, -, hyl⟩ := locks_at h (k := d) (by omega)
  have HPT1 := Lib.hid (fun (w' : World) (e : Ext w w') => HPT.out w' e _ yl (hyl w' e))
  generalize doorLineV d (pinsL mk.d (ls.getD d [])) = res at *
  generalize strOf (numD (d : Int)) = A at *
  generalize strOf (pinsD (pinsL mk.d (ls.getD d []))) = B at *
  have hdn : d < n2 := by omega
  have hs1 : ¬ (9223372036854775807 < 5 + A.size) := by omega
  have hs2 : ¬ (9223372036854775807 < 5 + A.size + 1) := by omega
  have hs3 : ¬ (9223372036854775807 < 5 + A.size + 1 + B.size) := by omega
  have Hcl := Lib.hid hcl
  clear HPT h hd ok hn2 hA hB hcl hyl hT hd2
  unfold sysV MK.v at *
  go_enter Tryz.func53, Tryz.ntmps53
  go_wp2_with fail
  generalize hw0 : World.alloc _ _ = w0
  obtain ⟨e0, S0⟩ := sys_box hw0
  clear hw0
  have HCel : Hid (∀ w', Ext w0 w' → (w'.cell? ⟨w.heap.size, 0, none⟩ = some (.int .i64 mk.c) ∧ w'.cell? ⟨w.heap.size, 1, none⟩ = some (.int .i64 mk.d) ∧ w'.cell? ⟨w.heap.size, 2, none⟩ = some (.int .i64 mk.s) ∧ w'.cell? ⟨w.heap.size, 3, none⟩ = some (.int .i64 mk.m) ∧ w'.cell? ⟨w.heap.size, 4, none⟩ = some (.int .i64 mk.l) ∧ w'.cell? ⟨w.heap.size, 5, none⟩ = some (.slice a n cap)) ∧ w'.cell? ⟨b, off + d, none⟩ = some (.slice a3 m3 k3)) := fun w' e => ⟨S0.all e, Hcl.out w' (e0.trans e)⟩
  have HTx1 := Lib.hid (fun (w' : World) (e : Ext w0 w') => HTx.out w' (e0.trans e))
  have HPT2 := Lib.hid (fun (w' : World) (e : Ext w0 w') => HPT1.out w' (e0.trans e))
  clear S0 HTx HPT1 Hcl
  go_region_held3 (fun w' => (w'.cell? ⟨w.heap.size, 0, none⟩ = some (.int .i64 mk.c) ∧ w'.cell? ⟨w.heap.size, 1, none⟩ = some (.int .i64 mk.d) ∧ w'.cell? ⟨w.heap.size, 2, none⟩ = some (.int .i64 mk.s) ∧ w'.cell? ⟨w.heap.size, 3, none⟩ = some (.int .i64 mk.m) ∧ w'.cell? ⟨w.heap.size, 4, none⟩ = some (.int .i64 mk.l) ∧ w'.cell? ⟨w.heap.size, 5, none⟩ = some (.slice a n cap)) ∧ w'.cell? ⟨b, off + d, none⟩ = some (.slice a3 m3 k3)) (exact HCel.out _ (by repeat (first | exact Ext.refl _ | assumption | (refine Ext.trans ?_ (Ext.alloc _ _)) | (refine Ext.trans ?_ (Ext.drew _)) | (refine Ext.trans ?_ (by assumption))))) (first | (go_at_call 87; (with_reducible refine (HPT2.out _ (by repeat (first | exact Ext.refl _ | assumption | (refine Ext.trans ?_ (Ext.alloc _ _)) | (refine Ext.trans ?_ (Ext.drew _)) | (refine Ext.trans ?_ (by assumption))))).mono ?_); rintro e w5 hr5; obtain ⟨r5, rfl, rfl, e5⟩ := ret_ext hr5; clear hr5; have ez5 : Ext w0 w5 := (by repeat (first | exact Ext.refl _ | assumption | (refine Ext.trans ?_ (Ext.alloc _ _)) | (refine Ext.trans ?_ (Ext.drew _)) | (refine Ext.trans ?_ (by assumption))))) | fail)
  all_goals go_wp2_with fail
  all_goals refine Calls.mono (HTx1.out w5 ez5) ?_
  all_goals rintro e w6 hr
  all_goals obtain ⟨r, rfl, rfl, e6⟩ := ret_ext hr
  all_goals clear hr
  all_goals go_wp2_with fail
  all_goals go_ret
  all_goals exact ⟨_, rfl, by rw [HR.out]; rfl, (e0.trans ez5).trans e6⟩

set_option maxRecDepth 20000 in
set_option maxHeartbeats 1000000 in
theorem DoorLine_c (w : World) (hT : Pow10 w) (mk : MK) (v : Value) (z : Zone) (t : List (List Int)) (h : RowsR z w v t) (u : Value) (y : Zone) (cuts : List (List Int)) (hc : RowsR y w u cuts) (k : Int) :
    Calls Tryz.prog 18 #[sysV mk v, u, .int .i64 k] w (Ret w fun r _ => r = StrCode (doorLineM mk t cuts k)) := by
  have HD := Lib.hid (fun (w' : World) (e : Ext w w') => designCode_c w' mk v z t (stable_rows.ext h e) u y cuts (stable_rows.ext hc e))
  have HP := Lib.hid (fun (h0 : designCode mk t cuts = 0) (w' : World) (e : Ext w w') => partLocks_c w' mk v z t (stable_rows.ext h e) u y cuts (stable_rows.ext hc e) (designCode_zero h0).toPartOk)
  obtain ⟨a, n, cap, rfl, hn, -⟩ := SliceR.shape h
  have HK : Hid (∀ (_ : designCode mk t cuts = 0) (m : Nat) (_ : m < doorsOf t) (w' : World) (_ : Ext w w') (x : Value) (zx : Zone) (_ : LocksR zx w' x (locks mk t cuts)), Calls Tryz.prog 53 #[sysV mk (.slice a n cap), x, .int .i64 (m : Int)] w' (Ret w' fun r _ => r = .string (doorLineV m (pinsAt mk t cuts m)))) := fun h0 m hm w' e x zx g => doorLine_c w' (hT.ext e) mk (.slice a n cap) x a n cap rfl zx (locks mk t cuts) g m (by rw [locks_len]; exact hm) (by have := (designCode_zero h0).doors; omega) (doorOk (designCode_zero h0) hm)
  have H1 : Hid (designCode mk t cuts ≠ 0 → doorLineM mk t cuts k = (⟨#[]⟩, designCode mk t cuts)) := doorLine_bad
  have H2 : Hid (designCode mk t cuts = 0 → inB k 0 ((doorsOf t : Int) - 1) = false → doorLineM mk t cuts k = (⟨#[]⟩, 2)) := doorLine_range
  have H3 : Hid (designCode mk t cuts = 0 → inB k 0 ((doorsOf t : Int) - 1) = true → doorLineM mk t cuts k = (doorLineV k.toNat (pinsAt mk t cuts k.toNat), 0)) := doorLine_ok
  have HN : Hid (designCode mk t cuts = 0 → doorsOf t ≤ 12 ∧ 0 < n) := fun h0 => ⟨(designCode_zero h0).doors.2, by have := (designCode_zero h0).len; omega⟩
  have HRow := Lib.hid (fun (h0 : 0 < n) => rows_at h h0)
  have HDo : Hid (doorsOf t = (t.getD 0 []).length) := rfl
  obtain ⟨a2, n2, cap2, rfl, hn2, -⟩ := SliceR.shape hc
  clear h hc hT hn2 hn
  generalize hkv : (fun m => doorLineV m (pinsAt mk t cuts m)) = kV at *
  have HKV : Hid (∀ m, doorLineV m (pinsAt mk t cuts m) = kV m) := fun m => by rw [← hkv]
  clear hkv
  generalize doorLineM mk t cuts k = res at *
  generalize designCode mk t cuts = dc at *
  generalize locks mk t cuts = ls at *
  generalize doorsOf t = D at *
  unfold sysV at *
  go_enter Tryz.func18, Tryz.ntmps18
  go_wp2_with fail
  generalize hw0 : World.alloc _ _ = w0
  obtain ⟨e0, S0⟩ := sys_box hw0
  clear hw0
  have HS := Lib.hid S0
  refine Calls.mono (HD.out w0 e0) ?_
  rintro e w1 hr
  obtain ⟨r, rfl, rfl, e1⟩ := ret_ext hr
  clear hr S0
  have et := e0.trans e1
  obtain ⟨c0, c1, c2, c3, c4, c5⟩ := HS.out.all e1
  by_cases hd : dc = 0
  · have hb : (dc != 0) = false := by rw [hd]; rfl
    obtain ⟨hn10, hn0⟩ := HN.out hd
    obtain ⟨b, off, rfl, a0, m0, cp, hmE, -, -, hcr, -⟩ := HRow.out hn0
    rw [← HDo.out] at hmE
    subst hmE
    have hcr1 : w1.cell? ⟨b, off, none⟩ = some (.slice a0 m0 cp) := hcr w1 et
    have H2' := Lib.hid (H2.out hd)
    have H3' := Lib.hid (H3.out hd)
    have HK' := Lib.hid (HK.out hd)
    have HP' := Lib.hid (HP.out hd)
    have hwN : IntKind.i64.wrap ((m0 : Int) - 1) = (m0 : Int) - 1 := IntWalk.i64_in _ (by omega)
    clear H1 H2 H3 HN HK HD HP HRow HDo hcr
    subst hd
    go_wp2_with fail
    refine Calls.mono (within_c w1 k 0 ((m0 : Int) - 1)) ?_
    rintro e w2 hr
    obtain ⟨rfl, hd2, g2⟩ := retq_ext hr
    clear hr c0 c1 c2 c3 c4 c5
    have et2 := et.trans g2
    cases h0 : inB k 0 ((m0 : Int) - 1) with
    | false =>
      have HH := Lib.hid (H2'.out h0)
      clear H2' H3' h0
      go_wp2_with fail
      go_ret2
      exact ⟨_, rfl, by rw [HH.out]; rfl, et2⟩
    | true =>
      have h0' := inB_iff.1 h0
      obtain ⟨m, rfl⟩ := Int.eq_ofNat_of_zero_le h0'.1
      have HH : Hid (res = (kV m, 0)) := by rw [← HKV.out]; exact H3'.out h0
      have HK2 := Lib.hid (fun (w' : World) (e : Ext w2 w') (x : Value) (zx : Zone) (g : LocksR zx w' x ls) => HK'.out m (by omega) w' (et2.trans e) x zx g)
      rw [HKV.out] at HK2
      have HP2 := Lib.hid (fun (w' : World) (e : Ext w2 w') => HP'.out w' (et2.trans e))
      have HCel : Hid (∀ w', Ext w2 w' → w'.cell? ⟨w.heap.size, 0, none⟩ = some (.int .i64 mk.c) ∧ w'.cell? ⟨w.heap.size, 1, none⟩ = some (.int .i64 mk.d) ∧ w'.cell? ⟨w.heap.size, 2, none⟩ = some (.int .i64 mk.s) ∧ w'.cell? ⟨w.heap.size, 3, none⟩ = some (.int .i64 mk.m) ∧ w'.cell? ⟨w.heap.size, 4, none⟩ = some (.int .i64 mk.l) ∧ w'.cell? ⟨w.heap.size, 5, none⟩ = some (.slice (some ⟨b, off, none⟩) n cap)) := fun w' e => HS.out.all ((e1.trans g2).trans e)
      clear H2' H3' h0 h0' HK' HP' HKV
      generalize kV m = km at *
      go_wp2_with fail
      go_region_held3 (fun w' => w'.cell? ⟨w.heap.size, 0, none⟩ = some (.int .i64 mk.c) ∧ w'.cell? ⟨w.heap.size, 1, none⟩ = some (.int .i64 mk.d) ∧ w'.cell? ⟨w.heap.size, 2, none⟩ = some (.int .i64 mk.s) ∧ w'.cell? ⟨w.heap.size, 3, none⟩ = some (.int .i64 mk.m) ∧ w'.cell? ⟨w.heap.size, 4, none⟩ = some (.int .i64 mk.l) ∧ w'.cell? ⟨w.heap.size, 5, none⟩ = some (.slice (some ⟨b, off, none⟩) n cap)) (exact HCel.out _ (by repeat (first | exact Ext.refl _ | assumption | (refine Ext.trans ?_ (Ext.alloc _ _)) | (refine Ext.trans ?_ (Ext.drew _)) | (refine Ext.trans ?_ (by assumption))))) (first | (go_at_call 54; (with_reducible refine (HP2.out _ (by repeat (first | exact Ext.refl _ | assumption | (refine Ext.trans ?_ (Ext.alloc _ _)) | (refine Ext.trans ?_ (Ext.drew _)) | (refine Ext.trans ?_ (by assumption))))).mono ?_); rintro e w5 hr5; obtain ⟨r5, rfl, L5, e5⟩ := ret_ext hr5; clear hr5; have ez5 : Ext w2 w5 := (by repeat (first | exact Ext.refl _ | assumption | (refine Ext.trans ?_ (Ext.alloc _ _)) | (refine Ext.trans ?_ (Ext.drew _)) | (refine Ext.trans ?_ (by assumption)))); have L5' := L5; obtain ⟨a5, n5, k5, rfl, -⟩ := SliceR.shape L5') | (go_at_call 53; (with_reducible refine (HK2.out _ (by repeat (first | exact Ext.refl _ | assumption | (refine Ext.trans ?_ (Ext.alloc _ _)) | (refine Ext.trans ?_ (Ext.drew _)) | (refine Ext.trans ?_ (by assumption)))) _ _ (stable_locks.ext L5 (by repeat (first | exact Ext.refl _ | assumption | (refine Ext.trans ?_ (Ext.alloc _ _)) | (refine Ext.trans ?_ (Ext.drew _)) | (refine Ext.trans ?_ (by assumption)))))).mono ?_); rintro e w6 hr6; obtain ⟨r6, rfl, rfl, e6⟩ := ret_ext hr6; clear hr6; have ez6 : Ext w2 w6 := (by repeat (first | exact Ext.refl _ | assumption | (refine Ext.trans ?_ (Ext.alloc _ _)) | (refine Ext.trans ?_ (Ext.drew _)) | (refine Ext.trans ?_ (by assumption))))) | fail)
      all_goals go_wp2_with fail
      all_goals go_ret2
      all_goals exact ⟨_, rfl, by rw [HH.out]; rfl, et2.trans ez6⟩
  · have hb : (dc != 0) = true := by rw [bne_iff_ne]; exact hd
    have HH := Lib.hid (H1.out hd)
    clear H1 H2 H3 HN HK HD HP
    go_wp2_with fail
    go_ret2
    exact ⟨_, rfl, by rw [HH.out]; rfl, et⟩
end Go.Proofs.YtpcgbfogkcbddaaGreatDoor
