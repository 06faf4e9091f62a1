/- Proved: the line of a door, the reference. -/
import Derived.Test.YtkeikjedbfomnaaGreatDoorChecked
import Derived.Deep.RegionHeld3
import Derived.Test.YtkeikjedbfomnaaGreatDoorUDoorLineI
import Derived.Test.YtkeikjedbfomnaaGreatDoorUPinTextS
import Derived.Test.YtkeikjedbfomnaaGreatDoorUKeyLineS
import Derived.Test.YtkeikjedbfomnaaGreatDoorUPkC
namespace Go.Proofs.YtkeikjedbfomnaaGreatDoor
open Go.ChangeShapes Go.WideShapes Go.ChangeAt Go.RowKit
set_option linter.unusedVariables false

set_option maxRecDepth 20000 in
set_option maxHeartbeats 1000000 in
theorem l27Door_c (w : World) (mk : MK) (v : Value) (z : Zone) (t : List (List Int)) (h : RowsR z w v t) (u : Value) (y : Zone) (cuts : List (List Int)) (hc : RowsR y w u cuts) (ok : DesignOk mk t cuts) (d : Nat) (hd : d < doorsOf t) :
    Calls Tryz.prog 47 #[sysV mk v, u, .int .i64 (d : Int)] w (Ret w fun r _ => r = .string (doorLineV d (pinsAt mk t cuts d))) := by
  have hd12 := ok.doors
  have hlk : (locks mk t cuts).getD d [] = hull mk (keysAt t cuts d cuts.length) := by
    unfold locks locksTo
    rw [List.getD_eq_getElem?_getD, List.getElem?_map, List.getElem?_range hd]
    rfl
  have lok := doorOk ok hd
  have pok := pinsAt_ok ok hd
  unfold pinsAt at pok
  have HD : Hid (∀ w', Ext w w' → Calls Tryz.prog 67 #[.int .i64 (d : Int)] w' (Ret w' fun r _ => r = .string (strOf (numD d)))) := fun w' _ => l01Dec_c d w' (by omega)
  have HL := Lib.hid (fun (w' : World) (e : Ext w w') => by
    have := l15Lock_c w' mk ok.mk1 ok.mk2 v z t (stable_rows.ext h e) u y cuts (stable_rows.ext hc e) ok.le ok.len.2 (fun r hr => (ok.key r hr).len) d (fun k hk => by rw [ok.row k hk]; exact hd)
    rw [← hlk] at this
    exact this)
  have HP := Lib.hid (fun (w' : World) (x : Value) (zx : Zone) (g : RowsR zx w' x ((locks mk t cuts).getD d [])) => l05Pins_c w' mk x zx _ g lok)
  have HT := Lib.hid (fun (w' : World) (x : Value) (zx : Zone) (g : RowsR zx w' x (pinsL mk.d ((locks mk t cuts).getD d []))) => l05Text_c w' x zx _ g pok)
  have HR : Hid (doorLineV d (pinsAt mk t cuts d) = (((⟨#[100, 111, 111, 114, 32]⟩ : ByteArray) ++ strOf (numD d)) ++ ⟨#[32]⟩) ++ strOf (pinsD (pinsL mk.d ((locks mk t cuts).getD d [])))) := rfl
  have hA : (strOf (numD (d : Int))).size ≤ 11 := by rw [strOf_size]; exact dec_len10 (by omega)
  have hB : (strOf (pinsD (pinsL mk.d ((locks mk t cuts).getD d [])))).size ≤ 114 := by rw [strOf_size]; exact pinsD_len pok
  obtain ⟨a, n, cap, rfl, -⟩ := SliceR.shape h
  obtain ⟨a2, n2, cap2, rfl, -⟩ := SliceR.shape hc
  generalize doorLineV d (pinsAt mk t cuts d) = res at *
  generalize strOf (numD (d : Int)) = A at *
  generalize strOf (pinsD (pinsL mk.d ((locks mk t cuts).getD d []))) = B at *
  generalize pinsL mk.d ((locks mk t cuts).getD d []) = ps at *
  generalize (locks mk t cuts).getD d [] = lk at *
  have hs1 : ¬ (9223372036854775807 < 5 + A.size) := by omega
  have hs2 : ¬ (9223372036854775807 < 5 + A.size + 1) := by omega
  have hs3 : ¬ (9223372036854775807 < 5 + A.size + 1 + B.size) := by omega
  unfold LockP at HL
  clear h hc ok hd hd12 lok pok hA hB hlk
  unfold sysV MK.v at *
  go_enter Tryz.func47, Tryz.ntmps47
  go_wp2_with fail
  generalize hw0 : World.alloc _ _ = w0
  obtain ⟨e0, S0⟩ := sys_box hw0
  clear hw0
  have HCel : Hid (∀ w', Ext w0 w' → w'.cell? ⟨w.heap.size, 0, none⟩ = some (.int .i64 mk.c) ∧ w'.cell? ⟨w.heap.size, 1, none⟩ = some (.int .i64 mk.d) ∧ w'.cell? ⟨w.heap.size, 2, none⟩ = some (.int .i64 mk.s) ∧ w'.cell? ⟨w.heap.size, 3, none⟩ = some (.int .i64 mk.m) ∧ w'.cell? ⟨w.heap.size, 4, none⟩ = some (.int .i64 mk.l) ∧ w'.cell? ⟨w.heap.size, 5, none⟩ = some (.slice a n cap)) := fun w' e => S0.all e
  have HD1 := Lib.hid (fun (w' : World) (e : Ext w0 w') => HD.out w' (e0.trans e))
  have HL1 := Lib.hid (fun (w' : World) (e : Ext w0 w') => HL.out w' (e0.trans e))
  clear S0 HD HL
  go_region_held3 (fun w' => w'.cell? ⟨w.heap.size, 0, none⟩ = some (.int .i64 mk.c) ∧ w'.cell? ⟨w.heap.size, 1, none⟩ = some (.int .i64 mk.d) ∧ w'.cell? ⟨w.heap.size, 2, none⟩ = some (.int .i64 mk.s) ∧ w'.cell? ⟨w.heap.size, 3, none⟩ = some (.int .i64 mk.m) ∧ w'.cell? ⟨w.heap.size, 4, none⟩ = some (.int .i64 mk.l) ∧ w'.cell? ⟨w.heap.size, 5, none⟩ = some (.slice a n cap)) (exact HCel.out _ (by repeat (first | exact Ext.refl _ | assumption | (refine Ext.trans ?_ (Ext.alloc _ _)) | (refine Ext.trans ?_ (Ext.drew _)) | (refine Ext.trans ?_ (by assumption))))) (first | (go_at_call 67; (with_reducible refine (HD1.out _ (by repeat (first | exact Ext.refl _ | assumption | (refine Ext.trans ?_ (Ext.alloc _ _)) | (refine Ext.trans ?_ (Ext.drew _)) | (refine Ext.trans ?_ (by assumption))))).mono ?_); rintro e w5 hr5; obtain ⟨r5, rfl, rfl, e5⟩ := ret_ext hr5; clear hr5; have ez5 : Ext w0 w5 := (by repeat (first | exact Ext.refl _ | assumption | (refine Ext.trans ?_ (Ext.alloc _ _)) | (refine Ext.trans ?_ (Ext.drew _)) | (refine Ext.trans ?_ (by assumption))))) | (go_at_call 75; (with_reducible refine (HL1.out _ (by repeat (first | exact Ext.refl _ | assumption | (refine Ext.trans ?_ (Ext.alloc _ _)) | (refine Ext.trans ?_ (Ext.drew _)) | (refine Ext.trans ?_ (by assumption))))).mono ?_); rintro e w6 hr6; obtain ⟨r6, rfl, ⟨x6, rfl, L6⟩, e6⟩ := ret_ext hr6; clear hr6; have ez6 : Ext w0 w6 := (by repeat (first | exact Ext.refl _ | assumption | (refine Ext.trans ?_ (Ext.alloc _ _)) | (refine Ext.trans ?_ (Ext.drew _)) | (refine Ext.trans ?_ (by assumption))))) | (go_at_call 74; (with_reducible refine (HP.out _ _ _ (stable_rows.ext L6 (by repeat (first | exact Ext.refl _ | assumption | (refine Ext.trans ?_ (Ext.alloc _ _)) | (refine Ext.trans ?_ (Ext.drew _)) | (refine Ext.trans ?_ (by assumption)))))).mono ?_); rintro e w7 hr7; obtain ⟨r7, rfl, P7, e7⟩ := ret_ext hr7; clear hr7; have ez7 : Ext w0 w7 := (by repeat (first | exact Ext.refl _ | assumption | (refine Ext.trans ?_ (Ext.alloc _ _)) | (refine Ext.trans ?_ (Ext.drew _)) | (refine Ext.trans ?_ (by assumption))))) | (go_at_call 73; (with_reducible refine (HT.out _ _ _ (stable_rows.ext P7 (by repeat (first | exact Ext.refl _ | assumption | (refine Ext.trans ?_ (Ext.alloc _ _)) | (refine Ext.trans ?_ (Ext.drew _)) | (refine Ext.trans ?_ (by assumption)))))).mono ?_); rintro e w8 hr8; obtain ⟨r8, rfl, rfl, e8⟩ := ret_ext hr8; clear hr8; have ez8 : Ext w0 w8 := (by repeat (first | exact Ext.refl _ | assumption | (refine Ext.trans ?_ (Ext.alloc _ _)) | (refine Ext.trans ?_ (Ext.drew _)) | (refine Ext.trans ?_ (by assumption))))) | fail)
  all_goals go_wp2_with fail
  all_goals go_ret
  all_goals exact ⟨_, rfl, by rw [HR.out]; rfl, e0.trans ez8⟩
end Go.Proofs.YtkeikjedbfomnaaGreatDoor
