/- Proved: the line of a door, the program. -/
import Derived.Test.YtkeikjedbfomnaaGreatDoorChecked
import Derived.Deep.RegionHeld3
import Derived.Test.YtkeikjedbfomnaaGreatDoorUPinText
import Derived.Test.YtkeikjedbfomnaaGreatDoorUKeyLineI
import Derived.Test.YtkeikjedbfomnaaGreatDoorUPkC
namespace Go.Proofs.YtkeikjedbfomnaaGreatDoor
open Go.ChangeShapes Go.WideShapes Go.ChangeAt Go.RowKit
set_option linter.unusedVariables false

def pinsAt (mk : MK) (t cuts : List (List Int)) (d : Nat) : List (List Int) := pinsL mk.d ((locks mk t cuts).getD d [])
/-- the answer for the line of a door -/
def doorLineM (mk : MK) (t cuts : List (List Int)) (k : Int) : ByteArray × Int := if designCode mk t cuts ≠ 0 then (⟨#[]⟩, designCode mk t cuts) else if inB k 0 ((doorsOf t : Int) - 1) = true then (doorLineV k.toNat (pinsAt mk t cuts k.toNat), 0) else (⟨#[]⟩, 2)
theorem doorLine_bad {mk : MK} {t cuts : List (List Int)} {k : Int} (h : designCode mk t cuts ≠ 0) : doorLineM mk t cuts k = (⟨#[]⟩, designCode mk t cuts) := by unfold doorLineM; rw [if_pos h]
theorem doorLine_range {mk : MK} {t cuts : List (List Int)} {k : Int} (h : designCode mk t cuts = 0) (h2 : inB k 0 ((doorsOf t : Int) - 1) = false) : doorLineM mk t cuts k = (⟨#[]⟩, 2) := by unfold doorLineM; rw [if_neg (by simpa using h), if_neg (by rw [h2]; decide)]
theorem doorLine_ok {mk : MK} {t cuts : List (List Int)} {k : Int} (h : designCode mk t cuts = 0) (h2 : inB k 0 ((doorsOf t : Int) - 1) = true) : doorLineM mk t cuts k = (doorLineV k.toNat (pinsAt mk t cuts k.toNat), 0) := by unfold doorLineM; rw [if_neg (by simpa using h), if_pos h2]
theorem doorOk {mk : MK} {t cuts : List (List Int)} (ok : DesignOk mk t cuts) {d : Nat} (hd : d < doorsOf t) : LockOk mk ((locks mk t cuts).getD d []) := design_lock ok hd
theorem pinsAt_ok {mk : MK} {t cuts : List (List Int)} (ok : DesignOk mk t cuts) {d : Nat} (hd : d < doorsOf t) : PinsOk (pinsAt mk t cuts d) := pinsOk (doorOk ok hd)

set_option maxRecDepth 20000 in
set_option maxHeartbeats 1000000 in
theorem doorLine_c (w : World) (hT : Pow10 w) (mk : MK) (v u : Value) (a : Option Addr) (n cap : Nat) (hv : v = .slice a n cap) (z : Zone) (ls : List (List (List Int))) (h : LocksR z w u ls) (d : Nat) (hd : d < ls.length) (hd2 : d ≤ 1000) (ok : LockOk mk (ls.getD d [])) :
    Calls Tryz.prog 56 #[sysV mk v, u, .int .i64 (d : Int)] w (Ret w fun r _ => r = .string (doorLineV d (pinsL mk.d (ls.getD d [])))) := by
  subst hv
  have HTx : Hid (∀ w', Ext w w' → Calls Tryz.prog 86 #[.int .i64 (d : Int)] w' (Ret w' fun r _ => r = .string (strOf (numD d)))) := fun w' e => text_c w' (hT.ext e) d (by omega)
  have HPT := Lib.hid (fun (w' : World) (e : Ext w w') (x : Value) (zx : Zone) (g : RowsR zx w' x (ls.getD d [])) => PinsText_c w' (hT.ext e) mk x zx _ g ok)
  have HR : Hid (doorLineV d (pinsL mk.d (ls.getD d [])) = (((⟨#[100, 111, 111, 114, 32]⟩ : ByteArray) ++ strOf (numD d)) ++ ⟨#[32]⟩) ++ strOf (pinsD (pinsL mk.d (ls.getD d [])))) := rfl
  have hA : (strOf (numD (d : Int))).size ≤ 11 := by rw [strOf_size]; exact dec_len10 (by omega)
  have hB : (strOf (pinsD (pinsL mk.d (ls.getD d [])))).size ≤ 114 := by rw [strOf_size]; exact pinsD_len (pinsOk ok)
  obtain ⟨a2, n2, cap2, rfl, hn2, -⟩ := SliceR.shape h
  obtain ⟨b, off, rfl, a3, m3, k3, -, hcl, yl, -, hyl⟩ := locks_at h (k := d) (by omega)
  have HPT1 := Lib.hid (fun (w' : World) (e : Ext w w') => HPT.out w' e _ yl (hyl w' e))
  generalize doorLineV d (pinsL mk.d (ls.getD d [])) = res at *
  generalize strOf (numD (d : Int)) = A at *
  generalize strOf (pinsD (pinsL mk.d (ls.getD d []))) = B at *
  have hdn : d < n2 := by omega
  have hs1 : ¬ (9223372036854775807 < 5 + A.size) := by omega
  have hs2 : ¬ (9223372036854775807 < 5 + A.size + 1) := by omega
  have hs3 : ¬ (9223372036854775807 < 5 + A.size + 1 + B.size) := by omega
  have Hcl := Lib.hid hcl
  clear HPT h hd ok hn2 hA hB hcl hyl hT hd2
  unfold sysV MK.v at *
  go_enter Tryz.func56, Tryz.ntmps56
  go_wp2_with fail
  generalize hw0 : World.alloc _ _ = w0
  obtain ⟨e0, S0⟩ := sys_box hw0
  clear hw0
  have HCel : Hid (∀ w', Ext w0 w' → (w'.cell? ⟨w.heap.size, 0, none⟩ = some (.int .i64 mk.c) ∧ w'.cell? ⟨w.heap.size, 1, none⟩ = some (.int .i64 mk.d) ∧ w'.cell? ⟨w.heap.size, 2, none⟩ = some (.int .i64 mk.s) ∧ w'.cell? ⟨w.heap.size, 3, none⟩ = some (.int .i64 mk.m) ∧ w'.cell? ⟨w.heap.size, 4, none⟩ = some (.int .i64 mk.l) ∧ w'.cell? ⟨w.heap.size, 5, none⟩ = some (.slice a n cap)) ∧ w'.cell? ⟨b, off + d, none⟩ = some (.slice a3 m3 k3)) := fun w' e => ⟨S0.all e, Hcl.out w' (e0.trans e)⟩
  have HTx1 := Lib.hid (fun (w' : World) (e : Ext w0 w') => HTx.out w' (e0.trans e))
  have HPT2 := Lib.hid (fun (w' : World) (e : Ext w0 w') => HPT1.out w' (e0.trans e))
  clear S0 HTx HPT1 Hcl
  go_region_held3 (fun w' => (w'.cell? ⟨w.heap.size, 0, none⟩ = some (.int .i64 mk.c) ∧ w'.cell? ⟨w.heap.size, 1, none⟩ = some (.int .i64 mk.d) ∧ w'.cell? ⟨w.heap.size, 2, none⟩ = some (.int .i64 mk.s) ∧ w'.cell? ⟨w.heap.size, 3, none⟩ = some (.int .i64 mk.m) ∧ w'.cell? ⟨w.heap.size, 4, none⟩ = some (.int .i64 mk.l) ∧ w'.cell? ⟨w.heap.size, 5, none⟩ = some (.slice a n cap)) ∧ w'.cell? ⟨b, off + d, none⟩ = some (.slice a3 m3 k3)) (exact HCel.out _ (by repeat (first | exact Ext.refl _ | assumption | (refine Ext.trans ?_ (Ext.alloc _ _)) | (refine Ext.trans ?_ (Ext.drew _)) | (refine Ext.trans ?_ (by assumption))))) (first | (go_at_call 87; (with_reducible refine (HPT2.out _ (by repeat (first | exact Ext.refl _ | assumption | (refine Ext.trans ?_ (Ext.alloc _ _)) | (refine Ext.trans ?_ (Ext.drew _)) | (refine Ext.trans ?_ (by assumption))))).mono ?_); rintro e w5 hr5; obtain ⟨r5, rfl, rfl, e5⟩ := ret_ext hr5; clear hr5; have ez5 : Ext w0 w5 := (by repeat (first | exact Ext.refl _ | assumption | (refine Ext.trans ?_ (Ext.alloc _ _)) | (refine Ext.trans ?_ (Ext.drew _)) | (refine Ext.trans ?_ (by assumption))))) | fail)
  all_goals go_wp2_with fail
  all_goals refine Calls.mono (HTx1.out w5 ez5) ?_
  all_goals rintro e w6 hr
  all_goals obtain ⟨r, rfl, rfl, e6⟩ := ret_ext hr
  all_goals clear hr
  all_goals go_wp2_with fail
  all_goals go_ret
  all_goals exact ⟨_, rfl, by rw [HR.out]; rfl, (e0.trans ez5).trans e6⟩
end Go.Proofs.YtkeikjedbfomnaaGreatDoor
