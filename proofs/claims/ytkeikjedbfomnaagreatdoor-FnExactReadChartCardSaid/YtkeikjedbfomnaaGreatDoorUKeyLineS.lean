/- Proved: the line of a row, the reference. -/
import Derived.Test.YtkeikjedbfomnaaGreatDoorChecked
import Derived.Deep.RegionHeld3
import Derived.Test.YtkeikjedbfomnaaGreatDoorUKeyLineI
import Derived.Test.YtkeikjedbfomnaaGreatDoorUPkT1
namespace Go.Proofs.YtkeikjedbfomnaaGreatDoor
open Go.ChangeShapes Go.WideShapes Go.ChangeAt Go.RowKit
set_option linter.unusedVariables false

set_option maxRecDepth 20000 in
set_option maxHeartbeats 1000000 in
theorem l27Key_c (w : World) (mk : MK) (v : Value) (z : Zone) (t : List (List Int)) (h : RowsR z w v t) (u : Value) (y : Zone) (cuts : List (List Int)) (hc : RowsR y w u cuts) (ok : DesignOk mk t cuts) (k : Nat) (hk : k < cuts.length) :
    Calls Tryz.prog 46 #[sysV mk v, u, .int .i64 (k : Int)] w (Ret w fun r _ => r = .string (keyLineV t cuts k)) := by
  have hkt : k < t.length := by rw [← ok.eq]; exact hk
  have hl10 := ok.len
  obtain ⟨hc6, hcd⟩ := cutDigs ok hk
  obtain ⟨hr12, hrd⟩ := rowDigs ok hkt
  have HTx : Hid (∀ w', Ext w w' → Calls Tryz.prog 67 #[.int .i64 (k : Int)] w' (Ret w' fun r _ => r = .string (strOf (numD k)))) := fun w' _ => l01Dec_c k w' (by omega)
  have HJ := Lib.hid (fun (xs : List Int) (hx : ∀ x ∈ xs, 0 ≤ x ∧ x < 10) (hl : xs.length ≤ 12) (w' : World) (_ : Ext w w') (v : Value) (z : Zone) (g : IntsR z w' v xs) => l02Text_c w' v z xs g (fun x q => by have := hx x q; omega) (by omega))
  obtain ⟨a, n, cap, rfl, hn, -⟩ := SliceR.shape h
  obtain ⟨a2, n2, cap2, rfl, hn2, -⟩ := SliceR.shape hc
  obtain ⟨b, off, rfl, at1, nt, ct, -, -, -, hct, ⟨yt, -, hyt⟩, -⟩ := rows_at h (k := k) (by omega)
  obtain ⟨b2, off2, rfl, ac, nc, cc, -, -, -, hcc, ⟨yc, -, hyc⟩, -⟩ := rows_at hc (k := k) (by omega)
  have HJ1 := Lib.hid (fun (w' : World) (e : Ext w w') => HJ.out _ hcd (by omega) w' e (.slice ac nc cc) yc (hyc w' e))
  have HJ2 := Lib.hid (fun (w' : World) (e : Ext w w') => HJ.out _ hrd hr12 w' e (.slice at1 nt ct) yt (hyt w' e))
  have HR : Hid (keyLineV t cuts k = (((((⟨#[107, 101, 121, 32]⟩ : ByteArray) ++ strOf (numD k)) ++ ⟨#[32]⟩) ++ strOf (digsD (cuts.getD k []))) ++ ⟨#[32]⟩) ++ strOf (digsD (t.getD k []))) := rfl
  have hA : (strOf (numD k)).size ≤ 11 := by rw [strOf_size]; exact dec_len10 (by omega)
  have hB : (strOf (digsD (cuts.getD k []))).size ≤ 6 := by rw [strOf_size, digsD_len]; exact hc6
  have hC : (strOf (digsD (t.getD k []))).size ≤ 12 := by rw [strOf_size, digsD_len]; exact hr12
  generalize keyLineV t cuts k = res at *
  generalize strOf (numD k) = A at *
  generalize strOf (digsD (cuts.getD k [])) = B at *
  generalize strOf (digsD (t.getD k [])) = C at *
  have hkn : k < n := by omega
  have hkn2 : k < n2 := by omega
  have hs1 : ¬ (9223372036854775807 < 4 + A.size) := by omega
  have hs2 : ¬ (9223372036854775807 < 4 + A.size + 1) := by omega
  have hs3 : ¬ (9223372036854775807 < 4 + A.size + 1 + B.size) := by omega
  have hs4 : ¬ (9223372036854775807 < 4 + A.size + 1 + B.size + 1) := by omega
  have hs5 : ¬ (9223372036854775807 < 4 + A.size + 1 + B.size + 1 + C.size) := by omega
  have Hct := Lib.hid hct
  have Hcc := Lib.hid hcc
  clear HJ h hc ok hk hkt hcd hrd hn hn2 hc6 hr12 hA hB hC hl10 hct hcc hyt hyc
  unfold sysV
  go_enter Tryz.func46, Tryz.ntmps46
  go_wp2_with fail
  generalize hw0 : World.alloc _ _ = w0
  obtain ⟨e0, S0⟩ := sys_box hw0
  clear hw0
  have HCel : Hid (∀ w', Ext w0 w' → (w'.cell? ⟨w.heap.size, 0, none⟩ = some (.int .i64 mk.c) ∧ w'.cell? ⟨w.heap.size, 1, none⟩ = some (.int .i64 mk.d) ∧ w'.cell? ⟨w.heap.size, 2, none⟩ = some (.int .i64 mk.s) ∧ w'.cell? ⟨w.heap.size, 3, none⟩ = some (.int .i64 mk.m) ∧ w'.cell? ⟨w.heap.size, 4, none⟩ = some (.int .i64 mk.l) ∧ w'.cell? ⟨w.heap.size, 5, none⟩ = some (.slice (some ⟨b, off, none⟩) n cap)) ∧ w'.cell? ⟨b, off + k, none⟩ = some (.slice at1 nt ct) ∧ w'.cell? ⟨b2, off2 + k, none⟩ = some (.slice ac nc cc)) := fun w' e => ⟨S0.all e, Hct.out w' (e0.trans e), Hcc.out w' (e0.trans e)⟩
  have HTx1 := Lib.hid (fun (w' : World) (e : Ext w0 w') => HTx.out w' (e0.trans e))
  have HJ11 := Lib.hid (fun (w' : World) (e : Ext w0 w') => HJ1.out w' (e0.trans e))
  have HJ21 := Lib.hid (fun (w' : World) (e : Ext w0 w') => HJ2.out w' (e0.trans e))
  clear S0 HTx HJ1 HJ2 Hct Hcc
  go_region_held3 (fun w' => (w'.cell? ⟨w.heap.size, 0, none⟩ = some (.int .i64 mk.c) ∧ w'.cell? ⟨w.heap.size, 1, none⟩ = some (.int .i64 mk.d) ∧ w'.cell? ⟨w.heap.size, 2, none⟩ = some (.int .i64 mk.s) ∧ w'.cell? ⟨w.heap.size, 3, none⟩ = some (.int .i64 mk.m) ∧ w'.cell? ⟨w.heap.size, 4, none⟩ = some (.int .i64 mk.l) ∧ w'.cell? ⟨w.heap.size, 5, none⟩ = some (.slice (some ⟨b, off, none⟩) n cap)) ∧ w'.cell? ⟨b, off + k, none⟩ = some (.slice at1 nt ct) ∧ w'.cell? ⟨b2, off2 + k, none⟩ = some (.slice ac nc cc)) (exact HCel.out _ (by repeat (first | exact Ext.refl _ | assumption | (refine Ext.trans ?_ (Ext.alloc _ _)) | (refine Ext.trans ?_ (Ext.drew _)) | (refine Ext.trans ?_ (by assumption))))) (first | (go_at_call 67; (with_reducible refine (HTx1.out _ (by repeat (first | exact Ext.refl _ | assumption | (refine Ext.trans ?_ (Ext.alloc _ _)) | (refine Ext.trans ?_ (Ext.drew _)) | (refine Ext.trans ?_ (by assumption))))).mono ?_); rintro e w5 hr5; obtain ⟨r5, rfl, rfl, e5⟩ := ret_ext hr5; clear hr5; have ez5 : Ext w0 w5 := (by repeat (first | exact Ext.refl _ | assumption | (refine Ext.trans ?_ (Ext.alloc _ _)) | (refine Ext.trans ?_ (Ext.drew _)) | (refine Ext.trans ?_ (by assumption))))) | (go_at_call 72; (with_reducible refine (HJ11.out _ (by repeat (first | exact Ext.refl _ | assumption | (refine Ext.trans ?_ (Ext.alloc _ _)) | (refine Ext.trans ?_ (Ext.drew _)) | (refine Ext.trans ?_ (by assumption))))).mono ?_); rintro e w6 hr6; obtain ⟨r6, rfl, rfl, e6⟩ := ret_ext hr6; clear hr6; have ez6 : Ext w0 w6 := (by repeat (first | exact Ext.refl _ | assumption | (refine Ext.trans ?_ (Ext.alloc _ _)) | (refine Ext.trans ?_ (Ext.drew _)) | (refine Ext.trans ?_ (by assumption))))) | (go_at_call 72; (with_reducible refine (HJ21.out _ (by repeat (first | exact Ext.refl _ | assumption | (refine Ext.trans ?_ (Ext.alloc _ _)) | (refine Ext.trans ?_ (Ext.drew _)) | (refine Ext.trans ?_ (by assumption))))).mono ?_); rintro e w7 hr7; obtain ⟨r7, rfl, rfl, e7⟩ := ret_ext hr7; clear hr7; have ez7 : Ext w0 w7 := (by repeat (first | exact Ext.refl _ | assumption | (refine Ext.trans ?_ (Ext.alloc _ _)) | (refine Ext.trans ?_ (Ext.drew _)) | (refine Ext.trans ?_ (by assumption))))) | fail)
  all_goals go_wp2_with fail
  all_goals go_ret
  all_goals exact ⟨_, rfl, by rw [HR.out]; rfl, e0.trans (by repeat (first | exact Ext.refl _ | assumption | (refine Ext.trans ?_ (Ext.alloc _ _)) | (refine Ext.trans ?_ (Ext.drew _)) | (refine Ext.trans ?_ (by assumption))))⟩
end Go.Proofs.YtkeikjedbfomnaaGreatDoor
