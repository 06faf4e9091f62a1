/- Proved: the line of a row, the reference. -/
import Derived.Test.YtpcgbfogkcbddaaGreatDoorChecked
import Derived.Deep.RegionHeld3
import Derived.Test.YtpcgbfogkcbddaaGreatDoorUKeyLineI
import Derived.Test.YtpcgbfogkcbddaaGreatDoorUPkT1
namespace Go.Proofs.YtpcgbfogkcbddaaGreatDoor
open Go.ChangeShapes Go.WideShapes Go.ChangeAt Go.RowKit
set_option linter.unusedVariables false

set_option maxRecDepth 20000 in
set_option maxHeartbeats 1000000 in
theorem l27Key_c (w : World) (mk : MK) (v : Value) (z : Zone) (t : List (List Int)) (h : RowsR z w v t) (u : Value) (y : Zone) (cuts : List (List Int)) (hc : RowsR y w u cuts) (ok : DesignOk mk t cuts) (k : Nat) (hk : k < cuts.length) :
    Calls Tryz.prog 44 #[sysV mk v, u, .int .i64 (k : Int)] w (Ret w fun r _ => r = .string (keyLineV t cuts k)) := by
  have hkt : k < t.length := by rw [← ok.eq]; exact hk
  have hl10 := ok.len
  obtain ⟨hc6, hcd⟩ := cutDigs ok hk
  obtain ⟨hr12, hrd⟩ := rowDigs ok hkt
  have HTx : Hid (∀ w', Ext w w' → Calls Tryz.prog 80 #[.int .i64 (k : Int)] w' (Ret w' fun r _ => r = .string (strOf (numD k)))) := fun w' _ => l01Dec_c k w' (by omega)
  have HJ := Lib.hid (fun (xs : List Int) (hx : ∀ x ∈ xs, 0 ≤ x ∧ x < 10) (hl : xs.length ≤ 12) (w' : World) (_ : Ext w w') (v : Value) (z : Zone) (g : IntsR z w' v xs) => l02Text_c w' v z xs g (fun x q => by have := hx x q; omega) (by omega))
  obtain ⟨a, n, cap, rfl, hn, -⟩ := SliceR.shape h
  obtain ⟨a2, n2, cap2, rfl, hn2, -⟩ := SliceR.shape hc
  obtain ⟨b, off, rfl, at1, nt, ct, -, -, -, hct, ⟨yt, -, hyt⟩, -⟩ := rows_at h (k := k) (by omega)
  obtain ⟨b2, off2, rfl, ac, nc, cc, -, -, -, hcc, ⟨yc, -, hyc⟩, -⟩ := rows_at hc (k := k) (by omega)
  have HJ1 := Lib.hid (fun (w' : World) (e : Ext w w') => HJ.out _ hcd (by omega) w' e (.slice ac nc cc) yc (hyc w' e))
  have HJ2 := Lib.hid (fun (w' : World) (e : Ext w w') => HJ.out _ hrd hr12 w' e (.slice at1 nt ct) yt (hyt w' e))
  have HR : Hid (keyLineV t cuts k = (((((⟨#[107, 101, 121, 32]⟩ : ByteArray) ++ strOf (numD k)) ++ ⟨#[32]⟩) ++ strOf (digsD (cuts.getD k []))) ++ ⟨#[32]⟩) ++ strOf (digsD (t.getD k []))) := rfl
  have hA : (strOf (numD k)).size ≤ 11 := by rw [strOf_size]; exact dec_len10 (by omega)
  have hB : (strOf (digsD (cuts.getD k []))).size ≤ 6 := by rw [strOf_size, digsD_len]; exact hc6
  have hC : (strOf (digsD (t.getD k []))).size ≤ 12 := by rw [strOf_size, digsD_len]; exact hr12
  generalize keyLineV t cuts k = res at *
  generalize strOf (numD k) = A at *
  generalize strOf (digsD (cuts.getD k [])) = B at *
  generalize strOf (digsD (t.getD k [])) = C at *
  have hkn : k < n := by omega
  have hkn2 : k < n2 := by omega
  have hs1 : ¬ (9223372036854775807 < 4 + A.size) := by omega
  have hs2 : ¬ (9223372036854775807 < 4 + A.size + 1) := by omega
  have hs3 : ¬ (9223372036854775807 < 4 + A.size + 1 + B.size) := by omega
  have hs4 : ¬ (9223372036854775807 < 4 + A.size + 1 + B.size + 1) := by omega
  have hs5 : ¬ (9223372036854775807 < 4 + A.size + 1 + B.size + 1 + C.size) := by omega
  have Hct := Lib.hid hct
  have Hcc := Lib.hid hcc
  clear HJ h hc ok hk hkt hcd hrd hn hn2 hc6 hr12 hA hB hC hl10 hct hcc hyt hyc
  unfold sysV
  go_enter Tryz.func44, Tryz.ntmps44
  go_wp2_with fail
  generalize hw0 : World.alloc _ _ = w0
  obtain ⟨e0, S0⟩ := sys_box hw0
  clear hw0
  have HCel : Hid (∀ w', Ext w0 w' → (w'.cell? ⟨w.heap.size, 0, none⟩ = some (.int .i64 mk.c) ∧ w'.cell? ⟨w.heap.size, 1, none⟩ = some (.int .i64 mk.d) ∧ w'.cell? ⟨w.heap.size, 2, none⟩ = some (.int .i64 mk.s) ∧ w'.cell? ⟨w.heap.size, 3, none⟩ = some (.int .i64 mk.m) ∧ w'.cell? ⟨w.heap.size, 4, none⟩ = some (.int .i64 mk.l) ∧ w'.cell? ⟨w.heap.size, 5, none⟩ = some (.slice (some ⟨b, off, none⟩) n cap)) ∧ w'.cell? ⟨b, off + k, none⟩ = some (.slice at1 nt ct) ∧ w'.cell? ⟨b2, off2 + k, none⟩ = some (.slice ac nc cc)) := fun w' e => ⟨S0.all e, Hct.out w' (e0.trans e), Hcc.out w' (e0.trans e)⟩
  have HTx1 := Lib.hid (fun (w' : World) (e : Ext w0 w') => HTx.out w' (e0.trans e))
  have HJ11 := Lib.hid (fun (w' : World) (e : Ext w0 w') => HJ1.out w' (e0.trans e))
  have HJ21 := Lib.hid (fun (w' : World) (e : Ext w0 w') => HJ2.out w' (e0.trans e))
  clear S0 HTx HJ1 HJ2 Hct Hcc
  go_region_held3 (fun w' => (w'.cell? ⟨w.heap.size, 0, none⟩ = some (.int .i64 mk.c) ∧ w'.cell? ⟨w.heap.size, 1, none⟩ = some (.int .i64 mk.d) ∧ w'.cell? ⟨w.heap.size, 2, none⟩ = some (.int .i64 mk.s) ∧ w'.cell? ⟨w.heap.size, 3, none⟩ = some (.int .i64 mk.m) ∧ w'.cell? ⟨w.heap.size, 4, none⟩ = some (.int .i64 mk.l) ∧ w'.cell? ⟨w.heap.size, 5, none⟩ = some (.slice (some ⟨b, off, none⟩) n cap)) ∧ w'.cell? ⟨b, off + k, none⟩ = some (.slice at1 nt ct) ∧ w'.cell? ⟨b2, off2 + k, none⟩ = some (.slice ac nc cc)) (exact HCel.out _ (by repeat (first | exact Ext.refl _ | assumption | (refine Ext.trans ?_ (Ext.alloc _ _)) | (refine Ext.trans ?_ (Ext.drew _)) | (refine Ext.trans ?_ (by assumption))))) (first | (go_at_call 80; (with_reducible refine (HTx1.out _ (by repeat (first | exact Ext.refl _ | assumption | (refine Ext.trans ?_ (Ext.alloc _ _)) | (refine Ext.trans ?_ (Ext.drew _)) | (refine Ext.trans ?_ (by assumption))))).mono ?_); rintro e w5 hr5; obtain ⟨r5, rfl, rfl, e5⟩ := ret_ext hr5; clear hr5; have ez5 : Ext w0 w5 := (by repeat (first | exact Ext.refl _ | assumption | (refine Ext.trans ?_ (Ext.alloc _ _)) | (refine Ext.trans ?_ (Ext.drew _)) | (refine Ext.trans ?_ (by assumption))))) | (go_at_call 81; (with_reducible refine (HJ11.out _ (by repeat (first | exact Ext.refl _ | assumption | (refine Ext.trans ?_ (Ext.alloc _ _)) | (refine Ext.trans ?_ (Ext.drew _)) | (refine Ext.trans ?_ (by assumption))))).mono ?_); rintro e w6 hr6; obtain ⟨r6, rfl, rfl, e6⟩ := ret_ext hr6; clear hr6; have ez6 : Ext w0 w6 := (by repeat (first | exact Ext.refl _ | assumption | (refine Ext.trans ?_ (Ext.alloc _ _)) | (refine Ext.trans ?_ (Ext.drew _)) | (refine Ext.trans ?_ (by assumption))))) | (go_at_call 81; (with_reducible refine (HJ21.out _ (by repeat (first | exact Ext.refl _ | assumption | (refine Ext.trans ?_ (Ext.alloc _ _)) | (refine Ext.trans ?_ (Ext.drew _)) | (refine Ext.trans ?_ (by assumption))))).mono ?_); rintro e w7 hr7; obtain ⟨r7, rfl, rfl, e7⟩ := ret_ext hr7; clear hr7; have ez7 : Ext w0 w7 := (by repeat (first | exact Ext.refl _ | assumption | (refine Ext.trans ?_ (Ext.alloc _ _)) | (refine Ext.trans ?_ (Ext.drew _)) | (refine Ext.trans ?_ (by assumption))))) | fail)
  all_goals go_wp2_with fail
  all_goals go_ret
  all_goals exact ⟨_, rfl, by rw [HR.out]; rfl, e0.trans (by repeat (first | exact Ext.refl _ | assumption | (refine Ext.trans ?_ (Ext.alloc _ _)) | (refine Ext.trans ?_ (Ext.drew _)) | (refine Ext.trans ?_ (by assumption))))⟩

set_option maxRecDepth 20000 in
set_option maxHeartbeats 1000000 in
theorem l15Pair_c (w : World) (mk : MK) (v : Value) (z : Zone) (t : List (List Int)) (h : RowsR z w v t) (h1 : 1 ≤ t.length ∧ t.length ≤ 1000) (h2 : doorsOf t ≤ 1000) (k d : Int) :
    Calls Tryz.prog 43 #[sysV mk v, .int .i64 k, .int .i64 d] w (Ret w fun r _ => r = .bool (inB k 0 ((t.length : Int) - 1) && inB d 0 ((doorsOf t : Int) - 1))) := by
  obtain ⟨a, n, cap, rfl, hn, -⟩ := SliceR.shape h
  obtain ⟨b, off, rfl, a0, m, cp, hmE, -, -, hcr, -⟩ := rows_at h (k := 0) (by omega)
  have hmE2 : doorsOf t = m := hmE.symm
  rw [← hn, hmE2]
  rw [hmE2] at h2
  rw [← hn] at h1
  have hw1 : IntKind.i64.wrap ((n : Int) - 1) = (n : Int) - 1 := IntWalk.i64_in _ (by omega)
  have hw2 : IntKind.i64.wrap ((m : Int) - 1) = (m : Int) - 1 := IntWalk.i64_in _ (by omega)
  have hn0 : 0 < n := by omega
  have HCr : Hid (∀ w', Ext w w' → w'.cell? ⟨b, off, none⟩ = some (.slice a0 m cp)) := fun w' e => hcr w' e
  clear h hn hmE hmE2 hcr
  unfold sysV
  go_enter Tryz.func43, Tryz.ntmps43
  go_wp2_with fail
  generalize hw0 : World.alloc _ _ = w0
  obtain ⟨e0, S0⟩ := sys_box hw0
  clear hw0
  have HS := Lib.hid S0
  obtain ⟨c0, c1, c2, c3, c4, c5⟩ := S0.all (Ext.refl _)
  clear S0
  go_wp2_with fail
  refine Calls.mono (l01In_c w0 k 0 ((n : Int) - 1)) ?_
  rintro e w1 hr
  obtain ⟨rfl, hd2, g2⟩ := retq_ext hr
  clear hr c0 c1 c2 c3 c4 c5
  have et := e0.trans g2
  obtain ⟨c0, c1, c2, c3, c4, c5⟩ := HS.out.all g2
  have cr := HCr.out w1 et
  cases h0 : inB k 0 ((n : Int) - 1) with
  | false =>
    go_wp2_with fail
    go_ret
    exact ⟨_, rfl, by rw [h0]; rfl, et⟩
  | true =>
    go_wp2_with fail
    refine Calls.mono (l01In_c w1 d 0 ((m : Int) - 1)) ?_
    rintro e w2 hr
    obtain ⟨rfl, hd3, g3⟩ := retq_ext hr
    clear hr
    go_wp2_with fail
    go_ret
    exact ⟨_, rfl, by rw [h0]; rfl, et.trans g3⟩

set_option maxRecDepth 20000 in
set_option maxHeartbeats 1000000 in
theorem KeyLineSpec_c (w : World) (mk : MK) (v : Value) (z : Zone) (t : List (List Int)) (h : RowsR z w v t) (u : Value) (y : Zone) (cuts : List (List Int)) (hc : RowsR y w u cuts) (k : Int) :
    Calls Tryz.prog 11 #[sysV mk v, u, .int .i64 k] w (Ret w fun r _ => r = StrCode (keyLineM mk t cuts k)) := by
  have HD := Lib.hid (fun (w' : World) (e : Ext w w') => l21Code_c w' mk v z t (stable_rows.ext h e) u y cuts (stable_rows.ext hc e))
  have HP := Lib.hid (fun (h0 : designCode mk t cuts = 0) (w' : World) (e : Ext w w') => by
    have ok := designCode_zero h0
    have h1 := l15Pair_c w' mk v z t (stable_rows.ext h e) (by have := ok.len; omega) (by have := ok.doors; omega) k 0
    have h2 : inB 0 0 ((doorsOf t : Int) - 1) = true := inB_iff.2 (by have := ok.doors; omega)
    rw [h2, Bool.and_true, ← ok.eq] at h1
    exact h1)
  have HK := Lib.hid (fun (h0 : designCode mk t cuts = 0) (m : Nat) (hm : m < cuts.length) (w' : World) (e : Ext w w') => l27Key_c w' mk v z t (stable_rows.ext h e) u y cuts (stable_rows.ext hc e) (designCode_zero h0) m hm)
  have H1 : Hid (designCode mk t cuts ≠ 0 → keyLineM mk t cuts k = (⟨#[]⟩, designCode mk t cuts)) := keyLine_bad
  have H2 : Hid (designCode mk t cuts = 0 → inB k 0 ((cuts.length : Int) - 1) = false → keyLineM mk t cuts k = (⟨#[]⟩, 2)) := keyLine_range
  have H3 : Hid (designCode mk t cuts = 0 → inB k 0 ((cuts.length : Int) - 1) = true → keyLineM mk t cuts k = (keyLineV t cuts k.toNat, 0)) := keyLine_ok
  obtain ⟨a, n, cap, rfl, -⟩ := SliceR.shape h
  obtain ⟨a2, n2, cap2, rfl, hn2, -⟩ := SliceR.shape hc
  rw [← hn2] at H2 H3 HK HP
  clear h hc hn2
  generalize keyLineV t cuts = kV at *
  generalize keyLineM mk t cuts k = res at *
  generalize designCode mk t cuts = dc at *
  unfold sysV at *
  go_enter Tryz.func11, Tryz.ntmps11
  go_wp2_with fail
  generalize hw0 : World.alloc _ _ = w0
  obtain ⟨e0, S0⟩ := sys_box hw0
  clear hw0
  have HS := Lib.hid S0
  refine Calls.mono (HD.out w0 e0) ?_
  rintro e w1 hr
  obtain ⟨r, rfl, rfl, e1⟩ := ret_ext hr
  clear hr S0
  have et := e0.trans e1
  obtain ⟨c0, c1, c2, c3, c4, c5⟩ := HS.out.all e1
  by_cases hd : dc = 0
  · have H2' := Lib.hid (H2.out hd)
    have H3' := Lib.hid (H3.out hd)
    have HK' := Lib.hid (HK.out hd)
    have HP' := Lib.hid (HP.out hd w1 et)
    clear H1 H2 H3 HK HD HP
    subst hd
    go_wp2_with fail
    refine Calls.mono HP'.out ?_
    rintro e w2 hr
    obtain ⟨r, rfl, rfl, g2⟩ := ret_ext hr
    clear hr c0 c1 c2 c3 c4 c5
    have et2 := et.trans g2
    obtain ⟨c0, c1, c2, c3, c4, c5⟩ := HS.out.all (e1.trans g2)
    cases h0 : inB k 0 ((n2 : Int) - 1) with
    | false =>
      have HH := Lib.hid (H2'.out h0)
      clear H2' H3' h0 HP'
      go_wp2_with fail
      go_ret2
      exact ⟨_, rfl, by rw [HH.out]; rfl, et2⟩
    | true =>
      have h0' := inB_iff.1 h0
      obtain ⟨m, rfl⟩ := Int.eq_ofNat_of_zero_le h0'.1
      have HH : Hid (res = (kV m, 0)) := H3'.out h0
      have HK2 := Lib.hid (HK'.out m (by omega) w2 et2)
      clear H2' H3' h0 h0' HK' HP'
      generalize kV m = km at *
      go_wp2_with fail
      refine Calls.mono HK2.out ?_
      rintro e w3 hr
      obtain ⟨r, rfl, rfl, e3⟩ := ret_ext hr
      clear hr
      go_wp2_with fail
      go_ret2
      exact ⟨_, rfl, by rw [HH.out]; rfl, et2.trans e3⟩
  · have hb : (dc == 0) = false := by rw [beq_eq_false_iff_ne]; exact hd
    have HH := Lib.hid (H1.out hd)
    clear H1 H2 H3 HK HD HP
    go_wp2_with fail
    go_ret2
    exact ⟨_, rfl, by rw [HH.out]; rfl, et⟩
end Go.Proofs.YtpcgbfogkcbddaaGreatDoor
