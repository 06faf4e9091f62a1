/- Proved: how many different lists there are, program and reference. -/
import Derived.Test.YthgmojggpjnckaaGreatChecked
import Derived.Deep.RegionLaw
import Derived.Test.YthgmojggpjnckaaGreatUMostLaw
import Derived.Test.YthgmojggpjnckaaGreatUPkF4
import Derived.Test.YthgmojggpjnckaaGreatUPkB
namespace Go.Proofs.YthgmojggpjnckaaGreat
open Go.ChangeShapes Go.WideShapes Go.ChangeAt Go.RowKit
set_option linter.unusedVariables false

theorem Tryz.goesContains1 : Goes Tryz.prog 137 := goes_of Tryz.func137 (by kernel_rfl) (by kernel_rfl)
theorem contains1_c (w : World) (b : Nat) (u : Value) (y : Zone) (x : List Int) (hx : IntsR y w u x) (hb : w.cell? ⟨b, 0, none⟩ = some u) (v : Value) (z : Zone) (xs : List Int) (h : IntsR z w v xs) :
    Calls Tryz.prog 137 #[v, .pointer (some ⟨b, 0, none⟩)] w (Ret w fun r _ => r = .bool (decide (xs = x))) := by
  have hcall := EqualInts_c w v u z y xs x h hx
  generalize decide (xs = x) = q at *
  obtain ⟨a, n, cap, rfl, -⟩ := SliceR.shape h
  obtain ⟨a2, n2, cap2, rfl, -⟩ := SliceR.shape hx
  clear h hx
  go_enter Tryz.func137, Tryz.ntmps137
  go_wp2_with fail
  refine Calls.mono hcall ?_
  rintro e w1 ⟨rfl, hd⟩
  go_wp2_with fail
  go_ret
  exact ⟨.bool q, rfl, rfl, Ext.ofDrew hd⟩

theorem contains_c (w : World) (v : Value) (z : Zone) (xss : List (List Int)) (h : RowsR z w v xss) (u : Value) (y : Zone) (x : List Int) (hx : IntsR y w u x) :
    Calls Tryz.prog 104 #[v, u] w (Ret w fun r _ => r = .bool (hasL xss x)) := by
  have HC : Hid (∀ (w0 : World), Ext w w0 → w0.cell? ⟨w.heap.size, 0, none⟩ = some u → Calls Tryz.prog 136 #[v, .func (.func 137) #[] #[.pointer (some ⟨w.heap.size, 0, none⟩)]] w0 (Ret w0 fun r _ => r = .bool (hasL xss x))) := fun w0 e0 hM =>
    ContainsFuncRows_c w0 v z xss (stable_rows.ext h e0) _ Tryz.goesContains1 #[.pointer (some ⟨w.heap.size, 0, none⟩)] (fun y => decide (y = x)) (fun i hi w1 u' hb hu => contains1_c w1 _ u y x (stable_ints.ext hx (Ext.trans e0 hb)) (Ext.cell hb hM) u' _ _ hu)
  generalize hasL xss x = q at *
  obtain ⟨a, n, cap, rfl, -⟩ := SliceR.shape h
  obtain ⟨a2, n2, cap2, rfl, -⟩ := SliceR.shape hx
  clear h hx
  go_enter Tryz.func104, Tryz.ntmps104
  go_wp2_with fail
  generalize hw0 : World.alloc _ _ = w0
  have e0 : Ext w w0 := by rw [← hw0]; exact Ext.alloc _ _
  have c0 : w0.cell? ⟨w.heap.size, 0, none⟩ = some (.slice a2 n2 cap2) := by rw [← hw0]; clear hw0; go_simp
  clear hw0
  have hcall := HC.out w0 e0 c0
  refine Calls.mono hcall ?_
  rintro e w1 hr
  obtain ⟨r, rfl, rfl, e1⟩ := ret_ext hr
  go_wp2_with fail
  go_ret
  exact ⟨.bool q, rfl, rfl, e0.trans e1⟩

theorem hasL_yes {xss : List (List Int)} {x : List Int} {k : Nat} (hk : k < xss.length) (h : xss.getD k [] = x) : hasL xss x = true := by
  unfold hasL
  rw [List.any_eq_true]
  refine ⟨xss[k], List.getElem_mem hk, ?_⟩
  rw [List.getD_eq_getElem?_getD, List.getElem?_eq_getElem hk] at h
  simpa using h
theorem hasL_no {xss : List (List Int)} {x : List Int} (h : ∀ k, k < xss.length → xss.getD k [] ≠ x) : hasL xss x = false := by
  unfold hasL
  rw [List.any_eq_false]
  intro y hy
  obtain ⟨k, hk, rfl⟩ := List.getElem_of_mem hy
  have := h k hk
  rw [List.getD_eq_getElem?_getD, List.getElem?_eq_getElem hk] at this
  simpa using this

set_option maxHeartbeats 400000 in
theorem l14Has_c (w : World) (v : Value) (z : Zone) (xss : List (List Int)) (h : RowsR z w v xss) (u : Value) (y : Zone) (x : List Int) (hx : IntsR y w u x) :
    Calls Tryz.prog 106 #[v, u] w (Ret w fun r _ => r = .bool (hasL xss x)) := by
  have HY : Hid (∀ k, k < xss.length → xss.getD k [] = x → hasL xss x = true) := fun k hk h => hasL_yes hk h
  have HN : Hid ((∀ k, k < xss.length → xss.getD k [] ≠ x) → hasL xss x = false) := hasL_no
  obtain ⟨a, n, cap, rfl, hn, hmax, -⟩ := SliceR.shape h
  have HT := Lib.hid (fun (k : Nat) (hk : k < n) => rows_at h hk)
  have HX := Lib.hid (fun (w' : World) (e : Ext w w') => stable_ints.ext hx e)
  obtain ⟨a2, n2, cap2, rfl, -⟩ := SliceR.shape hx
  generalize hasL xss x = q at *
  rw [← hn] at HY HN
  clear hn h hx
  go_enter Tryz.func106, Tryz.ntmps106
  go_wp2_with fail
  go_loopw [5] (fun s wr => ∃ k : Nat, k ≤ n ∧ s = .int .i64 k ∧ (∀ j, j < k → xss.getD j [] ≠ x) ∧ Ext w wr) (fun s _ => n - (intOf s).toNat)
  case atStart => exact ⟨0, Nat.zero_le _, rfl, fun j hj => absurd hj (Nat.not_lt_zero _), Ext.refl _⟩
  case round =>
    obtain ⟨k, hk, rfl, hall, ew⟩ := hrel
    have Hall := Lib.hid hall
    clear hall
    by_cases hlt : k < n
    · obtain ⟨b, off, rfl, a1, n1, k1, -, -, -, hc, ⟨y1, -, hy⟩, -⟩ := HT.out k hlt
      replace hc := hc wr ew
      have hcall := l01Same_c wr _ _ _ _ _ _ (hy wr ew) (HX.out wr ew)
      have HYk := Lib.hid (HY.out k hlt)
      have HNx : Hid (xss.getD k [] ≠ x → ∀ j, j < k + 1 → xss.getD j [] ≠ x) := fun h j hj => by
        by_cases e : j = k
        · rw [e]; exact h
        · exact Hall.out j (by omega)
      generalize xss.getD k [] = row at *
      clear hy
      by_cases he : row = x
      · have HH := Lib.hid (HYk.out he)
        rw [decide_eq_true he] at hcall
        clear HYk HNx he
        go_wp2_with fail
        refine Calls.mono hcall ?_
        rintro e w1 ⟨rfl, hd⟩
        go_wp2_with fail
        go_ret
        exact ⟨_, rfl, by rw [HH.out]; rfl, ew.trans (Ext.ofDrew hd)⟩
      · have HH := Lib.hid (HNx.out he)
        rw [decide_eq_false he] at hcall
        clear HYk HNx he
        go_wp2_with fail
        refine Calls.mono hcall ?_
        rintro e w1 ⟨rfl, hd⟩
        go_wp2_with fail
        go_roundw
        case rel => exact ⟨k + 1, by omega, by go_num, HH.out, ew.trans (Ext.ofDrew hd)⟩
        case measure => simp [intOf]; omega
    · have hkn : n = k := by omega
      subst hkn
      have HH := Lib.hid (HN.out Hall.out)
      go_wp2_with fail
      go_ret
      exact ⟨_, rfl, by rw [HH.out]; rfl, ew⟩

set_option maxHeartbeats 400000 in
theorem differentRows_c (w : World) (v : Value) (z : Zone) (xss : List (List Int)) (h : RowsR z w v xss) (hl : xss.length ≤ 1000) :
    Calls Tryz.prog 61 #[v] w (Ret w fun r _ => r = .int .i64 (diffN xss xss.length : Nat)) := by
  have HS := Lib.hid (fun k => diffN_succ xss k)
  have HB := Lib.hid (fun k => diffN_le xss k)
  have H0 : Hid (diffN xss 0 = 0) := rfl
  obtain ⟨a, n, cap, rfl, hn, hmax, -⟩ := SliceR.shape h
  have HT := Lib.hid (fun (k : Nat) (hk : k < n) => rows_at h hk)
  have HC : Hid (∀ (k : Nat), k < n → ∀ (w' : World) (u : Value) (y : Zone), Ext w w' → IntsR y w' u (xss.getD k []) → Calls Tryz.prog 104 #[.slice a k cap, u] w' (Ret w' fun r _ => r = .bool (hasL (xss.take k) (xss.getD k [])))) := fun k hk w' u y e g =>
    contains_c w' _ z _ (SliceR.front (stable_rows.ext h e) k (by omega)) u y _ g
  have hcap : n ≤ cap := by
    obtain ⟨a', n', cap', he, -, -, hh, -⟩ := SliceR.shape h
    injection he with e1 e2 e3
    omega
  rw [← hn] at hl
  have Hn : Hid (diffN xss xss.length = diffN xss n) := by show _ = _; rw [hn]
  generalize diffN xss xss.length = res at *
  generalize diffN xss = dn at *
  clear hn h
  go_enter Tryz.func61, Tryz.ntmps61
  go_wp2_with fail
  go_loopw [3, 4, 5, 8] (fun o _ _ s wr => ∃ k : Nat, k ≤ n ∧ s = .int .i64 k ∧ o = .int .i64 (dn k : Nat) ∧ Ext w wr) (fun _ _ _ s _ => n - (intOf s).toNat)
  case atStart => exact ⟨0, Nat.zero_le _, rfl, by rw [H0.out]; rfl, Ext.refl _⟩
  case round =>
    obtain ⟨k, hk, rfl, rfl, ew⟩ := hrel
    by_cases hlt : k < n
    · obtain ⟨b, off, rfl, a1, n1, k1, -, -, -, hc, ⟨y1, -, hy⟩, -⟩ := HT.out k hlt
      replace hc := hc wr ew
      have hcall := HC.out k hlt wr _ _ ew (hy wr ew)
      have HSk := Lib.hid (HS.out k)
      have hbk := HB.out k
      clear hy
      have hkc : k ≤ cap := by omega
      generalize hq : hasL (xss.take k) (xss.getD k []) = q at *
      clear hq
      generalize dn k = y at *
      cases q with
      | true =>
        have HH : Hid (dn (k + 1) = y) := by show _ = _; rw [HSk.out, if_pos rfl, Nat.add_zero]
        clear HSk
        go_wp2_with fail
        refine Calls.mono hcall ?_
        rintro e w1 hr
        obtain ⟨r, rfl, rfl, e1⟩ := ret_ext hr
        clear hr hcall
        go_wp2_with fail
        go_roundw
        case rel => exact ⟨k + 1, by omega, by go_num, by rw [HH.out], ew.trans e1⟩
        case measure => simp [intOf]; omega
      | false =>
        have HH : Hid (dn (k + 1) = y + 1) := by show _ = _; rw [HSk.out, if_neg (by decide)]
        clear HSk
        go_wp2_with fail
        refine Calls.mono hcall ?_
        rintro e w1 hr
        obtain ⟨r, rfl, rfl, e1⟩ := ret_ext hr
        clear hr hcall
        go_wp2_with fail
        go_roundw
        case rel => exact ⟨k + 1, by omega, by go_num, by rw [HH.out]; push_cast; rfl, ew.trans e1⟩
        case measure => simp [intOf]; omega
    · have hkn : n = k := by omega
      subst hkn
      go_wp2_with fail
      go_ret
      exact ⟨_, rfl, by rw [Hn.out]; rfl, ew⟩

set_option maxHeartbeats 400000 in
theorem l20Different_c (w : World) (v : Value) (z : Zone) (xss : List (List Int)) (h : RowsR z w v xss) (hl : xss.length ≤ 1000) :
    Calls Tryz.prog 63 #[v] w (Ret w fun r _ => r = .int .i64 (diffN xss xss.length : Nat)) := by
  have HS := Lib.hid (fun k => diffN_succ xss k)
  have HB := Lib.hid (fun k => diffN_le xss k)
  have H0 : Hid (diffN xss 0 = 0) := rfl
  obtain ⟨a, n, cap, rfl, hn, hmax, -⟩ := SliceR.shape h
  have HT := Lib.hid (fun (k : Nat) (hk : k < n) => rows_at h hk)
  have HC : Hid (∀ (k : Nat), k < n → ∀ (w' : World) (u : Value) (y : Zone), Ext w w' → IntsR y w' u (xss.getD k []) → Calls Tryz.prog 106 #[.slice a k cap, u] w' (Ret w' fun r _ => r = .bool (hasL (xss.take k) (xss.getD k [])))) := fun k hk w' u y e g =>
    l14Has_c w' _ z _ (SliceR.front (stable_rows.ext h e) k (by omega)) u y _ g
  have hcap : n ≤ cap := by
    obtain ⟨a', n', cap', he, -, -, hh, -⟩ := SliceR.shape h
    injection he with e1 e2 e3
    omega
  rw [← hn] at hl
  have Hn : Hid (diffN xss xss.length = diffN xss n) := by show _ = _; rw [hn]
  generalize diffN xss xss.length = res at *
  generalize diffN xss = dn at *
  clear hn h
  go_enter Tryz.func63, Tryz.ntmps63
  go_wp2_with fail
  go_loopw [3, 4] (fun o s wr => ∃ k : Nat, k ≤ n ∧ s = .int .i64 k ∧ o = .int .i64 (dn k : Nat) ∧ Ext w wr) (fun _ s _ => n - (intOf s).toNat)
  case atStart => exact ⟨0, Nat.zero_le _, rfl, by rw [H0.out]; rfl, Ext.refl _⟩
  case round =>
    obtain ⟨k, hk, rfl, rfl, ew⟩ := hrel
    by_cases hlt : k < n
    · obtain ⟨b, off, rfl, a1, n1, k1, -, -, -, hc, ⟨y1, -, hy⟩, -⟩ := HT.out k hlt
      replace hc := hc wr ew
      have HCC := Lib.hid (fun (w' : World) (e : Ext wr w') => HC.out k hlt w' _ _ (ew.trans e) (hy w' (ew.trans e)))
      have HSk := Lib.hid (HS.out k)
      have hbk := HB.out k
      clear hy
      have hkc : k ≤ cap := by omega
      generalize hq : hasL (xss.take k) (xss.getD k []) = q at *
      clear hq
      generalize dn k = y at *
      cases q with
      | true =>
        have HH : Hid (dn (k + 1) = y) := by show _ = _; rw [HSk.out, if_pos rfl, Nat.add_zero]
        clear HSk
        go_wp2_with fail
        go_region_law (first | (go_simp; go_at_call 106; refine (HCC.out _ (by repeat (first | exact Ext.refl _ | assumption | (refine Ext.trans ?_ (Ext.alloc _ _)) | (refine Ext.trans ?_ (Ext.drew _)) | (refine Ext.trans ?_ (by assumption))))).mono ?_; rintro e w7 hr; obtain ⟨r, rfl, rfl, e7⟩ := ret_ext hr; clear hr; have e72 : Ext wr w7 := (by repeat (first | exact Ext.refl _ | assumption | (refine Ext.trans ?_ (Ext.alloc _ _)) | (refine Ext.trans ?_ (Ext.drew _)) | (refine Ext.trans ?_ (by assumption))))) | fail)
        all_goals (go_wp2_with fail; go_roundw)
        any_goals (simp [intOf]; omega)
        all_goals exact ⟨k + 1, by omega, by go_num, by rw [HH.out], ew.trans e72⟩
      | false =>
        have HH : Hid (dn (k + 1) = y + 1) := by show _ = _; rw [HSk.out, if_neg (by decide)]
        clear HSk
        go_wp2_with fail
        go_region_law (first | (go_simp; go_at_call 106; refine (HCC.out _ (by repeat (first | exact Ext.refl _ | assumption | (refine Ext.trans ?_ (Ext.alloc _ _)) | (refine Ext.trans ?_ (Ext.drew _)) | (refine Ext.trans ?_ (by assumption))))).mono ?_; rintro e w7 hr; obtain ⟨r, rfl, rfl, e7⟩ := ret_ext hr; clear hr; have e72 : Ext wr w7 := (by repeat (first | exact Ext.refl _ | assumption | (refine Ext.trans ?_ (Ext.alloc _ _)) | (refine Ext.trans ?_ (Ext.drew _)) | (refine Ext.trans ?_ (by assumption))))) | fail)
        all_goals (go_wp2_with fail; go_roundw)
        any_goals (simp [intOf]; omega)
        all_goals exact ⟨k + 1, by omega, by go_num, by rw [HH.out]; push_cast; rfl, ew.trans e72⟩
    · have hkn : n = k := by omega
      subst hkn
      go_wp2_with fail
      go_ret
      exact ⟨_, rfl, by rw [Hn.out]; rfl, ew⟩
end Go.Proofs.YthgmojggpjnckaaGreat
