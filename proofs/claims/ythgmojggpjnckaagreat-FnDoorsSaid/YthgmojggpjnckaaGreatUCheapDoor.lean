/- Proved: CheapestDoor, program and reference. -/
import Derived.Test.YthgmojggpjnckaaGreatChecked
import Derived.Deep.RegionHeld3
import Derived.Test.YthgmojggpjnckaaGreatUPkC
import Derived.Test.YthgmojggpjnckaaGreatUWafers
import Derived.Test.YthgmojggpjnckaaGreatUPkD
import Derived.Test.YthgmojggpjnckaaGreatUPkL
namespace Go.Proofs.YthgmojggpjnckaaGreat
open Go.ChangeShapes Go.WideShapes Go.ChangeAt Go.RowKit
set_option linter.unusedVariables false

/-- the first place where f is least -/
def cheapTo (f : Nat → Int) : Nat → Nat
  | 0 => 0
  | k+1 => if f k < f (cheapTo f k) then k else cheapTo f k
theorem cheapTo_lt {f : Nat → Int} : ∀ {n : Nat}, 0 < n → cheapTo f n < n
  | 0, h => absurd h (by omega)
  | n+1, _ => by
    unfold cheapTo
    split
    · omega
    · rcases Nat.eq_zero_or_pos n with rfl | h
      · unfold cheapTo; omega
      · have := cheapTo_lt (f := f) h; omega
theorem cheapTo_le {f : Nat → Int} (k : Nat) : cheapTo f k ≤ k := by
  rcases Nat.eq_zero_or_pos k with rfl | h
  · exact Nat.le_refl _
  · exact Nat.le_of_lt (cheapTo_lt h)
theorem cheapTo_least {f : Nat → Int} : ∀ {n k : Nat}, k < n → f (cheapTo f n) ≤ f k
  | 0, k, h => absurd h (by omega)
  | n+1, k, h => by
    unfold cheapTo
    split
    · next h1 =>
      rcases Nat.lt_or_ge k n with hk | hk
      · have := cheapTo_least (f := f) hk; omega
      · have : k = n := by omega
        subst this; exact Int.le_refl _
    · next h1 =>
      rcases Nat.lt_or_ge k n with hk | hk
      · exact cheapTo_least hk
      · have : k = n := by omega
        subst this; omega
/-- the cheapest door -/
def cheapDoor (mk : MK) (t cuts : List (List Int)) : Int × Int := if designCode mk t cuts ≠ 0 then (0, designCode mk t cuts) else (((cheapTo (fun d => wafersB ((locks mk t cuts).getD d [])) (doorsOf t) : Nat) : Int), 0)
theorem cheapDoor_bad {mk : MK} {t cuts : List (List Int)} (h : designCode mk t cuts ≠ 0) : cheapDoor mk t cuts = (0, designCode mk t cuts) := by unfold cheapDoor; rw [if_pos h]
theorem cheapDoor_ok {mk : MK} {t cuts : List (List Int)} (h : designCode mk t cuts = 0) : cheapDoor mk t cuts = (((cheapTo (fun d => wafersB ((locks mk t cuts).getD d [])) (doorsOf t) : Nat) : Int), 0) := by unfold cheapDoor; rw [if_neg (by omega)]

set_option maxRecDepth 20000 in
set_option maxHeartbeats 1000000 in
theorem CheapestDoor_c (w : World) (mk : MK) (v : Value) (z : Zone) (t : List (List Int)) (h : RowsR z w v t) (u : Value) (y : Zone) (cuts : List (List Int)) (hc : RowsR y w u cuts) :
    Calls Tryz.prog 33 #[sysV mk v, u] w (Ret w fun r _ => r = IntCode (cheapDoor mk t cuts)) := by
  have H1 : Hid (designCode mk t cuts ≠ 0 → cheapDoor mk t cuts = (0, designCode mk t cuts)) := cheapDoor_bad
  have H2 : Hid (designCode mk t cuts = 0 → cheapDoor mk t cuts = (((cheapTo (fun d => wafersB ((locks mk t cuts).getD d [])) (doorsOf t) : Nat) : Int), 0)) := cheapDoor_ok
  have HOk : Hid (designCode mk t cuts = 0 → PartOk mk t cuts) := fun h => (designCode_zero h).toPartOk
  have HB : Hid (designCode mk t cuts = 0 → ∀ d, d < doorsOf t → LockB ((locks mk t cuts).getD d [])) := fun h d hd => lockB (designCode_zero h).toPartOk.toSysOk hd
  have HD : Hid (designCode mk t cuts = 0 → 1 ≤ doorsOf t ∧ doorsOf t ≤ 12) := fun h => (designCode_zero h).doors
  have HC1 := Lib.hid (fun (w' : World) (e : Ext w w') => designCode_c w' mk v z t (stable_rows.ext h e) u y cuts (stable_rows.ext hc e))
  have HC2 := Lib.hid (fun (ok : PartOk mk t cuts) (w' : World) (e : Ext w w') => partLocks_c w' mk v z t (stable_rows.ext h e) u y cuts (stable_rows.ext hc e) ok)
  have HLL := Lib.hid (locks_len mk t cuts)
  generalize cheapDoor mk t cuts = res at *
  generalize designCode mk t cuts = dc at *
  generalize locks mk t cuts = ls at *
  obtain ⟨f, hf⟩ : ∃ f : Nat → Int, f = fun d => wafersB (ls.getD d []) := ⟨_, rfl⟩
  rw [← hf] at H2
  have HF : Hid (∀ d, wafersB (ls.getD d []) = f d) := fun d => by rw [hf]
  clear hf
  obtain ⟨a, n, cap, rfl, -⟩ := SliceR.shape h
  obtain ⟨a2, n2, cap2, rfl, -⟩ := SliceR.shape hc
  clear h hc
  unfold sysV at *
  go_enter Tryz.func33, Tryz.ntmps33
  go_wp2_with fail
  generalize hw0 : World.alloc _ _ = w0
  obtain ⟨e0, S0⟩ := sys_box hw0
  clear hw0
  refine Calls.mono (HC1.out w0 e0) ?_
  rintro e w1 hr
  obtain ⟨r, rfl, rfl, e1⟩ := ret_ext hr
  clear hr HC1
  have et := e0.trans e1
  obtain ⟨c0, c1, c2, c3, c4, c5⟩ := S0.ext e1
  clear S0
  by_cases hd : dc = 0
  · have H2' := Lib.hid (H2.out hd)
    have hcall := HC2.out (HOk.out hd) w1 et
    have hD := HD.out hd
    have HB' := Lib.hid (HB.out hd)
    have hb0 : (dc != 0) = false := by rw [hd]; rfl
    clear hd H1 H2 HC2 HOk HD HB
    go_wp2_with fail
    refine Calls.mono hcall ?_
    rintro e w2 hr
    obtain ⟨r, rfl, hL, e2⟩ := ret_ext hr
    clear hr hcall c0 c1 c2 c3 c4 c5
    obtain ⟨la, ln, lc, rfl, hln, hlmax, -⟩ := SliceR.shape hL
    have Hld : Hid (ln = doorsOf t) := by show _ = _; rw [hln, HLL.out]
    have hl12 : 1 ≤ ln ∧ ln ≤ 12 := by have := Hld.out; omega
    have HLk := Lib.hid hL
    have ew2 := et.trans e2
    clear hL hln hD e0 e1 et e2
    go_wp2_with fail
    go_loopw [7, 9, 10, 22] (fun s7 _ _ s22 wr => ∃ k : Nat, k ≤ ln ∧ s22 = .int .i64 k ∧ s7 = .int .i64 (cheapTo f k) ∧ Ext w2 wr) (fun _ _ _ s22 _ => ln - (intOf s22).toNat)
    case atStart => exact ⟨0, Nat.zero_le _, rfl, rfl, Ext.refl _⟩
    case round =>
      obtain ⟨k, hk, rfl, rfl, hr0⟩ := hrel
      by_cases hlt : k < ln
      · have hb := cheapTo_le (f := f) k
        have hstep : Hid (cheapTo f (k+1) = if f k < f (cheapTo f k) then k else cheapTo f k) := rfl
        obtain ⟨b, hbb⟩ : ∃ b, cheapTo f k = b := ⟨_, rfl⟩
        rw [hbb] at hstep hb
        simp only [hbb]
        clear hbb
        have hbl : b < ln := by omega
        obtain ⟨bl, ol, rfl, a3, n3, k3, -, hcl, yl, -, hyl⟩ := locks_at HLk.out hlt
        obtain ⟨bl', ol', hel, a4, n4, k4, -, hcb, yb, -, hyb⟩ := locks_at HLk.out hbl
        injection hel with hel
        injection hel with h1 h2 _
        subst h1; subst h2
        go_upto_region 8 with fail
        generalize hwX : World.alloc _ _ = wX
        obtain ⟨eX, lX⟩ : Ext wr wX ∧ wX.cell? ⟨wr.heap.size, 0, none⟩ = some (.slice a3 n3 k3) := by
          subst hwX
          exact ⟨Ext.alloc _ _, by simp⟩
        clear hwX
        have hr1 := hr0.trans eX
        have HW1 : Hid (∀ w', Ext wX w' → Calls Tryz.prog 89 #[.agg #[.slice a3 n3 k3]] w' (Ret w' fun r _ => r = .int .i64 (f k))) := fun w' e => by
          have := wafersOf_c w' _ yl _ (hyl w' (hr1.trans e)) (HB'.out k (by rw [← Hld.out]; exact hlt))
          rwa [HF.out k] at this
        have HW2 : Hid (∀ w', Ext wX w' → Calls Tryz.prog 89 #[.agg #[.slice a4 n4 k4]] w' (Ret w' fun r _ => r = .int .i64 (f b))) := fun w' e => by
          have := wafersOf_c w' _ yb _ (hyb w' (hr1.trans e)) (HB'.out b (by rw [← Hld.out]; exact hbl))
          rwa [HF.out b] at this
        have HK : Hid (∀ w', Ext wX w' → w'.cell? ⟨wr.heap.size, 0, none⟩ = some (.slice a3 n3 k3) ∧ w'.cell? ⟨bl, ol + b, none⟩ = some (.slice a4 n4 k4)) := fun w' e => ⟨e.cell lX, hcb w' (hr1.trans e)⟩
        have Hr1 := Lib.hid hr1
        have eX0 := Ext.refl wX
        obtain ⟨k1, k2⟩ := HK.out wX eX0
        have hbi : I64 (b : Int) := by unfold I64; omega
        clear hcl hcb hyl hyb hr0 hr1 eX lX
        generalize f k = p at *
        generalize f b = q at *
        by_cases hpq : p < q
        · have HV : Hid (cheapTo f (k + 1) = k) := by show _ = _; rw [hstep.out, if_pos hpq]
          clear hstep
          go_wp2_with fail
          go_region_held3 (fun w' => w'.cell? ⟨wr.heap.size, 0, none⟩ = some (.slice a3 n3 k3) ∧ w'.cell? ⟨bl, ol + b, none⟩ = some (.slice a4 n4 k4)) (exact HK.out _ (by repeat (first | exact Ext.refl _ | assumption | (refine Ext.trans ?_ (Ext.alloc _ _)) | (refine Ext.trans ?_ (Ext.drew _)) | (refine Ext.trans ?_ (by assumption))))) (first | (go_at_call 89; (with_reducible refine (HW1.out _ (by repeat (first | exact Ext.refl _ | assumption | (refine Ext.trans ?_ (Ext.alloc _ _)) | (refine Ext.trans ?_ (Ext.drew _)) | (refine Ext.trans ?_ (by assumption))))).mono ?_); rintro e w7 hr7; obtain ⟨r7, rfl, rfl, e7⟩ := ret_ext hr7; clear hr7; have e77 : Ext wX w7 := (by repeat (first | exact Ext.refl _ | assumption | (refine Ext.trans ?_ (Ext.alloc _ _)) | (refine Ext.trans ?_ (Ext.drew _)) | (refine Ext.trans ?_ (by assumption))))) | (go_at_call 89; (with_reducible refine (HW2.out _ (by repeat (first | exact Ext.refl _ | assumption | (refine Ext.trans ?_ (Ext.alloc _ _)) | (refine Ext.trans ?_ (Ext.drew _)) | (refine Ext.trans ?_ (by assumption))))).mono ?_); rintro e w8 hr8; obtain ⟨r8, rfl, rfl, e8⟩ := ret_ext hr8; clear hr8; have e88 : Ext wX w8 := (by repeat (first | exact Ext.refl _ | assumption | (refine Ext.trans ?_ (Ext.alloc _ _)) | (refine Ext.trans ?_ (Ext.drew _)) | (refine Ext.trans ?_ (by assumption))))) | fail)
          all_goals (go_wp2_with fail; go_roundw)
          any_goals (simp [intOf]; omega)
          all_goals exact ⟨k + 1, by omega, by go_num, by rw [HV.out], Hr1.out.trans (by repeat (first | exact Ext.refl _ | assumption | (refine Ext.trans ?_ (Ext.alloc _ _)) | (refine Ext.trans ?_ (Ext.drew _)) | (refine Ext.trans ?_ (by assumption))))⟩
        · have HV : Hid (cheapTo f (k + 1) = b) := by show _ = _; rw [hstep.out, if_neg hpq]
          clear hstep
          go_wp2_with fail
          go_region_held3 (fun w' => w'.cell? ⟨wr.heap.size, 0, none⟩ = some (.slice a3 n3 k3) ∧ w'.cell? ⟨bl, ol + b, none⟩ = some (.slice a4 n4 k4)) (exact HK.out _ (by repeat (first | exact Ext.refl _ | assumption | (refine Ext.trans ?_ (Ext.alloc _ _)) | (refine Ext.trans ?_ (Ext.drew _)) | (refine Ext.trans ?_ (by assumption))))) (first | (go_at_call 89; (with_reducible refine (HW1.out _ (by repeat (first | exact Ext.refl _ | assumption | (refine Ext.trans ?_ (Ext.alloc _ _)) | (refine Ext.trans ?_ (Ext.drew _)) | (refine Ext.trans ?_ (by assumption))))).mono ?_); rintro e w7 hr7; obtain ⟨r7, rfl, rfl, e7⟩ := ret_ext hr7; clear hr7; have e77 : Ext wX w7 := (by repeat (first | exact Ext.refl _ | assumption | (refine Ext.trans ?_ (Ext.alloc _ _)) | (refine Ext.trans ?_ (Ext.drew _)) | (refine Ext.trans ?_ (by assumption))))) | (go_at_call 89; (with_reducible refine (HW2.out _ (by repeat (first | exact Ext.refl _ | assumption | (refine Ext.trans ?_ (Ext.alloc _ _)) | (refine Ext.trans ?_ (Ext.drew _)) | (refine Ext.trans ?_ (by assumption))))).mono ?_); rintro e w8 hr8; obtain ⟨r8, rfl, rfl, e8⟩ := ret_ext hr8; clear hr8; have e88 : Ext wX w8 := (by repeat (first | exact Ext.refl _ | assumption | (refine Ext.trans ?_ (Ext.alloc _ _)) | (refine Ext.trans ?_ (Ext.drew _)) | (refine Ext.trans ?_ (by assumption))))) | fail)
          all_goals (go_wp2_with fail; go_roundw)
          any_goals (simp [intOf]; omega)
          all_goals exact ⟨k + 1, by omega, by go_num, by rw [HV.out], Hr1.out.trans (by repeat (first | exact Ext.refl _ | assumption | (refine Ext.trans ?_ (Ext.alloc _ _)) | (refine Ext.trans ?_ (Ext.drew _)) | (refine Ext.trans ?_ (by assumption))))⟩
      · have hkn : k = ln := by omega
        have HH : Hid (res = (((cheapTo f k : Nat) : Int), 0)) := by show _ = _; rw [hkn, Hld.out]; exact H2'.out
        go_wp2_with fail
        go_ret2
        exact ⟨_, rfl, IntCode_mk HH.out, ew2.trans hr0⟩
  · have HH := Lib.hid (H1.out hd)
    have hb0 : (dc != 0) = true := by rw [bne_iff_ne]; exact hd
    clear hd H1 H2 HC2 HOk HD HB
    go_wp2_with fail
    go_ret2
    exact ⟨_, rfl, IntCode_mk HH.out, et⟩

set_option maxRecDepth 20000 in
set_option maxHeartbeats 1000000 in
theorem CheapestDoorSpec_c (w : World) (mk : MK) (v : Value) (z : Zone) (t : List (List Int)) (h : RowsR z w v t) (u : Value) (y : Zone) (cuts : List (List Int)) (hc : RowsR y w u cuts) :
    Calls Tryz.prog 34 #[sysV mk v, u] w (Ret w fun r _ => r = IntCode (cheapDoor mk t cuts)) := by
  have H1 : Hid (designCode mk t cuts ≠ 0 → cheapDoor mk t cuts = (0, designCode mk t cuts)) := cheapDoor_bad
  have H2 : Hid (designCode mk t cuts = 0 → cheapDoor mk t cuts = (((cheapTo (fun d => wafersB ((locks mk t cuts).getD d [])) (doorsOf t) : Nat) : Int), 0)) := cheapDoor_ok
  have HOk : Hid (designCode mk t cuts = 0 → PartOk mk t cuts) := fun h => (designCode_zero h).toPartOk
  have HB : Hid (designCode mk t cuts = 0 → ∀ d, d < doorsOf t → LockB ((locks mk t cuts).getD d [])) := fun h d hd => lockB (designCode_zero h).toPartOk.toSysOk hd
  have HD : Hid (designCode mk t cuts = 0 → 1 ≤ doorsOf t ∧ doorsOf t ≤ 12) := fun h => (designCode_zero h).doors
  have HC1 := Lib.hid (fun (w' : World) (e : Ext w w') => l21Code_c w' mk v z t (stable_rows.ext h e) u y cuts (stable_rows.ext hc e))
  have HC2 := Lib.hid (fun (ok : PartOk mk t cuts) (w' : World) (e : Ext w w') => l15Locks_c w' mk v z t (stable_rows.ext h e) u y cuts (stable_rows.ext hc e) ok)
  have HLL := Lib.hid (locks_len mk t cuts)
  generalize cheapDoor mk t cuts = res at *
  generalize designCode mk t cuts = dc at *
  generalize locks mk t cuts = ls at *
  obtain ⟨f, hf⟩ : ∃ f : Nat → Int, f = fun d => wafersB (ls.getD d []) := ⟨_, rfl⟩
  rw [← hf] at H2
  have HF : Hid (∀ d, wafersB (ls.getD d []) = f d) := fun d => by rw [hf]
  clear hf
  have H10 : Hid (cheapTo f 1 = 0) := by show _ = _; unfold cheapTo; split <;> rfl
  obtain ⟨a, n, cap, rfl, -⟩ := SliceR.shape h
  obtain ⟨a2, n2, cap2, rfl, -⟩ := SliceR.shape hc
  clear h hc
  unfold sysV at *
  go_enter Tryz.func34, Tryz.ntmps34
  go_wp2_with fail
  generalize hw0 : World.alloc _ _ = w0
  obtain ⟨e0, S0⟩ := sys_box hw0
  clear hw0
  refine Calls.mono (HC1.out w0 e0) ?_
  rintro e w1 hr
  obtain ⟨r, rfl, rfl, e1⟩ := ret_ext hr
  clear hr HC1
  have et := e0.trans e1
  obtain ⟨c0, c1, c2, c3, c4, c5⟩ := S0.ext e1
  clear S0
  by_cases hd : dc = 0
  · have H2' := Lib.hid (H2.out hd)
    have hcall := HC2.out (HOk.out hd) w1 et
    have hD := HD.out hd
    have HB' := Lib.hid (HB.out hd)
    have hb0 : (dc != 0) = false := by rw [hd]; rfl
    clear hd H1 H2 HC2 HOk HD HB
    go_wp2_with fail
    refine Calls.mono hcall ?_
    rintro e w2 hr
    obtain ⟨r, rfl, hL, e2⟩ := ret_ext hr
    clear hr hcall c0 c1 c2 c3 c4 c5
    obtain ⟨la, ln, lc, rfl, hln, hlmax, -⟩ := SliceR.shape hL
    have Hld : Hid (ln = doorsOf t) := by show _ = _; rw [hln, HLL.out]
    have hl12 : 1 ≤ ln ∧ ln ≤ 12 := by have := Hld.out; omega
    have HLk := Lib.hid hL
    have ew2 := et.trans e2
    clear hL hln hD e0 e1 et e2
    go_wp2_with fail
    go_loopw [8, 9] (fun s8 s9 wr => ∃ k : Nat, 1 ≤ k ∧ k ≤ ln ∧ s9 = .int .i64 k ∧ s8 = .int .i64 (cheapTo f k) ∧ Ext w2 wr) (fun _ s9 _ => ln - (intOf s9).toNat)
    case atStart => exact ⟨1, Nat.le_refl _, hl12.1, rfl, by rw [H10.out]; rfl, Ext.refl _⟩
    case round =>
      obtain ⟨k, hk1, hk, rfl, rfl, hr0⟩ := hrel
      by_cases hlt : k < ln
      · have hb := cheapTo_le (f := f) k
        have hstep : Hid (cheapTo f (k+1) = if f k < f (cheapTo f k) then k else cheapTo f k) := rfl
        obtain ⟨b, hbb⟩ : ∃ b, cheapTo f k = b := ⟨_, rfl⟩
        rw [hbb] at hstep hb
        simp only [hbb]
        clear hbb
        have hbl : b < ln := by omega
        obtain ⟨bl, ol, rfl, a3, n3, k3, -, hcl, yl, -, hyl⟩ := locks_at HLk.out hlt
        obtain ⟨bl', ol', hel, a4, n4, k4, -, hcb, yb, -, hyb⟩ := locks_at HLk.out hbl
        injection hel with hel
        injection hel with h1 h2 _
        subst h1; subst h2
        have HW1 : Hid (∀ w', Ext wr w' → Calls Tryz.prog 90 #[.agg #[.slice a3 n3 k3]] w' (Ret w' fun r _ => r = .int .i64 (f k))) := fun w' e => by
          have := l04Wafers_c w' _ yl _ (hyl w' (hr0.trans e)) (HB'.out k (by rw [← Hld.out]; exact hlt))
          rwa [HF.out k] at this
        have HW2 : Hid (∀ w', Ext wr w' → Calls Tryz.prog 90 #[.agg #[.slice a4 n4 k4]] w' (Ret w' fun r _ => r = .int .i64 (f b))) := fun w' e => by
          have := l04Wafers_c w' _ yb _ (hyb w' (hr0.trans e)) (HB'.out b (by rw [← Hld.out]; exact hbl))
          rwa [HF.out b] at this
        have HK : Hid (∀ w', Ext wr w' → w'.cell? ⟨bl, ol + k, none⟩ = some (.slice a3 n3 k3) ∧ w'.cell? ⟨bl, ol + b, none⟩ = some (.slice a4 n4 k4)) := fun w' e => ⟨hcl w' (hr0.trans e), hcb w' (hr0.trans e)⟩
        have Hr1 := Lib.hid hr0
        have eX0 := Ext.refl wr
        obtain ⟨k1, k2⟩ := HK.out wr eX0
        clear hcl hcb hyl hyb hr0
        generalize f k = p at *
        generalize f b = q at *
        by_cases hpq : p < q
        · have HV : Hid (cheapTo f (k + 1) = k) := by show _ = _; rw [hstep.out, if_pos hpq]
          clear hstep
          go_wp2_with fail
          go_region_held3 (fun w' => w'.cell? ⟨bl, ol + k, none⟩ = some (.slice a3 n3 k3) ∧ w'.cell? ⟨bl, ol + b, none⟩ = some (.slice a4 n4 k4)) (exact HK.out _ (by repeat (first | exact Ext.refl _ | assumption | (refine Ext.trans ?_ (Ext.alloc _ _)) | (refine Ext.trans ?_ (Ext.drew _)) | (refine Ext.trans ?_ (by assumption))))) (first | (go_at_call 90; (with_reducible refine (HW1.out _ (by repeat (first | exact Ext.refl _ | assumption | (refine Ext.trans ?_ (Ext.alloc _ _)) | (refine Ext.trans ?_ (Ext.drew _)) | (refine Ext.trans ?_ (by assumption))))).mono ?_); rintro e w7 hr7; obtain ⟨r7, rfl, rfl, e7⟩ := ret_ext hr7; clear hr7; have e77 : Ext wr w7 := (by repeat (first | exact Ext.refl _ | assumption | (refine Ext.trans ?_ (Ext.alloc _ _)) | (refine Ext.trans ?_ (Ext.drew _)) | (refine Ext.trans ?_ (by assumption))))) | (go_at_call 90; (with_reducible refine (HW2.out _ (by repeat (first | exact Ext.refl _ | assumption | (refine Ext.trans ?_ (Ext.alloc _ _)) | (refine Ext.trans ?_ (Ext.drew _)) | (refine Ext.trans ?_ (by assumption))))).mono ?_); rintro e w8 hr8; obtain ⟨r8, rfl, rfl, e8⟩ := ret_ext hr8; clear hr8; have e88 : Ext wr w8 := (by repeat (first | exact Ext.refl _ | assumption | (refine Ext.trans ?_ (Ext.alloc _ _)) | (refine Ext.trans ?_ (Ext.drew _)) | (refine Ext.trans ?_ (by assumption))))) | fail)
          all_goals (go_wp2_with fail; go_roundw)
          any_goals (simp [intOf]; omega)
          all_goals exact ⟨k + 1, by omega, by omega, by go_num, by rw [HV.out], Hr1.out.trans (by repeat (first | exact Ext.refl _ | assumption | (refine Ext.trans ?_ (Ext.alloc _ _)) | (refine Ext.trans ?_ (Ext.drew _)) | (refine Ext.trans ?_ (by assumption))))⟩
        · have HV : Hid (cheapTo f (k + 1) = b) := by show _ = _; rw [hstep.out, if_neg hpq]
          clear hstep
          go_wp2_with fail
          go_region_held3 (fun w' => w'.cell? ⟨bl, ol + k, none⟩ = some (.slice a3 n3 k3) ∧ w'.cell? ⟨bl, ol + b, none⟩ = some (.slice a4 n4 k4)) (exact HK.out _ (by repeat (first | exact Ext.refl _ | assumption | (refine Ext.trans ?_ (Ext.alloc _ _)) | (refine Ext.trans ?_ (Ext.drew _)) | (refine Ext.trans ?_ (by assumption))))) (first | (go_at_call 90; (with_reducible refine (HW1.out _ (by repeat (first | exact Ext.refl _ | assumption | (refine Ext.trans ?_ (Ext.alloc _ _)) | (refine Ext.trans ?_ (Ext.drew _)) | (refine Ext.trans ?_ (by assumption))))).mono ?_); rintro e w7 hr7; obtain ⟨r7, rfl, rfl, e7⟩ := ret_ext hr7; clear hr7; have e77 : Ext wr w7 := (by repeat (first | exact Ext.refl _ | assumption | (refine Ext.trans ?_ (Ext.alloc _ _)) | (refine Ext.trans ?_ (Ext.drew _)) | (refine Ext.trans ?_ (by assumption))))) | (go_at_call 90; (with_reducible refine (HW2.out _ (by repeat (first | exact Ext.refl _ | assumption | (refine Ext.trans ?_ (Ext.alloc _ _)) | (refine Ext.trans ?_ (Ext.drew _)) | (refine Ext.trans ?_ (by assumption))))).mono ?_); rintro e w8 hr8; obtain ⟨r8, rfl, rfl, e8⟩ := ret_ext hr8; clear hr8; have e88 : Ext wr w8 := (by repeat (first | exact Ext.refl _ | assumption | (refine Ext.trans ?_ (Ext.alloc _ _)) | (refine Ext.trans ?_ (Ext.drew _)) | (refine Ext.trans ?_ (by assumption))))) | fail)
          all_goals (go_wp2_with fail; go_roundw)
          any_goals (simp [intOf]; omega)
          all_goals exact ⟨k + 1, by omega, by omega, by go_num, by rw [HV.out], Hr1.out.trans (by repeat (first | exact Ext.refl _ | assumption | (refine Ext.trans ?_ (Ext.alloc _ _)) | (refine Ext.trans ?_ (Ext.drew _)) | (refine Ext.trans ?_ (by assumption))))⟩
      · have hkn : k = ln := by omega
        have HH : Hid (res = (((cheapTo f k : Nat) : Int), 0)) := by show _ = _; rw [hkn, Hld.out]; exact H2'.out
        go_wp2_with fail
        go_ret2
        exact ⟨_, rfl, IntCode_mk HH.out, ew2.trans hr0⟩
  · have HH := Lib.hid (H1.out hd)
    have hb0 : (dc != 0) = true := by rw [bne_iff_ne]; exact hd
    clear hd H1 H2 HC2 HOk HD HB
    go_wp2_with fail
    go_ret2
    exact ⟨_, rfl, IntCode_mk HH.out, et⟩
end Go.Proofs.YthgmojggpjnckaaGreat
