/- Proved: the wafers of all locks, program and reference. -/
import Derived.Test.YthgmojggpjnckaaGreatChecked
import Derived.Test.YthgmojggpjnckaaGreatUPkD
namespace Go.Proofs.YthgmojggpjnckaaGreat
open Go.ChangeShapes Go.WideShapes Go.ChangeAt Go.RowKit
set_option linter.unusedVariables false

def wafersTo (l : List (List Int)) : Nat → Int
  | 0 => 0
  | k+1 => wafersTo l k + (((l.getD k []).length : Int) - 1)
def wafersB (l : List (List Int)) : Int := wafersTo l l.length
theorem wafersTo_bound {l : List (List Int)} (h : ∀ i, i < l.length → (l.getD i []).length ≤ 8) : ∀ k, k ≤ l.length → -(k : Int) ≤ wafersTo l k ∧ wafersTo l k ≤ 7 * k
  | 0, _ => ⟨by simp [wafersTo], by simp [wafersTo]⟩
  | k+1, hk => by
    have h1 := wafersTo_bound h k (by omega)
    have h2 := h k (by omega)
    unfold wafersTo
    omega
structure LockB (l : List (List Int)) : Prop where
  len : l.length ≤ 6
  row : ∀ i, i < l.length → (l.getD i []).length ≤ 8
theorem wafersB_bound {l : List (List Int)} (h : LockB l) : -6 ≤ wafersB l ∧ wafersB l ≤ 42 := by
  have := wafersTo_bound h.row l.length (Nat.le_refl _)
  have := h.len
  unfold wafersB
  omega
theorem lockB {mk : MK} {t cuts : List (List Int)} (hok : SysOk mk t) {d : Nat} (hd : d < doorsOf t) : LockB ((locks mk t cuts).getD d []) := by
  have hl := lock_len (mk := mk) (t := t) (cuts := cuts) hd
  have h6 := hok.mk1
  refine ⟨by rw [hl]; omega, fun i hi => ?_⟩
  rw [hl] at hi
  have e : ((locks mk t cuts).getD d []).getD i [] = setAt (keysAt t cuts d cuts.length) i mk.d.toNat := by
    unfold locks locksTo
    simp [hd, hull, hullTo, hi]
  rw [e]
  have := setAt_len (keysAt t cuts d cuts.length) i mk.d.toNat
  have := hok.mk2
  omega
def sumTo (ls : List (List (List Int))) : Nat → Int
  | 0 => 0
  | k+1 => sumTo ls k + wafersB (ls.getD k [])
def sysWafers (mk : MK) (t cuts : List (List Int)) : Int := sumTo (locks mk t cuts) (doorsOf t)
theorem sumTo_bound {ls : List (List (List Int))} {n : Nat} (h : ∀ i, i < n → LockB (ls.getD i [])) : ∀ k, k ≤ n → -(6 * k : Int) ≤ sumTo ls k ∧ sumTo ls k ≤ 42 * k
  | 0, _ => ⟨by simp [sumTo], by simp [sumTo]⟩
  | k+1, hk => by
    have h1 := sumTo_bound h k (by omega)
    have h2 := wafersB_bound (h k (by omega))
    unfold sumTo
    omega
theorem sysWafers_bound {mk : MK} {t cuts : List (List Int)} (hok : SysOk mk t) : -72 ≤ sysWafers mk t cuts ∧ sysWafers mk t cuts ≤ 504 := by
  have := sumTo_bound (ls := locks mk t cuts) (n := doorsOf t) (fun i hi => lockB hok hi) (doorsOf t) (Nat.le_refl _)
  have := hok.doors
  unfold sysWafers
  omega

set_option maxHeartbeats 1000000 in
theorem wafersOf_c (w : World) (v : Value) (z : Zone) (l : List (List Int)) (h : RowsR z w v l) (hb : LockB l) :
    Calls Tryz.prog 89 #[.agg #[v]] w (Ret w fun r _ => r = .int .i64 (wafersB l)) := by
  have HB := Lib.hid (wafersTo_bound hb.row)
  have HR := Lib.hid hb.row
  have h6 := hb.len
  have H1 : Hid (∀ k, wafersTo l (k+1) = wafersTo l k + (((l.getD k []).length : Int) - 1)) := fun _ => rfl
  have H0 : Hid (wafersTo l 0 = 0) := rfl
  have HE : Hid (wafersB l = wafersTo l l.length) := rfl
  generalize wafersB l = res at *
  generalize wafersTo l = wT at *
  obtain ⟨a, n, cap, rfl, hn, hmax, -⟩ := SliceR.shape h
  have HT := Lib.hid (fun (k : Nat) (hk : k < n) => rows_at h hk)
  rw [← hn] at h6
  have Hn := Lib.hid hn
  clear hn h hb
  go_enter Tryz.func89, Tryz.ntmps89
  go_wp2_with fail
  generalize hw0 : World.alloc _ _ = w0
  obtain ⟨e0, c0⟩ : Ext w w0 ∧ w0.cell? ⟨w.heap.size, 0, none⟩ = some (.slice a n cap) := by subst hw0; exact ⟨Ext.alloc _ _, by simp⟩
  clear hw0
  go_loopw [3, 5, 9] (fun s3 _ s9 wr => ∃ k : Nat, k ≤ n ∧ s9 = .int .i64 k ∧ s3 = .int .i64 (wT k) ∧ Drew w0 wr) (fun _ _ s9 _ => n - (intOf s9).toNat)
  case atStart => exact ⟨0, Nat.zero_le _, rfl, by rw [H0.out], Drew.refl _⟩
  case round =>
    obtain ⟨k, hk, rfl, rfl, hd⟩ := hrel
    have et := e0.trans (Ext.ofDrew hd)
    have hbk := HB.out k (by rw [← Hn.out]; exact hk)
    by_cases hlt : k < n
    · obtain ⟨b, off, rfl, a1, n1, k1, hn1, hm1, -, hc, -⟩ := HT.out k hlt
      replace hc := hc wr et
      have hr := HR.out k (by rw [← Hn.out]; exact hlt)
      have HS : Hid (wT (k+1) = wT k + ((n1 : Int) - 1)) := by show _ = _; rw [H1.out, hn1]
      rw [← hn1] at hr
      clear hn1
      generalize wT k = x at *
      go_wp2_with fail
      go_roundw
      case rel => exact ⟨k+1, by omega, by go_num, by rw [HS.out] <;> go_num, hd⟩
      case measure => simp [intOf]; omega
    · have HS : Hid (wT k = res) := by show _ = _; rw [HE.out, ← Hn.out]; congr 1; omega
      go_wp2_with fail
      go_ret
      exact ⟨_, rfl, congrArg (Value.int .i64) HS.out, et⟩

set_option maxHeartbeats 1000000 in
theorem l04Wafers_c (w : World) (v : Value) (z : Zone) (l : List (List Int)) (h : RowsR z w v l) (hb : LockB l) :
    Calls Tryz.prog 90 #[.agg #[v]] w (Ret w fun r _ => r = .int .i64 (wafersB l)) := by
  have HB := Lib.hid (wafersTo_bound hb.row)
  have HR := Lib.hid hb.row
  have h6 := hb.len
  have H1 : Hid (∀ k, wafersTo l (k+1) = wafersTo l k + (((l.getD k []).length : Int) - 1)) := fun _ => rfl
  have H0 : Hid (wafersTo l 0 = 0) := rfl
  have HE : Hid (wafersB l = wafersTo l l.length) := rfl
  generalize wafersB l = res at *
  generalize wafersTo l = wT at *
  obtain ⟨a, n, cap, rfl, hn, hmax, -⟩ := SliceR.shape h
  have HT := Lib.hid (fun (k : Nat) (hk : k < n) => rows_at h hk)
  rw [← hn] at h6
  have Hn := Lib.hid hn
  clear hn h hb
  go_enter Tryz.func90, Tryz.ntmps90
  go_wp2_with fail
  generalize hw0 : World.alloc _ _ = w0
  obtain ⟨e0, c0⟩ : Ext w w0 ∧ w0.cell? ⟨w.heap.size, 0, none⟩ = some (.slice a n cap) := by subst hw0; exact ⟨Ext.alloc _ _, by simp⟩
  clear hw0
  go_loopw [3, 4] (fun s3 s4 wr => ∃ k : Nat, k ≤ n ∧ s4 = .int .i64 k ∧ s3 = .int .i64 (wT k) ∧ Drew w0 wr) (fun _ s4 _ => n - (intOf s4).toNat)
  case atStart => exact ⟨0, Nat.zero_le _, rfl, by rw [H0.out], Drew.refl _⟩
  case round =>
    obtain ⟨k, hk, rfl, rfl, hd⟩ := hrel
    have et := e0.trans (Ext.ofDrew hd)
    have c0' := (hd.cell _).trans c0
    have hbk := HB.out k (by rw [← Hn.out]; exact hk)
    by_cases hlt : k < n
    · obtain ⟨b, off, rfl, a1, n1, k1, hn1, hm1, -, hc, -⟩ := HT.out k hlt
      replace hc := hc wr et
      have hr := HR.out k (by rw [← Hn.out]; exact hlt)
      have HS : Hid (wT (k+1) = wT k + ((n1 : Int) - 1)) := by show _ = _; rw [H1.out, hn1]
      rw [← hn1] at hr
      clear hn1
      generalize wT k = x at *
      go_wp2_with fail
      go_roundw
      case rel => exact ⟨k+1, by omega, by go_num, by rw [HS.out] <;> go_num, hd⟩
      case measure => simp [intOf]; omega
    · have HS : Hid (wT k = res) := by show _ = _; rw [HE.out, ← Hn.out]; congr 1; omega
      go_wp2_with fail
      go_ret
      exact ⟨_, rfl, congrArg (Value.int .i64) HS.out, et⟩

set_option maxRecDepth 20000 in
set_option maxHeartbeats 1000000 in
theorem systemWafers_c (w : World) (mk : MK) (v : Value) (z : Zone) (t : List (List Int)) (h : RowsR z w v t) (u : Value) (y : Zone) (cuts : List (List Int)) (hc : RowsR y w u cuts) (hok : PartOk mk t cuts) :
    Calls Tryz.prog 66 #[sysV mk v, u] w (Ret w fun r _ => r = .int .i64 (sysWafers mk t cuts)) := by
  have HL := Lib.hid (fun (w' : World) (e : Ext w w') => partLocks_c w' mk v z t (stable_rows.ext h e) u y cuts (stable_rows.ext hc e) hok)
  have HW := Lib.hid (fun (w' : World) (v : Value) (z : Zone) (l : List (List Int)) (h : RowsR z w' v l) (hb : LockB l) => wafersOf_c w' v z l h hb)
  have HLB := Lib.hid (fun d (hd : d < doorsOf t) => lockB (cuts := cuts) hok.toSysOk hd)
  have HB := Lib.hid (sumTo_bound (ls := locks mk t cuts) (n := doorsOf t) (fun i hi => lockB hok.toSysOk hi))
  have H1 : Hid (∀ k, sumTo (locks mk t cuts) (k+1) = sumTo (locks mk t cuts) k + wafersB ((locks mk t cuts).getD k [])) := fun _ => rfl
  have H0 : Hid (sumTo (locks mk t cuts) 0 = 0) := rfl
  have HE : Hid (sysWafers mk t cuts = sumTo (locks mk t cuts) (doorsOf t)) := rfl
  have HLL := Lib.hid (locks_len mk t cuts)
  have hdo := hok.doors
  generalize sysWafers mk t cuts = res at *
  generalize locks mk t cuts = ls at *
  obtain ⟨a, n, cap, rfl, -⟩ := SliceR.shape h
  obtain ⟨a2, n2, cap2, rfl, -⟩ := SliceR.shape hc
  clear h hc hok
  unfold sysV at *
  go_enter Tryz.func66, Tryz.ntmps66
  go_wp2_with fail
  generalize hw0 : World.alloc _ _ = w0
  obtain ⟨e0, S0⟩ := sys_box hw0
  clear hw0
  refine Calls.mono (HL.out w0 e0) ?_
  rintro e w1 hr
  obtain ⟨r, rfl, hL, e1⟩ := ret_ext hr
  clear hr HL
  obtain ⟨la, ln, lc, rfl, hln, -⟩ := SliceR.shape hL
  have HLA := Lib.hid (fun (k : Nat) (hk : k < ln) => locks_at hL hk)
  have Hln : Hid (ln = doorsOf t) := by show _ = _; rw [hln, HLL.out]
  have hl12 : ln ≤ 12 := by have := Hln.out; omega
  have et1 := e0.trans e1
  clear hL hln S0 hdo
  go_wp2_with fail
  go_loopw [5, 7, 12] (fun s5 _ s12 wr => ∃ k : Nat, k ≤ ln ∧ s12 = .int .i64 k ∧ s5 = .int .i64 (sumTo ls k) ∧ Ext w1 wr) (fun _ _ s12 _ => ln - (intOf s12).toNat)
  case atStart => exact ⟨0, Nat.zero_le _, rfl, by rw [H0.out], Ext.refl _⟩
  case round =>
    obtain ⟨k, hk, rfl, rfl, ew⟩ := hrel
    have hbk := HB.out k (by rw [← Hln.out]; exact hk)
    by_cases hlt : k < ln
    · obtain ⟨bl, ol, rfl, a3, n3, k3, -, hcl, yl, -, hyl⟩ := HLA.out k hlt
      have hc3 := hcl wr ew
      have hlk := HLB.out k (by rw [← Hln.out]; exact hlt)
      have hcall : ∀ w', Ext wr w' → Calls Tryz.prog 89 #[.agg #[.slice a3 n3 k3]] w' (Ret w' fun r _ => r = .int .i64 (wafersB (ls.getD k []))) := fun w' e => HW.out w' _ _ _ (hyl w' (ew.trans e)) hlk
      have HCa := Lib.hid hcall
      have HS := Lib.hid (H1.out k)
      have hb2 := wafersB_bound hlk
      clear hyl hcl hlk hcall
      generalize wafersB (ls.getD k []) = x at *
      generalize sumTo ls k = s at *
      go_wp2_with fail
      generalize hwX : World.alloc _ _ = wX
      have eX : Ext wr wX := by rw [← hwX]; exact Ext.alloc _ _
      clear hwX
      refine Calls.mono (HCa.out wX eX) ?_
      rintro e w7 hr
      obtain ⟨r, rfl, rfl, e7⟩ := ret_ext hr
      clear hr
      go_wp2_with fail
      go_roundw
      case rel => exact ⟨k+1, by omega, by go_num, by rw [HS.out] <;> go_num, (ew.trans eX).trans e7⟩
      case measure => simp [intOf]; omega
    · have HS : Hid (sumTo ls k = res) := by show _ = _; rw [HE.out, ← Hln.out]; congr 1; omega
      go_wp2_with fail
      go_ret
      exact ⟨_, rfl, congrArg (Value.int .i64) HS.out, et1.trans ew⟩
end Go.Proofs.YthgmojggpjnckaaGreat
