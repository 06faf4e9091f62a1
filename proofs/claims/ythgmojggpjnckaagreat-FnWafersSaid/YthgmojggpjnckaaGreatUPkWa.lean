/- Proved: the wafers of all locks, program and reference; CostOf, program and reference; a design's rows are not too many for its maker, and what SparedWafers computes; a design has at least the least wafers (plain); SystemWafers, program and reference. -/
import Derived.Test.YthgmojggpjnckaaGreatChecked
import Derived.Deep.RegionHeld3
import Derived.Test.YthgmojggpjnckaaGreatUPkD
import Derived.Test.YthgmojggpjnckaaGreatUPkF1
import Derived.Test.YthgmojggpjnckaaGreatUPkWg
import Derived.Test.YthgmojggpjnckaaGreatUPkL
namespace Go.Proofs.YthgmojggpjnckaaGreat
open Go.ChangeShapes Go.WideShapes Go.ChangeAt Go.RowKit
set_option linter.unusedVariables false

def wafersTo (l : List (List Int)) : Nat → Int
  | 0 => 0
  | k+1 => wafersTo l k + (((l.getD k []).length : Int) - 1)
def wafersB (l : List (List Int)) : Int := wafersTo l l.length
theorem wafersTo_bound {l : List (List Int)} (h : ∀ i, i < l.length → (l.getD i []).length ≤ 8) : ∀ k, k ≤ l.length → -(k : Int) ≤ wafersTo l k ∧ wafersTo l k ≤ 7 * k
  | 0, _ => ⟨by simp [wafersTo], by simp [wafersTo]⟩
  | k+1, hk => by
    have h1 := wafersTo_bound h k (by omega)
    have h2 := h k (by omega)
    unfold wafersTo
    omega
structure LockB (l : List (List Int)) : Prop where
  len : l.length ≤ 6
  row : ∀ i, i < l.length → (l.getD i []).length ≤ 8
theorem wafersB_bound {l : List (List Int)} (h : LockB l) : -6 ≤ wafersB l ∧ wafersB l ≤ 42 := by
  have := wafersTo_bound h.row l.length (Nat.le_refl _)
  have := h.len
  unfold wafersB
  omega
theorem lockB {mk : MK} {t cuts : List (List Int)} (hok : SysOk mk t) {d : Nat} (hd : d < doorsOf t) : LockB ((locks mk t cuts).getD d []) := by
  have hl := lock_len (mk := mk) (t := t) (cuts := cuts) hd
  have h6 := hok.mk1
  refine ⟨by rw [hl]; omega, fun i hi => ?_⟩
  rw [hl] at hi
  have e : ((locks mk t cuts).getD d []).getD i [] = setAt (keysAt t cuts d cuts.length) i mk.d.toNat := by
    unfold locks locksTo
    simp [hd, hull, hullTo, hi]
  rw [e]
  have := setAt_len (keysAt t cuts d cuts.length) i mk.d.toNat
  have := hok.mk2
  omega
def sumTo (ls : List (List (List Int))) : Nat → Int
  | 0 => 0
  | k+1 => sumTo ls k + wafersB (ls.getD k [])
def sysWafers (mk : MK) (t cuts : List (List Int)) : Int := sumTo (locks mk t cuts) (doorsOf t)
theorem sumTo_bound {ls : List (List (List Int))} {n : Nat} (h : ∀ i, i < n → LockB (ls.getD i [])) : ∀ k, k ≤ n → -(6 * k : Int) ≤ sumTo ls k ∧ sumTo ls k ≤ 42 * k
  | 0, _ => ⟨by simp [sumTo], by simp [sumTo]⟩
  | k+1, hk => by
    have h1 := sumTo_bound h k (by omega)
    have h2 := wafersB_bound (h k (by omega))
    unfold sumTo
    omega
theorem sysWafers_bound {mk : MK} {t cuts : List (List Int)} (hok : SysOk mk t) : -72 ≤ sysWafers mk t cuts ∧ sysWafers mk t cuts ≤ 504 := by
  have := sumTo_bound (ls := locks mk t cuts) (n := doorsOf t) (fun i hi => lockB hok hi) (doorsOf t) (Nat.le_refl _)
  have := hok.doors
  unfold sysWafers
  omega

set_option maxHeartbeats 1000000 in
theorem wafersOf_c (w : World) (v : Value) (z : Zone) (l : List (List Int)) (h : RowsR z w v l) (hb : LockB l) :
    Calls Tryz.prog 89 #[.agg #[v]] w (Ret w fun r _ => r = .int .i64 (wafersB l)) := by
  have HB := Lib.hid (wafersTo_bound hb.row)
  have HR := Lib.hid hb.row
  have h6 := hb.len
  have H1 : Hid (∀ k, wafersTo l (k+1) = wafersTo l k + (((l.getD k []).length : Int) - 1)) := fun _ => rfl
  have H0 : Hid (wafersTo l 0 = 0) := rfl
  have HE : Hid (wafersB l = wafersTo l l.length) := rfl
  generalize wafersB l = res at *
  generalize wafersTo l = wT at *
  obtain ⟨a, n, cap, rfl, hn, hmax, -⟩ := SliceR.shape h
  have HT := Lib.hid (fun (k : Nat) (hk : k < n) => rows_at h hk)
  rw [← hn] at h6
  have Hn := Lib.hid hn
  clear hn h hb
  go_enter Tryz.func89, Tryz.ntmps89
  go_wp2_with fail
  generalize hw0 : World.alloc _ _ = w0
  obtain ⟨e0, c0⟩ : Ext w w0 ∧ w0.cell? ⟨w.heap.size, 0, none⟩ = some (.slice a n cap) := by subst hw0; exact ⟨Ext.alloc _ _, by simp⟩
  clear hw0
  go_loopw [3, 5, 9] (fun s3 _ s9 wr => ∃ k : Nat, k ≤ n ∧ s9 = .int .i64 k ∧ s3 = .int .i64 (wT k) ∧ Drew w0 wr) (fun _ _ s9 _ => n - (intOf s9).toNat)
  case atStart => exact ⟨0, Nat.zero_le _, rfl, by rw [H0.out], Drew.refl _⟩
  case round =>
    obtain ⟨k, hk, rfl, rfl, hd⟩ := hrel
    have et := e0.trans (Ext.ofDrew hd)
    have hbk := HB.out k (by rw [← Hn.out]; exact hk)
    by_cases hlt : k < n
    · obtain ⟨b, off, rfl, a1, n1, k1, hn1, hm1, -, hc, -⟩ := HT.out k hlt
      replace hc := hc wr et
      have hr := HR.out k (by rw [← Hn.out]; exact hlt)
      have HS : Hid (wT (k+1) = wT k + ((n1 : Int) - 1)) := by show _ = _; rw [H1.out, hn1]
      rw [← hn1] at hr
      clear hn1
      generalize wT k = x at *
      go_wp2_with fail
      go_roundw
      case rel => exact ⟨k+1, by omega, by go_num, by rw [HS.out] <;> go_num, hd⟩
      case measure => simp [intOf]; omega
    · have HS : Hid (wT k = res) := by show _ = _; rw [HE.out, ← Hn.out]; congr 1; omega
      go_wp2_with fail
      go_ret
      exact ⟨_, rfl, congrArg (Value.int .i64) HS.out, et⟩

set_option maxHeartbeats 1000000 in
theorem l04Wafers_c (w : World) (v : Value) (z : Zone) (l : List (List Int)) (h : RowsR z w v l) (hb : LockB l) :
    Calls Tryz.prog 90 #[.agg #[v]] w (Ret w fun r _ => r = .int .i64 (wafersB l)) := by
  have HB := Lib.hid (wafersTo_bound hb.row)
  have HR := Lib.hid hb.row
  have h6 := hb.len
  have H1 : Hid (∀ k, wafersTo l (k+1) = wafersTo l k + (((l.getD k []).length : Int) - 1)) := fun _ => rfl
  have H0 : Hid (wafersTo l 0 = 0) := rfl
  have HE : Hid (wafersB l = wafersTo l l.length) := rfl
  generalize wafersB l = res at *
  generalize wafersTo l = wT at *
  obtain ⟨a, n, cap, rfl, hn, hmax, -⟩ := SliceR.shape h
  have HT := Lib.hid (fun (k : Nat) (hk : k < n) => rows_at h hk)
  rw [← hn] at h6
  have Hn := Lib.hid hn
  clear hn h hb
  go_enter Tryz.func90, Tryz.ntmps90
  go_wp2_with fail
  generalize hw0 : World.alloc _ _ = w0
  obtain ⟨e0, c0⟩ : Ext w w0 ∧ w0.cell? ⟨w.heap.size, 0, none⟩ = some (.slice a n cap) := by subst hw0; exact ⟨Ext.alloc _ _, by simp⟩
  clear hw0
  go_loopw [3, 4] (fun s3 s4 wr => ∃ k : Nat, k ≤ n ∧ s4 = .int .i64 k ∧ s3 = .int .i64 (wT k) ∧ Drew w0 wr) (fun _ s4 _ => n - (intOf s4).toNat)
  case atStart => exact ⟨0, Nat.zero_le _, rfl, by rw [H0.out], Drew.refl _⟩
  case round =>
    obtain ⟨k, hk, rfl, rfl, hd⟩ := hrel
    have et := e0.trans (Ext.ofDrew hd)
    have c0' := (hd.cell _).trans c0
    have hbk := HB.out k (by rw [← Hn.out]; exact hk)
    by_cases hlt : k < n
    · obtain ⟨b, off, rfl, a1, n1, k1, hn1, hm1, -, hc, -⟩ := HT.out k hlt
      replace hc := hc wr et
      have hr := HR.out k (by rw [← Hn.out]; exact hlt)
      have HS : Hid (wT (k+1) = wT k + ((n1 : Int) - 1)) := by show _ = _; rw [H1.out, hn1]
      rw [← hn1] at hr
      clear hn1
      generalize wT k = x at *
      go_wp2_with fail
      go_roundw
      case rel => exact ⟨k+1, by omega, by go_num, by rw [HS.out] <;> go_num, hd⟩
      case measure => simp [intOf]; omega
    · have HS : Hid (wT k = res) := by show _ = _; rw [HE.out, ← Hn.out]; congr 1; omega
      go_wp2_with fail
      go_ret
      exact ⟨_, rfl, congrArg (Value.int .i64) HS.out, et⟩

set_option maxRecDepth 20000 in
set_option maxHeartbeats 1000000 in
theorem systemWafers_c (w : World) (mk : MK) (v : Value) (z : Zone) (t : List (List Int)) (h : RowsR z w v t) (u : Value) (y : Zone) (cuts : List (List Int)) (hc : RowsR y w u cuts) (hok : PartOk mk t cuts) :
    Calls Tryz.prog 66 #[sysV mk v, u] w (Ret w fun r _ => r = .int .i64 (sysWafers mk t cuts)) := by
  have HL := Lib.hid (fun (w' : World) (e : Ext w w') => partLocks_c w' mk v z t (stable_rows.ext h e) u y cuts (stable_rows.ext hc e) hok)
  have HW := Lib.hid (fun (w' : World) (v : Value) (z : Zone) (l : List (List Int)) (h : RowsR z w' v l) (hb : LockB l) => wafersOf_c w' v z l h hb)
  have HLB := Lib.hid (fun d (hd : d < doorsOf t) => lockB (cuts := cuts) hok.toSysOk hd)
  have HB := Lib.hid (sumTo_bound (ls := locks mk t cuts) (n := doorsOf t) (fun i hi => lockB hok.toSysOk hi))
  have H1 : Hid (∀ k, sumTo (locks mk t cuts) (k+1) = sumTo (locks mk t cuts) k + wafersB ((locks mk t cuts).getD k [])) := fun _ => rfl
  have H0 : Hid (sumTo (locks mk t cuts) 0 = 0) := rfl
  have HE : Hid (sysWafers mk t cuts = sumTo (locks mk t cuts) (doorsOf t)) := rfl
  have HLL := Lib.hid (locks_len mk t cuts)
  have hdo := hok.doors
  generalize sysWafers mk t cuts = res at *
  generalize locks mk t cuts = ls at *
  obtain ⟨a, n, cap, rfl, -⟩ := SliceR.shape h
  obtain ⟨a2, n2, cap2, rfl, -⟩ := SliceR.shape hc
  clear h hc hok
  unfold sysV at *
  go_enter Tryz.func66, Tryz.ntmps66
  go_wp2_with fail
  generalize hw0 : World.alloc _ _ = w0
  obtain ⟨e0, S0⟩ := sys_box hw0
  clear hw0
  refine Calls.mono (HL.out w0 e0) ?_
  rintro e w1 hr
  obtain ⟨r, rfl, hL, e1⟩ := ret_ext hr
  clear hr HL
  obtain ⟨la, ln, lc, rfl, hln, -⟩ := SliceR.shape hL
  have HLA := Lib.hid (fun (k : Nat) (hk : k < ln) => locks_at hL hk)
  have Hln : Hid (ln = doorsOf t) := by show _ = _; rw [hln, HLL.out]
  have hl12 : ln ≤ 12 := by have := Hln.out; omega
  have et1 := e0.trans e1
  clear hL hln S0 hdo
  go_wp2_with fail
  go_loopw [5, 7, 12] (fun s5 _ s12 wr => ∃ k : Nat, k ≤ ln ∧ s12 = .int .i64 k ∧ s5 = .int .i64 (sumTo ls k) ∧ Ext w1 wr) (fun _ _ s12 _ => ln - (intOf s12).toNat)
  case atStart => exact ⟨0, Nat.zero_le _, rfl, by rw [H0.out], Ext.refl _⟩
  case round =>
    obtain ⟨k, hk, rfl, rfl, ew⟩ := hrel
    have hbk := HB.out k (by rw [← Hln.out]; exact hk)
    by_cases hlt : k < ln
    · obtain ⟨bl, ol, rfl, a3, n3, k3, -, hcl, yl, -, hyl⟩ := HLA.out k hlt
      have hc3 := hcl wr ew
      have hlk := HLB.out k (by rw [← Hln.out]; exact hlt)
      have hcall : ∀ w', Ext wr w' → Calls Tryz.prog 89 #[.agg #[.slice a3 n3 k3]] w' (Ret w' fun r _ => r = .int .i64 (wafersB (ls.getD k []))) := fun w' e => HW.out w' _ _ _ (hyl w' (ew.trans e)) hlk
      have HCa := Lib.hid hcall
      have HS := Lib.hid (H1.out k)
      have hb2 := wafersB_bound hlk
      clear hyl hcl hlk hcall
      generalize wafersB (ls.getD k []) = x at *
      generalize sumTo ls k = s at *
      go_wp2_with fail
      generalize hwX : World.alloc _ _ = wX
      have eX : Ext wr wX := by rw [← hwX]; exact Ext.alloc _ _
      clear hwX
      refine Calls.mono (HCa.out wX eX) ?_
      rintro e w7 hr
      obtain ⟨r, rfl, rfl, e7⟩ := ret_ext hr
      clear hr
      go_wp2_with fail
      go_roundw
      case rel => exact ⟨k+1, by omega, by go_num, by rw [HS.out] <;> go_num, (ew.trans eX).trans e7⟩
      case measure => simp [intOf]; omega
    · have HS : Hid (sumTo ls k = res) := by show _ = _; rw [HE.out, ← Hln.out]; congr 1; omega
      go_wp2_with fail
      go_ret
      exact ⟨_, rfl, congrArg (Value.int .i64) HS.out, et1.trans ew⟩

open Go.ChangeShapes Go.WideShapes Go.ChangeAt Go.RowKit
set_option linter.unusedVariables false

def pricesOk (ps : List Int) : Bool := decide (ps.length = 3) && allB ps 0 1000
def costV (mk : MK) (t cuts : List (List Int)) (ps : List Int) : Int := mk.c * (doorsOf t : Int) * (ps.getD 0 0 + ps.getD 2 0) + sysWafers mk t cuts * ps.getD 1 0
def costOf (mk : MK) (t cuts : List (List Int)) (ps : List Int) : Int × Int := if designCode mk t cuts = 0 then (if pricesOk ps = true then (costV mk t cuts ps, 0) else (0, 2)) else (0, designCode mk t cuts)
theorem costOf_bad {mk : MK} {t cuts : List (List Int)} {ps : List Int} (h : designCode mk t cuts ≠ 0) : costOf mk t cuts ps = (0, designCode mk t cuts) := by unfold costOf; rw [if_neg h]
theorem costOf_prices {mk : MK} {t cuts : List (List Int)} {ps : List Int} (h : designCode mk t cuts = 0) (h2 : pricesOk ps = false) : costOf mk t cuts ps = (0, 2) := by unfold costOf; rw [if_pos h, if_neg (by rw [h2]; decide)]
theorem costOf_ok {mk : MK} {t cuts : List (List Int)} {ps : List Int} (h : designCode mk t cuts = 0) (h2 : pricesOk ps = true) : costOf mk t cuts ps = (costV mk t cuts ps, 0) := by unfold costOf; rw [if_pos h, if_pos h2]
theorem mul_bound {a b A B : Int} (h1 : -A ≤ a) (h2 : a ≤ A) (h3 : 0 ≤ b) (h4 : b ≤ B) : -(A*B) ≤ a*b ∧ a*b ≤ A*B := by
  have hA : 0 ≤ A := by omega
  have q1 : a * b ≤ A * b := Int.mul_le_mul_of_nonneg_right h2 h3
  have q2 : A * b ≤ A * B := Int.mul_le_mul_of_nonneg_left h4 hA
  have q3 : -A * b ≤ a * b := Int.mul_le_mul_of_nonneg_right h1 h3
  have q4 : -A * b = -(A * b) := Int.neg_mul A b
  omega
/-- all that is reckoned is small -/
structure CostN (c m : Int) (p0 p1 p2 sw : Int) : Prop where
  cm : IntKind.i64.wrap (c * m) = c * m
  mc : IntKind.i64.wrap (m * c) = c * m
  pp : IntKind.i64.wrap (p0 + p2) = p0 + p2
  cp : IntKind.i64.wrap (c * m * (p0 + p2)) = c * m * (p0 + p2)
  sp : IntKind.i64.wrap (sw * p1) = sw * p1
  all : IntKind.i64.wrap (c * m * (p0 + p2) + sw * p1) = c * m * (p0 + p2) + sw * p1
theorem costN {c m p0 p1 p2 sw : Int} (hc : 2 ≤ c ∧ c ≤ 6) (hm : 1 ≤ m ∧ m ≤ 12) (h0 : 0 ≤ p0 ∧ p0 ≤ 1000) (h1 : 0 ≤ p1 ∧ p1 ≤ 1000) (h2 : 0 ≤ p2 ∧ p2 ≤ 1000) (hs : -72 ≤ sw ∧ sw ≤ 504) : CostN c m p0 p1 p2 sw := by
  have q1 := mul_bound (a := c) (b := m) (A := 6) (B := 12) (by omega) hc.2 (by omega) hm.2
  have q2 := mul_bound (a := c * m) (b := p0 + p2) (A := 72) (B := 2000) (by omega) (by omega) (by omega) (by omega)
  have q3 := mul_bound (a := sw) (b := p1) (A := 504) (B := 1000) (by omega) (by omega) h1.1 h1.2
  refine ⟨IntWalk.i64_in _ (by omega), ?_, IntWalk.i64_in _ (by omega), IntWalk.i64_in _ (by omega), IntWalk.i64_in _ (by omega), IntWalk.i64_in _ (by omega)⟩
  rw [Int.mul_comm m c]; exact IntWalk.i64_in _ (by omega)
theorem pricesOk_mem {ps : List Int} (h : pricesOk ps = true) : ps.length = 3 ∧ ∀ i, i < 3 → 0 ≤ ps.getD i 0 ∧ ps.getD i 0 ≤ 1000 := by
  unfold pricesOk at h
  obtain ⟨h1, h2⟩ := Bool.and_eq_true_iff.1 h
  have h1 := of_decide_eq_true h1
  refine ⟨h1, fun i hi => ?_⟩
  have hl : i < ps.length := by omega
  have := (List.all_eq_true.1 h2) _ (List.getElem_mem hl)
  have e : ps.getD i 0 = ps[i] := by simp [hl]
  rw [e]; exact inB_iff.1 this

open Go.ChangeShapes Go.WideShapes Go.ChangeAt Go.RowKit
set_option linter.unusedVariables false

theorem getD_eq0 {xs : List Int} {j : Nat} (h : j < xs.length) : xs.getD j 0 = xs[j] := by simp [h]
theorem hull_opens {mk : MK} {ks : List (List Int)} {x : List Int} (hx : KeyOk mk x) (hm : x ∈ ks) : opensB (hull mk ks) x = true := by
  unfold opensB
  refine List.all_eq_true.2 (fun i hi => ?_)
  have hi' := List.mem_range.1 hi
  have h1 := hx.len
  have h2 := hx.cut i hi'
  rw [hull_at (by omega)]
  exact has_setAt.2 ⟨⟨h2.1, by omega⟩, x, hm, rfl⟩
theorem row_bits {mk : MK} {t : List (List Int)} (h : SysOk mk t) {i j : Nat} (hi : i < t.length) (hj : j < t.length) (hb : ∀ d, d < doorsOf t → (t.getD i []).getD d 0 = (t.getD j []).getD d 0) : t.getD i [] = t.getD j [] := by
  have h1 := h.row i hi
  have h2 := h.row j hj
  refine List.ext_getElem (by omega) (fun d g1 g2 => ?_)
  have := hb d (by omega)
  rw [getD_eq0 g1, getD_eq0 g2] at this
  exact this
theorem key_rowS {mk : MK} {t cuts : List (List Int)} (h : DesignOk mk t cuts) (hf : faults mk t cuts = 0) {i j : Nat} (hi : i < t.length) (hj : j < t.length) (he : cuts.getD i [] = cuts.getD j []) {d : Nat} (hd : d < doorsOf t) (h1 : (t.getD i []).getD d 0 = 1) : (t.getD j []).getD d 0 = 1 := by
  have heq := h.eq
  have hb := h.bit j d hj hd
  have hno := (faults_zero.1 hf) j (by omega) d hd
  by_cases h0 : (t.getD j []).getD d 0 = 0
  · exfalso
    have hmem : cuts.getD j [] ∈ cuts := by
      have : j < cuts.length := by omega
      rw [List.getD_eq_getElem?_getD, List.getElem?_eq_getElem this]; exact List.getElem_mem this
    have hin : cuts.getD j [] ∈ keysAt t cuts d cuts.length := by
      unfold keysAt
      refine List.mem_map.2 ⟨i, ?_, he⟩
      unfold rowsAt
      exact List.mem_filter.2 ⟨List.mem_range.2 (by omega), by rw [h1]; rfl⟩
    unfold faultAt at hno
    rw [lock_at hd, hull_opens (h.key _ hmem) hin, h0] at hno
    exact absurd hno (by decide)
  · omega
theorem keys_rows {mk : MK} {t cuts : List (List Int)} (h : DesignOk mk t cuts) (hf : faults mk t cuts = 0) {i j : Nat} (hi : i < t.length) (hj : j < t.length) (he : cuts.getD i [] = cuts.getD j []) : t.getD i [] = t.getD j [] := by
  refine row_bits h.toPartOk.toSysOk hi hj (fun d hd => ?_)
  have hb := h.bit i d hi hd
  have hb' := h.bit j d hj hd
  by_cases h1 : (t.getD i []).getD d 0 = 1
  · rw [h1, key_rowS h hf hi hj he hd h1]
  · by_cases h2 : (t.getD j []).getD d 0 = 1
    · have := key_rowS h hf hj hi he.symm hd h2; omega
    · omega
theorem diff_le {mk : MK} {t cuts : List (List Int)} (h : DesignOk mk t cuts) (hf : faults mk t cuts = 0) (d : Nat) : diffN (keysAt t t d t.length) (keysAt t t d t.length).length ≤ mk.d.toNat ^ mk.c.toNat := by
  have heq := h.eq
  have hlen : (keysAt t t d t.length).length = (rowsAt t d t.length).length := by simp [keysAt]
  have hat : ∀ i, i < (rowsAt t d t.length).length → (keysAt t t d t.length).getD i [] = t.getD ((rowsAt t d t.length).getD i 0) [] ∧ (rowsAt t d t.length).getD i 0 < t.length := by
    intro i hi
    refine ⟨by simp [keysAt, hi], ?_⟩
    have : (rowsAt t d t.length).getD i 0 = (rowsAt t d t.length)[i] := by simp [hi]
    rw [this]
    exact rowsAt_lt (List.getElem_mem hi)
  have hp := distI_pair (keysAt t t d t.length) _ (Nat.le_refl _)
  have hK : ((distI (keysAt t t d t.length) (keysAt t t d t.length).length).map fun i => cuts.getD ((rowsAt t d t.length).getD i 0) []).length ≤ mk.d.toNat ^ mk.c.toNat := by
    refine lists_le ?_ (fun l hl => ?_)
    · rw [List.Nodup, List.pairwise_map]
      refine List.Pairwise.imp (fun {i j} hij he => ?_) hp
      obtain ⟨h1, h2, h3⟩ := hij
      have hi := hat i (by omega)
      have hj := hat j (by omega)
      rw [hi.1, hj.1] at h3
      exact h3 (keys_rows h hf hi.2 hj.2 he)
    · obtain ⟨i, hi, rfl⟩ := List.mem_map.1 hl
      have hi' : i < (keysAt t t d t.length).length := by
        unfold distI at hi
        exact List.mem_range.1 (List.mem_filter.1 hi).1
      have hi2 := hat i (by omega)
      have hlt : (rowsAt t d t.length).getD i 0 < cuts.length := by rw [heq]; exact hi2.2
      have hmem : cuts.getD ((rowsAt t d t.length).getD i 0) [] ∈ cuts := by
        generalize (rowsAt t d t.length).getD i 0 = q at *
        rw [List.getD_eq_getElem?_getD, List.getElem?_eq_getElem hlt]; exact List.getElem_mem hlt
      have hk := h.key _ hmem
      generalize cuts.getD ((rowsAt t d t.length).getD i 0) [] = l at *
      have hm1 := h.mk1
      have hm2 := h.mk2
      refine ⟨by have := hk.len; omega, fun x hx => ?_⟩
      obtain ⟨q, hq, rfl⟩ := List.getElem_of_mem hx
      have := hk.cut q hq
      have e : l.getD q 0 = l[q] := by simp [hq]
      rw [e] at this
      omega
  simpa [diffN] using hK

/-- the rows that open a door -/
def openRows (t : List (List Int)) (d : Nat) : List (List Int) := keysAt t t d t.length
def doorW (mk : MK) (t : List (List Int)) (d : Nat) : Nat := wafN mk.c.toNat mk.d.toNat (diffN (openRows t d) (openRows t d).length)
def leastTo (mk : MK) (t : List (List Int)) : Nat → Nat
  | 0 => 0
  | k + 1 => leastTo mk t k + doorW mk t k
/-- no door asks for more than there is -/
def LeastOk (mk : MK) (t : List (List Int)) : Prop := ∀ d, diffN (openRows t d) (openRows t d).length ≤ mk.d.toNat ^ mk.c.toNat
theorem doorW_le {mk : MK} {t : List (List Int)} (hs : SysOk mk t) (h : LeastOk mk t) (d : Nat) : doorW mk t d ≤ 42 := by
  have h1 := hs.mk1
  have h2 := hs.mk2
  have h3 := wafN_le (c := mk.c.toNat) (d := mk.d.toNat) (by omega) (by omega) (h d)
  have h4 : mk.c.toNat * (mk.d.toNat - 1) ≤ 6 * 7 := Nat.mul_le_mul (by omega) (by omega)
  unfold doorW
  omega
theorem leastTo_le {mk : MK} {t : List (List Int)} (hs : SysOk mk t) (h : LeastOk mk t) : ∀ k, leastTo mk t k ≤ k * 42
  | 0 => by simp [leastTo]
  | k + 1 => by
    have := leastTo_le hs h k
    have := doorW_le hs h k
    simp only [leastTo]
    omega
def spared (mk : MK) (t cuts : List (List Int)) : Int × Int := if designCode mk t cuts ≠ 0 then (0, designCode mk t cuts) else (sysWafers mk t cuts - (leastTo mk t (doorsOf t) : Int), 0)
theorem spared_bad {mk : MK} {t cuts : List (List Int)} (h : designCode mk t cuts ≠ 0) : spared mk t cuts = (0, designCode mk t cuts) := by unfold spared; rw [if_pos h]
theorem spared_ok {mk : MK} {t cuts : List (List Int)} (h : designCode mk t cuts = 0) : spared mk t cuts = (sysWafers mk t cuts - (leastTo mk t (doorsOf t) : Int), 0) := by unfold spared; rw [if_neg (by omega)]
theorem design_least {mk : MK} {t cuts : List (List Int)} (h : designCode mk t cuts = 0) : LeastOk mk t := by
  have h1 : isDesign mk t cuts = true := by
    unfold designCode at h
    split at h
    · assumption
    · omega
  have h2 : faults mk t cuts = 0 := by
    unfold isDesign at h1
    obtain ⟨-, h3⟩ := Bool.and_eq_true_iff.1 h1
    obtain ⟨-, h4⟩ := Bool.and_eq_true_iff.1 h3
    exact of_decide_eq_true h4
  exact fun d => diff_le (designCode_zero h) h2 d

open Go.ChangeShapes Go.WideShapes Go.ChangeAt Go.RowKit
set_option linter.unusedVariables false

/-- lists whose place i lies in set i -/
theorem prod_lists : ∀ (L : List (List Int)) (K : List (List Int)), K.Nodup → (∀ l ∈ K, l.length = L.length ∧ ∀ i, i < L.length → l.getD i 0 ∈ L.getD i []) → K.length ≤ (L.map List.length).foldr (· * ·) 1
  | [], K, hn, h => by
    have : ∀ l ∈ K, l = [] := fun l hl => List.eq_nil_of_length_eq_zero (h l hl).1
    cases K with
    | nil => simp
    | cons a K =>
      cases K with
      | nil => simp
      | cons b K =>
        exfalso
        have h1 := this a (by simp)
        have h2 := this b (by simp)
        rw [List.nodup_cons] at hn
        exact hn.1 (by rw [h1, h2]; simp)
  | s :: L, K, hn, h => by
    have hsplit : K.length ≤ ((s.map fun x => (K.filter fun l => decide (l.getD 0 0 = x)).length)).foldr (· + ·) 0 := by
      clear hn
      have hm : ∀ l ∈ K, l.getD 0 0 ∈ s := fun l hl => by have := (h l hl).2 0 (by simp); simpa using this
      clear h
      induction K with
      | nil => simp
      | cons l K ih =>
        have h1 := ih (fun l hl => hm l (List.mem_cons_of_mem _ hl))
        have h2 := hm l (List.mem_cons_self ..)
        have h3 : (s.map fun x => (K.filter fun l => decide (l.getD 0 0 = x)).length).foldr (· + ·) 0 + 1 ≤ (s.map fun x => ((l :: K).filter fun l => decide (l.getD 0 0 = x)).length).foldr (· + ·) 0 := by
          clear h1 ih hm
          induction s with
          | nil => simp at h2
          | cons y s ihs =>
            have hle : ∀ y, (K.filter fun l => decide (l.getD 0 0 = y)).length ≤ ((l :: K).filter fun l => decide (l.getD 0 0 = y)).length := fun y => by
              rw [List.filter_cons]; split <;> simp
            have hall : ∀ s : List Int, (s.map fun x => (K.filter fun l => decide (l.getD 0 0 = x)).length).foldr (· + ·) 0 ≤ (s.map fun x => ((l :: K).filter fun l => decide (l.getD 0 0 = x)).length).foldr (· + ·) 0 := fun s => by
              induction s with
              | nil => simp
              | cons z s ihz => simp only [List.map_cons, List.foldr_cons]; have := hle z; omega
            simp only [List.map_cons, List.foldr_cons]
            by_cases e : l.getD 0 0 = y
            · have e1 : ((l :: K).filter fun l => decide (l.getD 0 0 = y)).length = (K.filter fun l => decide (l.getD 0 0 = y)).length + 1 := by rw [List.filter_cons, if_pos (by simpa using e)]; simp
              have := hall s
              omega
            · have h4 : l.getD 0 0 ∈ s := by
                rcases List.mem_cons.1 h2 with q | q
                · exact absurd q e
                · exact q
              have := ihs h4
              have := hle y
              omega
        simp only [List.length_cons]
        omega
    have hpart : ∀ x, (K.filter fun l => decide (l.getD 0 0 = x)).length ≤ (L.map List.length).foldr (· * ·) 1 := fun x => by
      have hf : ((K.filter fun l => decide (l.getD 0 0 = x)).map List.tail).length ≤ (L.map List.length).foldr (· * ·) 1 := by
        refine prod_lists L _ ?_ (fun l hl => ?_)
        · rw [List.Nodup, List.pairwise_map]
          refine List.Pairwise.imp_of_mem (fun {a b} ha hb hab he => ?_) (List.Pairwise.filter _ hn)
          have ha' := List.mem_filter.1 ha
          have hb' := List.mem_filter.1 hb
          have la := (h a ha'.1).1
          have lb := (h b hb'.1).1
          have xa : a.getD 0 0 = x := by simpa using ha'.2
          have xb : b.getD 0 0 = x := by simpa using hb'.2
          cases a with
          | nil => simp at la
          | cons a0 a =>
            cases b with
            | nil => simp at lb
            | cons b0 b =>
              simp only [List.getD_cons_zero] at xa xb
              simp only [List.tail_cons] at he
              exact hab (by rw [xa, xb, he])
        · obtain ⟨k, hk, rfl⟩ := List.mem_map.1 hl
          have hk' := List.mem_filter.1 hk
          obtain ⟨h1, h2⟩ := h k hk'.1
          cases k with
          | nil => simp at h1
          | cons k0 k =>
            refine ⟨by simpa using h1, fun i hi => ?_⟩
            have := h2 (i + 1) (by simp; omega)
            simpa using this
      simpa using hf
    have hsum : ∀ (s : List Int) (B : Nat), (∀ x, (K.filter fun l => decide (l.getD 0 0 = x)).length ≤ B) → ((s.map fun x => (K.filter fun l => decide (l.getD 0 0 = x)).length)).foldr (· + ·) 0 ≤ s.length * B := fun s B hB => by
      induction s with
      | nil => simp
      | cons y s ih =>
        simp only [List.map_cons, List.foldr_cons, List.length_cons]
        have := hB y
        have e : (s.length + 1) * B = s.length * B + B := Nat.succ_mul _ _
        omega
    simp only [List.map_cons, List.foldr_cons]
    exact Nat.le_trans hsplit (hsum s _ hpart)
theorem bestTo_ge {f : Nat → Nat} {W : Nat} : ∀ {k n : Nat}, k < n → (k + 1) * f (W - k) ≤ bestTo f W n
  | k, 0, h => absurd h (Nat.not_lt_zero _)
  | k, n + 1, h => by
    simp only [bestTo]
    by_cases e : k = n
    · subst e; exact Nat.le_max_right _ _
    · exact Nat.le_trans (bestTo_ge (by omega)) (Nat.le_max_left _ _)
/-- sizes within their range are no more than the best ones -/
theorem sizes_most {d : Nat} : ∀ (S : List Nat), (∀ x ∈ S, 1 ≤ x ∧ x ≤ d) → ∀ W, W = (S.map fun x => x - 1).foldr (· + ·) 0 → S.foldr (· * ·) 1 ≤ most d S.length W
  | [], _, W, hW => by simp at hW; subst hW; simp [most]
  | x :: S, h, W, hW => by
    have hx := h x (by simp)
    simp only [List.map_cons, List.foldr_cons] at hW
    have h1 := sizes_most S (fun y hy => h y (List.mem_cons_of_mem _ hy)) (W - (x - 1)) (by omega)
    have h2 := bestTo_ge (f := most d S.length) (W := W) (k := x - 1) (n := min d (W + 1)) (by omega)
    simp only [List.foldr_cons, List.length_cons, most]
    refine Nat.le_trans (Nat.mul_le_mul_left x h1) ?_
    have e : x - 1 + 1 = x := by omega
    rw [e] at h2
    exact h2
theorem wafN_min {c d n W : Nat} (hW : W ≤ c * (d - 1)) (h : n ≤ prodTo c W c) : wafN c d n ≤ W := by
  have key : ∀ m, m ≤ W → (∀ j, j < m → ¬ n ≤ prodTo c j c) ∨ wafN c d n < m := by
    intro m
    induction m with
    | zero => exact fun _ => .inl (fun j hj => absurd hj (Nat.not_lt_zero _))
    | succ m ih =>
      intro hm
      rcases ih (by omega) with q | q
      · by_cases e : n ≤ prodTo c m c
        · exact .inr (by rw [wafN_at (d := d) (by omega) e q]; exact Nat.lt_succ_self _)
        · refine .inl (fun j hj => ?_)
          by_cases e2 : j = m
          · rw [e2]; exact e
          · exact q j (by omega)
      · exact .inr (by omega)
  rcases key W (Nat.le_refl _) with q | q
  · exact Nat.le_of_eq (wafN_at hW h q)
  · omega
theorem wafersTo_sum (l : List (List Int)) (h : ∀ i, i < l.length → 1 ≤ (l.getD i []).length) : ∀ k, k ≤ l.length → wafersTo l k = ((((l.take k).map List.length).map fun x => x - 1).foldr (· + ·) 0 : Nat)
  | 0, _ => rfl
  | k + 1, hk => by
    have h1 := wafersTo_sum l h k (by omega)
    have h2 := h k (by omega)
    have e : l.take (k + 1) = l.take k ++ [l.getD k []] := by
      rw [List.take_add_one, List.getElem?_eq_getElem (by omega)]; simp [show k < l.length by omega]
    have hap : ∀ (A : List Nat) (x : Nat), (A ++ [x]).foldr (· + ·) 0 = A.foldr (· + ·) 0 + x := fun A x => by
      induction A with
      | nil => simp
      | cons a A ih => simp only [List.cons_append, List.foldr_cons, ih]; omega
    rw [e]
    simp only [List.map_append, List.map_cons, List.map_nil, hap, wafersTo, h1]
    omega
theorem lock_get {mk : MK} {t cuts : List (List Int)} {d i : Nat} (hd : d < doorsOf t) (hi : i < mk.c.toNat) : ((locks mk t cuts).getD d []).getD i [] = setAt (keysAt t cuts d cuts.length) i mk.d.toNat := by
  rw [lock_at hd, hull_at hi]
/-- the different rows that open a door are no more than what the lock's sizes give -/
theorem diff_prod {mk : MK} {t cuts : List (List Int)} (h : DesignOk mk t cuts) (hf : faults mk t cuts = 0) {d : Nat} (hd : d < doorsOf t) : diffN (openRows t d) (openRows t d).length ≤ (((locks mk t cuts).getD d []).map List.length).foldr (· * ·) 1 := by
  have heq := h.eq
  have hm1 := h.mk1
  have hlen : (openRows t d).length = (rowsAt t d t.length).length := by simp [openRows, keysAt]
  have hat : ∀ i, i < (rowsAt t d t.length).length → (openRows t d).getD i [] = t.getD ((rowsAt t d t.length).getD i 0) [] ∧ (rowsAt t d t.length).getD i 0 < t.length ∧ (rowsAt t d t.length).getD i 0 ∈ rowsAt t d t.length := by
    intro i hi
    have e : (rowsAt t d t.length).getD i 0 = (rowsAt t d t.length)[i] := by simp [hi]
    refine ⟨by simp [openRows, keysAt, hi], ?_, ?_⟩
    · rw [e]; exact rowsAt_lt (List.getElem_mem hi)
    · rw [e]; exact List.getElem_mem hi
  have hp := distI_pair (openRows t d) _ (Nat.le_refl _)
  have hll : ((locks mk t cuts).getD d []).length = mk.c.toNat := lock_len hd
  have hK : ((distI (openRows t d) (openRows t d).length).map fun i => cuts.getD ((rowsAt t d t.length).getD i 0) []).length ≤ (((locks mk t cuts).getD d []).map List.length).foldr (· * ·) 1 := by
    refine prod_lists _ _ ?_ (fun l hl => ?_)
    · rw [List.Nodup, List.pairwise_map]
      refine List.Pairwise.imp (fun {i j} hij he => ?_) hp
      obtain ⟨h1, h2, h3⟩ := hij
      have hi := hat i (by omega)
      have hj := hat j (by omega)
      rw [hi.1, hj.1] at h3
      exact h3 (keys_rows h hf hi.2.1 hj.2.1 he)
    · obtain ⟨i, hi, rfl⟩ := List.mem_map.1 hl
      have hi' : i < (openRows t d).length := by
        unfold distI at hi
        exact List.mem_range.1 (List.mem_filter.1 hi).1
      obtain ⟨-, hi2, hi3⟩ := hat i (by omega)
      generalize (rowsAt t d t.length).getD i 0 = q at *
      have hlt : q < cuts.length := by omega
      have hmem : cuts.getD q [] ∈ cuts := by
        rw [List.getD_eq_getElem?_getD, List.getElem?_eq_getElem hlt]; exact List.getElem_mem hlt
      have hk := h.key _ hmem
      have hkl := hk.len
      refine ⟨by rw [hll]; omega, fun j hj => ?_⟩
      rw [hll] at hj
      rw [lock_get hd hj]
      have hc := hk.cut j (by omega)
      unfold setAt
      refine List.mem_map.2 ⟨((cuts.getD q []).getD j 0).toNat, List.mem_filter.2 ⟨List.mem_range.2 (by omega), ?_⟩, by omega⟩
      rw [List.any_eq_true]
      refine ⟨cuts.getD q [], ?_, by rw [beq_iff_eq]; omega⟩
      unfold keysAt
      rw [heq]
      exact List.mem_map.2 ⟨q, hi3, rfl⟩
  simpa [diffN] using hK
/-- each set of a lock in a design holds a cut -/
theorem lock_one {mk : MK} {t cuts : List (List Int)} (h : DesignOk mk t cuts) {d i : Nat} (hd : d < doorsOf t) (hi : i < mk.c.toNat) : 1 ≤ (((locks mk t cuts).getD d []).getD i []).length ∧ (((locks mk t cuts).getD d []).getD i []).length ≤ mk.d.toNat := by
  rw [lock_get hd hi]
  refine ⟨?_, setAt_len _ _ _⟩
  have hs := h.sys
  unfold isSystem at hs
  obtain ⟨-, hs2⟩ := Bool.and_eq_true_iff.1 hs
  obtain ⟨-, hs3⟩ := Bool.and_eq_true_iff.1 hs2
  have h1 := List.all_eq_true.1 hs3 d (List.mem_range.2 hd)
  unfold doorOpen at h1
  rw [List.any_eq_true] at h1
  obtain ⟨r, hr, hb⟩ := h1
  obtain ⟨q, hq, rfl⟩ := List.getElem_of_mem hr
  have heq := h.eq
  have hlt : q < cuts.length := by omega
  have hmem : cuts.getD q [] ∈ cuts := by
    rw [List.getD_eq_getElem?_getD, List.getElem?_eq_getElem hlt]; exact List.getElem_mem hlt
  have hk := h.key _ hmem
  have hkl := hk.len
  have hc := hk.cut i (by omega)
  have hin : (cuts.getD q []).getD i 0 ∈ setAt (keysAt t cuts d cuts.length) i mk.d.toNat := by
    unfold setAt
    refine List.mem_map.2 ⟨((cuts.getD q []).getD i 0).toNat, List.mem_filter.2 ⟨List.mem_range.2 (by omega), ?_⟩, by omega⟩
    rw [List.any_eq_true]
    refine ⟨cuts.getD q [], ?_, by rw [beq_iff_eq]; omega⟩
    unfold keysAt rowsAt
    rw [heq]
    exact List.mem_map.2 ⟨q, List.mem_filter.2 ⟨List.mem_range.2 hq, by simpa [hq] using hb⟩, rfl⟩
  exact List.length_pos_of_mem hin
theorem door_least {mk : MK} {t cuts : List (List Int)} (h : DesignOk mk t cuts) (hf : faults mk t cuts = 0) {d : Nat} (hd : d < doorsOf t) : (doorW mk t d : Int) ≤ wafersB ((locks mk t cuts).getD d []) := by
  have hm1 := h.mk1
  have hm2 := h.mk2
  have hll : ((locks mk t cuts).getD d []).length = mk.c.toNat := lock_len hd
  have h1 := diff_prod h hf hd
  have hone : ∀ i, i < ((locks mk t cuts).getD d []).length → 1 ≤ (((locks mk t cuts).getD d []).getD i []).length ∧ (((locks mk t cuts).getD d []).getD i []).length ≤ mk.d.toNat := fun i hi => lock_one h hd (by omega)
  have h2 := wafersTo_sum ((locks mk t cuts).getD d []) (fun i hi => (hone i hi).1) _ (Nat.le_refl _)
  unfold doorW
  generalize (locks mk t cuts).getD d [] = l at *
  rw [List.take_length] at h2
  have hs : ∀ x ∈ l.map List.length, 1 ≤ x ∧ x ≤ mk.d.toNat := fun x hx => by
    obtain ⟨r, hr, rfl⟩ := List.mem_map.1 hx
    obtain ⟨i, hi, rfl⟩ := List.getElem_of_mem hr
    have := hone i hi
    simpa [hi] using this
  have h3 := sizes_most (d := mk.d.toNat) (l.map List.length) hs _ rfl
  rw [List.length_map, hll] at h3
  have hW : ((l.map List.length).map fun x => x - 1).foldr (· + ·) 0 ≤ mk.c.toNat * (mk.d.toNat - 1) := by
    rw [← hll]
    clear h3 h2 h1 hll hone
    induction l with
    | nil => simp
    | cons r l ih =>
      have q1 := hs r.length (by simp)
      have q2 := ih (fun x hx => hs x (List.mem_cons_of_mem _ hx))
      simp only [List.map_cons, List.foldr_cons, List.length_cons, Nat.succ_mul]
      omega
  rw [most_prod (by omega) (by omega) (by omega) hW] at h3
  have h4 := wafN_min hW (Nat.le_trans h1 h3)
  unfold wafersB
  rw [h2]
  omega
theorem least_le {mk : MK} {t cuts : List (List Int)} (h : DesignOk mk t cuts) (hf : faults mk t cuts = 0) : ∀ k, k ≤ doorsOf t → (leastTo mk t k : Int) ≤ sumTo (locks mk t cuts) k
  | 0, _ => by simp [leastTo, sumTo]
  | k + 1, hk => by
    have h1 := least_le h hf k (by omega)
    have h2 := door_least h hf (d := k) (by omega)
    simp only [leastTo, sumTo]
    omega
/-- a design has at least the least wafers -/
theorem least_wafers {mk : MK} {t cuts : List (List Int)} (h : DesignOk mk t cuts) (hf : faults mk t cuts = 0) : (leastTo mk t (doorsOf t) : Int) ≤ sysWafers mk t cuts := least_le h hf _ (Nat.le_refl _)

open Go.ChangeShapes Go.WideShapes Go.ChangeAt Go.RowKit
set_option linter.unusedVariables false

def sysWaf (mk : MK) (t cuts : List (List Int)) : Int × Int := if designCode mk t cuts ≠ 0 then (0, designCode mk t cuts) else (sysWafers mk t cuts, 0)
theorem sysWaf_bad {mk : MK} {t cuts : List (List Int)} (h : designCode mk t cuts ≠ 0) : sysWaf mk t cuts = (0, designCode mk t cuts) := by unfold sysWaf; rw [if_pos h]
theorem sysWaf_ok {mk : MK} {t cuts : List (List Int)} (h : designCode mk t cuts = 0) : sysWaf mk t cuts = (sysWafers mk t cuts, 0) := by unfold sysWaf; rw [if_neg (by omega)]

set_option maxRecDepth 20000 in
set_option maxHeartbeats 1000000 in
theorem SystemWafers_c (w : World) (mk : MK) (v : Value) (z : Zone) (t : List (List Int)) (h : RowsR z w v t) (u : Value) (y : Zone) (cuts : List (List Int)) (hc : RowsR y w u cuts) :
    Calls Tryz.prog 17 #[sysV mk v, u] w (Ret w fun r _ => r = IntCode (sysWaf mk t cuts)) := by
  have H1 : Hid (designCode mk t cuts ≠ 0 → sysWaf mk t cuts = (0, designCode mk t cuts)) := sysWaf_bad
  have H2 : Hid (designCode mk t cuts = 0 → sysWaf mk t cuts = (sysWafers mk t cuts, 0)) := sysWaf_ok
  have HC1 := Lib.hid (fun (w' : World) (e : Ext w w') => designCode_c w' mk v z t (stable_rows.ext h e) u y cuts (stable_rows.ext hc e))
  have HC3 := Lib.hid (fun (h0 : designCode mk t cuts = 0) (w' : World) (e : Ext w w') => systemWafers_c w' mk v z t (stable_rows.ext h e) u y cuts (stable_rows.ext hc e) (designCode_zero h0).toPartOk)
  generalize hrc : designCode mk t cuts = rc at *
  generalize sysWaf mk t cuts = res at *
  generalize sysWafers mk t cuts = sw at *
  obtain ⟨a, n, cap, rfl, -⟩ := SliceR.shape h
  obtain ⟨a2, n2, cap2, rfl, -⟩ := SliceR.shape hc
  clear h hc hrc
  unfold sysV at *
  go_enter Tryz.func17, Tryz.ntmps17
  go_wp2_with fail
  generalize hw0 : World.alloc _ _ = w0
  obtain ⟨e0, S0⟩ := sys_box hw0
  clear hw0
  refine Calls.mono (HC1.out w0 e0) ?_
  rintro e w1 hr
  obtain ⟨r, rfl, rfl, e1⟩ := ret_ext hr
  clear hr HC1
  have et := e0.trans e1
  obtain ⟨c0, c1, c2, c3, c4, c5⟩ := S0.ext e1
  clear S0
  by_cases hd : rc = 0
  · have HH := Lib.hid (H2.out hd)
    have hcall := HC3.out hd w1 et
    have hb0 : (rc != 0) = false := by rw [hd]; rfl
    clear hd H1 H2 HC3
    go_wp2_with fail
    refine Calls.mono hcall ?_
    rintro e w3 hr
    obtain ⟨r, rfl, rfl, e3⟩ := ret_ext hr
    clear hr hcall c0 c1 c2 c3 c4 c5
    go_wp2_with fail
    go_ret2
    exact ⟨_, rfl, IntCode_mk HH.out, et.trans e3⟩
  · have HH := Lib.hid (H1.out hd)
    have hb0 : (rc != 0) = true := by rw [bne_iff_ne]; exact hd
    clear hd H1 H2 HC3
    go_wp2_with fail
    go_ret2
    exact ⟨_, rfl, IntCode_mk HH.out, et⟩
end Go.Proofs.YthgmojggpjnckaaGreat
