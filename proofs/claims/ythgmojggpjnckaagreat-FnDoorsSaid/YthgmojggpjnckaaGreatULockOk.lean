/- Proved: the locks of a design are locks of its maker, program and reference. -/
import Derived.Test.YthgmojggpjnckaaGreatChecked
import Derived.Deep.DeepCutAuto
import Derived.Test.YthgmojggpjnckaaGreatUPkD
import Derived.Test.YthgmojggpjnckaaGreatUPkC
import Derived.Test.YthgmojggpjnckaaGreatURisingFacts
namespace Go.Proofs.YthgmojggpjnckaaGreat
open Go.ChangeShapes Go.WideShapes Go.ChangeAt Go.RowKit
set_option linter.unusedVariables false

structure LockOk (mk : MK) (l : List (List Int)) : Prop where
  maker : isMaker mk = true
  len : (l.length : Int) = mk.c
  row : ∀ i, i < l.length → 1 ≤ (l.getD i []).length ∧ rising (l.getD i []) mk.d = true
theorem setAt_rising (keys : List (List Int)) (i D : Nat) : rising (setAt keys i D) D = true := by
  refine rising_true (fun j hj => ?_)
  unfold risingAt
  have hp := setAt_sorted keys i D
  have e : ∀ k, (hk : k < (setAt keys i D).length) → (setAt keys i D).getD k 0 = (setAt keys i D)[k] := fun k hk => by simp [hk]
  have hm := (setAt_mem.1 (List.getElem_mem hj)).1
  refine decide_eq_true ⟨by rw [e j hj]; exact hm.1, by rw [e j hj]; exact hm.2, fun h0 => ?_⟩
  rw [e j hj, e (j-1) (by omega)]
  exact List.pairwise_iff_getElem.1 hp (j-1) j (by omega) hj (by omega)
theorem design_lock {mk : MK} {t cuts : List (List Int)} (h : DesignOk mk t cuts) {d : Nat} (hd : d < doorsOf t) : LockOk mk ((locks mk t cuts).getD d []) := by
  have hl := lock_len (mk := mk) (t := t) (cuts := cuts) hd
  have h1 := h.mk1
  have h2 := h.mk2
  refine ⟨sysMaker h.sys, by rw [hl]; omega, fun i hi => ?_⟩
  rw [hl] at hi
  have e : ((locks mk t cuts).getD d []).getD i [] = setAt (keysAt t cuts d cuts.length) i mk.d.toNat := by
    unfold locks locksTo
    simp [hd, hull, hullTo, hi]
  rw [e]
  have hD : (mk.d.toNat : Int) = mk.d := by omega
  refine ⟨?_, by have := setAt_rising (keysAt t cuts d cuts.length) i mk.d.toNat; rwa [hD] at this⟩
  -- some row opens the door
  have ho : doorOpen t d = true := by
    have := h.sys
    unfold isSystem at this
    obtain ⟨-, h3⟩ := Bool.and_eq_true_iff.1 this
    obtain ⟨-, h3⟩ := Bool.and_eq_true_iff.1 h3
    exact (List.all_eq_true.1 h3) d (List.mem_range.2 hd)
  unfold doorOpen at ho
  obtain ⟨r, hr, hr1⟩ := List.any_eq_true.1 ho
  obtain ⟨k, hk, rfl⟩ := List.getElem_of_mem hr
  have hkc : k < cuts.length := by rw [h.eq]; exact hk
  have hmem : cuts[k] ∈ keysAt t cuts d cuts.length := by
    unfold keysAt rowsAt
    refine List.mem_map.2 ⟨k, List.mem_filter.2 ⟨List.mem_range.2 hkc, ?_⟩, by simp [hkc]⟩
    simpa [hk] using hr1
  have hko := h.key _ (List.getElem_mem hkc)
  have hlen := hko.len
  have hcut := hko.cut i (by omega)
  have : cuts[k].getD i 0 ∈ setAt (keysAt t cuts d cuts.length) i mk.d.toNat := setAt_mem.2 ⟨by omega, _, hmem, rfl⟩
  exact List.length_pos_of_mem this
theorem RowsR.free {z : Zone} {w : World} {v : Value} {xs : List (List Int)} (h : RowsR z w v xs) : RowsR ⟨0, w.heap.size, false⟩ w v xs := by
  obtain ⟨a, cap, rfl, h1, h2, h3, h4⟩ := h
  refine ⟨a, cap, rfl, h1, h2, h3, fun ad had hpos => ?_⟩
  obtain ⟨k1, k2, k3, k4, Z, k5, k6, k7⟩ := h4 ad had hpos
  refine ⟨k1, ⟨Nat.zero_le _, k3⟩, k3, (fun h => by cases h), fun _ => ⟨0, w.heap.size, false⟩, fun i _ => Zone.Sub.refl _, (fun h => by cases h), fun i hi => ?_⟩
  obtain ⟨u, c1, c2⟩ := k7 i hi
  exact ⟨u, c1, IntsR.free c2⟩
theorem locks_one {w w1 : World} {z : Zone} {a : Option Addr} {n c : Nat} {xs : List (List Int)} {e : TypeId} (h : RowsR z w (.slice a n c) xs) (hw : w.alloc (.cells #[.slice a n c] e) = w1) : Ext w w1 ∧ LocksR ⟨0, w1.heap.size, false⟩ w1 (.slice (some ⟨w.heap.size, 0, none⟩) 1 1) [xs] := by
  subst hw
  have := SliceR.one (e := e) stable_rows (u := (a, n, c)) (RowsR.free h) (Nat.le_refl _) (Nat.le_refl _) (Nat.zero_le _)
  refine ⟨Ext.alloc _ _, ?_⟩
  simp only [World.size_alloc]
  exact this

set_option maxRecDepth 20000 in
set_option maxHeartbeats 1000000 in
theorem isLock_c (w : World) (mk : MK) (v : Value) (z : Zone) (l : List (List Int)) (h : RowsR z w v l) (hok : LockOk mk l) :
    Calls Tryz.prog 132 #[mk.v, .agg #[v]] w (Ret w fun r _ => r = .bool true) := by
  have hm := isMaker_iff.1 hok.maker
  have HR := Lib.hid hok.row
  have HC := Lib.hid (fun (w' : World) (u : Value) (y : Zone) (xs : List Int) (g : IntsR y w' u xs) => IsRising_c w' u y xs mk.d g (by unfold I64; omega))
  obtain ⟨a, n, cap, rfl, hn, hmax, -⟩ := SliceR.shape h
  have HT := Lib.hid (fun (k : Nat) (hk : k < n) => rows_at h hk)
  have hlen := hok.len
  have hb : ((n : Int) == mk.c) = true := by rw [beq_iff_eq]; omega
  have Hn := Lib.hid hn
  clear hn h hok hlen hm
  unfold MK.v at *
  go_enter Tryz.func132, Tryz.ntmps132
  go_wp2_with fail
  generalize hw0 : World.alloc _ _ = w0
  have e0 : Ext w w0 := by rw [← hw0]; exact (Ext.alloc _ _).trans (Ext.alloc _ _)
  have c0 : w0.cell? ⟨w.heap.size, 0, none⟩ = some (.int .i64 mk.c) := by rw [← hw0]; clear hw0; go_simp
  have c1 : w0.cell? ⟨w.heap.size, 1, none⟩ = some (.int .i64 mk.d) := by rw [← hw0]; clear hw0; go_simp
  have d0 : w0.cell? ⟨w.heap.size + 1, 0, none⟩ = some (.slice a n cap) := by rw [← hw0]; clear hw0; go_simp
  clear hw0
  go_loopw [6, 10] (fun _ s10 wr => ∃ k : Nat, k ≤ n ∧ s10 = .int .i64 k ∧ Drew w0 wr) (fun _ s10 _ => n - (intOf s10).toNat)
  case atStart => exact ⟨0, Nat.zero_le _, rfl, Drew.refl _⟩
  case round =>
    obtain ⟨k, hk, rfl, hd⟩ := hrel
    have et := e0.trans (Ext.ofDrew hd)
    have c0' := (hd.cell _).trans c0
    have c1' := (hd.cell _).trans c1
    have d0' := (hd.cell _).trans d0
    by_cases hlt : k < n
    · obtain ⟨b, off, rfl, a1, n1, k1, hn1, hm1, -, hc, ⟨y, -, hy⟩, -⟩ := HT.out k hlt
      replace hc := hc wr et
      obtain ⟨r1, r2⟩ := HR.out k (by rw [← Hn.out]; exact hlt)
      have hcall := HC.out wr _ y _ (hy wr et)
      rw [r2] at hcall
      have hnz : ((n1 : Int) == 0) = false := by rw [beq_eq_false_iff_ne]; omega
      clear hy hn1 r1 r2
      go_wp2_with fail
      refine Calls.mono hcall ?_
      rintro e w2 ⟨rfl, hd2⟩
      clear hcall
      go_wp2_with fail
      go_roundw
      case rel => exact ⟨k+1, by omega, by go_num, hd.trans hd2⟩
      case measure => simp [intOf]; omega
    · go_wp2_with fail
      go_ret
      exact ⟨_, rfl, rfl, et⟩

set_option maxRecDepth 20000 in
set_option maxHeartbeats 1000000 in
theorem locksCode_c (w : World) (mk : MK) (hmk : isMaker mk = true) (v : Value) (z : Zone) (ls : List (List (List Int))) (h : LocksR z w v ls) (hok : ∀ i, i < ls.length → LockOk mk (ls.getD i [])) :
    Calls Tryz.prog 99 #[mk.v, v] w (Ret w fun r _ => r = .int .i64 0) := by
  have HM : Hid (∀ w', Calls Tryz.prog 50 #[mk.v] w' (Ret w' fun r _ => r = .bool true)) := fun w' => by have := IsMaker_c w' mk; rwa [hmk] at this
  have HI := Lib.hid (fun (w' : World) (u : Value) (y : Zone) (l : List (List Int)) (g : RowsR y w' u l) (ok : LockOk mk l) => isLock_c w' mk u y l g ok)
  obtain ⟨a, n, cap, rfl, hn, hmax, -⟩ := SliceR.shape h
  have HL := Lib.hid (fun (k : Nat) (hk : k < n) => locks_at h hk)
  have HOk : Hid (∀ i, i < n → LockOk mk (ls.getD i [])) := fun i hi => hok i (by omega)
  clear hn h hok hmk
  unfold MK.v at *
  go_enter Tryz.func99, Tryz.ntmps99
  go_wp2_with fail
  generalize hw0 : World.alloc _ _ = w0
  obtain ⟨e0, S0⟩ := mk_box hw0
  clear hw0
  have HS := Lib.hid S0
  clear S0
  refine Calls.mono (HM.out w0) ?_
  rintro e w1 hr
  obtain ⟨r, rfl, rfl, e1⟩ := ret_ext hr
  clear hr
  have et := e0.trans e1
  go_wp2_with fail
  go_loopw [6, 12] (fun _ s12 wr => ∃ k : Nat, k ≤ n ∧ s12 = .int .i64 k ∧ Ext w1 wr) (fun _ s12 _ => n - (intOf s12).toNat)
  case atStart => exact ⟨0, Nat.zero_le _, rfl, Ext.refl _⟩
  case round =>
    obtain ⟨k, hk, rfl, ew⟩ := hrel
    have etw := et.trans ew
    by_cases hlt : k < n
    · obtain ⟨bl, ol, rfl, a3, n3, k3, -, hcl, yl, -, hyl⟩ := HL.out k hlt
      have hc := hcl wr etw
      have ok := HOk.out k hlt
      go_upto_region 6 with fail
      generalize hwX : World.alloc _ _ = wX
      obtain ⟨eX, lX⟩ : Ext wr wX ∧ wX.cell? ⟨wr.heap.size, 0, none⟩ = some (.slice a3 n3 k3) := by
        subst hwX
        exact ⟨Ext.alloc _ _, by simp⟩
      clear hwX
      have hcall := HI.out wX _ _ _ (hyl wX (etw.trans eX)) ok
      obtain ⟨c0, c1, c2, c3, c4⟩ := HS.out.ext ((e1.trans ew).trans eX)
      clear hcl hyl ok
      go_wp2_with fail
      refine Calls.mono hcall ?_
      rintro e w7 hr
      obtain ⟨r, rfl, rfl, e7⟩ := ret_ext hr
      clear hr hcall
      go_wp2_with fail
      go_roundw
      case rel => exact ⟨k+1, by omega, by go_num, (ew.trans eX).trans e7⟩
      case measure => simp [intOf]; omega
    · go_wp2_with fail
      go_ret
      exact ⟨_, rfl, rfl, etw⟩

set_option maxRecDepth 20000 in
set_option maxHeartbeats 1000000 in
theorem IsLockSpec_c (w : World) (mk : MK) (v : Value) (z : Zone) (l : List (List Int)) (h : RowsR z w v l) (hok : LockOk mk l) :
    Calls Tryz.prog 157 #[mk.v, .agg #[v]] w (Ret w fun r _ => r = .bool true) := by
  have hm := isMaker_iff.1 hok.maker
  have HM : Hid (∀ w', Calls Tryz.prog 53 #[mk.v] w' (Ret w' fun r _ => r = .bool true)) := fun w' => by have := IsMakerSpec_c w' mk; rwa [hok.maker] at this
  have HR := Lib.hid hok.row
  have HC := Lib.hid (fun (w' : World) (u : Value) (y : Zone) (xs : List Int) (g : IntsR y w' u xs) => l01Rises_c w' u y xs mk.d g (by unfold I64; omega))
  obtain ⟨a, n, cap, rfl, hn, hmax, -⟩ := SliceR.shape h
  have HT := Lib.hid (fun (k : Nat) (hk : k < n) => rows_at h hk)
  have hlen := hok.len
  have hb : ((n : Int) != mk.c) = false := by rw [bne_eq_false_iff_eq]; omega
  have Hn := Lib.hid hn
  clear hn h hok hlen hm
  unfold MK.v at *
  go_enter Tryz.func157, Tryz.ntmps157
  go_wp2_with fail
  generalize hw0 : World.alloc _ _ = w0
  have e0 : Ext w w0 := by rw [← hw0]; exact (Ext.alloc _ _).trans (Ext.alloc _ _)
  have c0 : w0.cell? ⟨w.heap.size, 0, none⟩ = some (.int .i64 mk.c) := by rw [← hw0]; clear hw0; go_simp
  have c1 : w0.cell? ⟨w.heap.size, 1, none⟩ = some (.int .i64 mk.d) := by rw [← hw0]; clear hw0; go_simp
  have d0 : w0.cell? ⟨w.heap.size + 1, 0, none⟩ = some (.slice a n cap) := by rw [← hw0]; clear hw0; go_simp
  clear hw0
  refine Calls.mono (HM.out w0) ?_
  rintro e w1 hr
  obtain ⟨r, rfl, rfl, e1⟩ := ret_ext hr
  clear hr
  replace c0 := e1.cell c0
  replace c1 := e1.cell c1
  replace d0 := e1.cell d0
  have et1 := e0.trans e1
  go_wp2_with fail
  go_loopw [5] (fun s5 wr => ∃ k : Nat, k ≤ n ∧ s5 = .int .i64 k ∧ Drew w1 wr) (fun s5 _ => n - (intOf s5).toNat)
  case atStart => exact ⟨0, Nat.zero_le _, rfl, Drew.refl _⟩
  case round =>
    obtain ⟨k, hk, rfl, hd⟩ := hrel
    have et := et1.trans (Ext.ofDrew hd)
    have c0' := (hd.cell _).trans c0
    have c1' := (hd.cell _).trans c1
    have d0' := (hd.cell _).trans d0
    by_cases hlt : k < n
    · obtain ⟨b, off, rfl, a1, n1, k1, hn1, hm1, -, hc, ⟨y, -, hy⟩, -⟩ := HT.out k hlt
      replace hc := hc wr et
      obtain ⟨r1, r2⟩ := HR.out k (by rw [← Hn.out]; exact hlt)
      have hcall := fun (m : Nat) => HC.out (wr.drewN m) _ y _ (hy _ (et.trans (Ext.drewN wr m)))
      rw [r2] at hcall
      have HCa := Lib.hid hcall
      have hnz : ((n1 : Int) == 0) = false := by rw [beq_eq_false_iff_ne]; omega
      have hnz2 : (n1 == 0) = false := by rw [beq_eq_false_iff_ne]; omega
      clear hy hn1 r1 r2 hcall
      go_wp2_with fail
      go_quiet ((go_at_call 178; exact RetQ.quiet (HCa.out _)))
      go_wp2_with fail
      go_roundw
      case rel => exact ⟨k+1, by omega, by go_num, hd.drewN _⟩
      case measure => simp [intOf]; omega
    · go_wp2_with fail
      go_ret
      exact ⟨_, rfl, rfl, et⟩
end Go.Proofs.YthgmojggpjnckaaGreat
