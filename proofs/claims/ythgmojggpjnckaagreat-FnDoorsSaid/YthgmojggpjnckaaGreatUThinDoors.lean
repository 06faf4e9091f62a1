/- Proved: ThinDoors, program and reference. -/
import Derived.Test.YthgmojggpjnckaaGreatChecked
import Derived.Deep.RegionHeld3
import Derived.Deep.DeepCutAuto
import Derived.Test.YthgmojggpjnckaaGreatUPkF5
import Derived.Test.YthgmojggpjnckaaGreatUPkC
namespace Go.Proofs.YthgmojggpjnckaaGreat
open Go.ChangeShapes Go.WideShapes Go.ChangeAt Go.RowKit
set_option linter.unusedVariables false

def thinD (ls : List (List (List Int))) (least : Int) (d : Int) : Bool := decide (0 < (thinList (ls.getD d.toNat []) least).length)
def thinDoors (mk : MK) (t cuts : List (List Int)) (least : Int) : List Int × Int := if designCode mk t cuts = 0 then (if inB least 1 mk.d = true then (upto (thinD (locks mk t cuts) least) (doorsOf t), 0) else ([], 2)) else ([], designCode mk t cuts)
theorem thinDoors_bad {mk : MK} {t cuts : List (List Int)} {least : Int} (h : designCode mk t cuts ≠ 0) : thinDoors mk t cuts least = ([], designCode mk t cuts) := by unfold thinDoors; rw [if_neg h]
theorem thinDoors_range {mk : MK} {t cuts : List (List Int)} {least : Int} (h : designCode mk t cuts = 0) (h2 : inB least 1 mk.d = false) : thinDoors mk t cuts least = ([], 2) := by unfold thinDoors; rw [if_pos h, if_neg (by rw [h2]; decide)]
theorem thinDoors_ok {mk : MK} {t cuts : List (List Int)} {least : Int} (h : designCode mk t cuts = 0) (h2 : inB least 1 mk.d = true) : thinDoors mk t cuts least = (upto (thinD (locks mk t cuts) least) (doorsOf t), 0) := by unfold thinDoors; rw [if_pos h, if_pos h2]
theorem thinDoors_length (mk : MK) (t cuts : List (List Int)) (least : Int) : ((thinDoors mk t cuts least).1.length : Int) ≤ 1048576 := by
  by_cases h : designCode mk t cuts = 0
  · cases h2 : inB least 1 mk.d with
    | true =>
      rw [thinDoors_ok h h2]
      have h1 := upto_length (thinD (locks mk t cuts) least) (doorsOf t)
      have := (designCode_zero h).doors
      show ((upto _ _).length : Int) ≤ _
      omega
    | false => rw [thinDoors_range h h2]; simp
  · rw [thinDoors_bad h]; simp

set_option maxRecDepth 20000 in
set_option maxHeartbeats 1000000 in
theorem ThinDoors_c (w : World) (mk : MK) (v : Value) (z : Zone) (t : List (List Int)) (h : RowsR z w v t) (u : Value) (y : Zone) (cuts : List (List Int)) (hc : RowsR y w u cuts) (least : Int) :
    Calls Tryz.prog 36 #[sysV mk v, u, .int .i64 least] w (Ret w (IntsCode w (thinDoors mk t cuts least))) := by
  have H1 : Hid (designCode mk t cuts ≠ 0 → thinDoors mk t cuts least = ([], designCode mk t cuts)) := thinDoors_bad
  have H2 : Hid (designCode mk t cuts = 0 → inB least 1 mk.d = false → thinDoors mk t cuts least = ([], 2)) := thinDoors_range
  have H3 : Hid (designCode mk t cuts = 0 → inB least 1 mk.d = true → thinDoors mk t cuts least = (upto (thinD (locks mk t cuts) least) (doorsOf t), 0)) := thinDoors_ok
  have HOk : Hid (designCode mk t cuts = 0 → PartOk mk t cuts) := fun h => (designCode_zero h).toPartOk
  have HLO : Hid (designCode mk t cuts = 0 → ∀ d, d < doorsOf t → LockOk mk ((locks mk t cuts).getD d [])) := fun h d hd => design_lock (designCode_zero h) hd
  have HC1 := Lib.hid (fun (w' : World) (e : Ext w w') => designCode_c w' mk v z t (stable_rows.ext h e) u y cuts (stable_rows.ext hc e))
  have HC2 := Lib.hid (fun (ok : PartOk mk t cuts) (w' : World) (e : Ext w w') => partLocks_c w' mk v z t (stable_rows.ext h e) u y cuts (stable_rows.ext hc e) ok)
  have HC3 := Lib.hid (fun (w' : World) (v : Value) (z : Zone) (l : List (List Int)) (h : RowsR z w' v l) (ok : LockOk mk l) => ThinChambers_c w' mk v z l h ok least)
  have HTO1 : Hid (∀ l, inB least 1 mk.d = false → thinOf mk l least = ([], 2)) := fun l h => by unfold thinOf; rw [if_neg (by rw [h]; decide)]
  have HTO2 : Hid (∀ l, inB least 1 mk.d = true → thinOf mk l least = (thinList l least, 0)) := fun l h => by unfold thinOf; rw [if_pos h]
  have HLL := Lib.hid (locks_len mk t cuts)
  have HD : Hid (designCode mk t cuts = 0 → 1 ≤ doorsOf t ∧ doorsOf t ≤ 12) := fun h => (designCode_zero h).doors
  generalize thinDoors mk t cuts least = res at *
  generalize designCode mk t cuts = dc at *
  generalize locks mk t cuts = ls at *
  have HP : Hid (∀ d : Nat, thinD ls least (d : Int) = decide (0 < (thinList (ls.getD d []) least).length)) := fun d => rfl
  have HU1 := Lib.hid (fun (k : Nat) (h : thinD ls least k = true) => upto_yes h)
  have HU2 := Lib.hid (fun (k : Nat) (h : thinD ls least k = false) => upto_no h)
  have HUL := Lib.hid (fun (k : Nat) => upto_length (thinD ls least) k)
  have HI64 := Lib.hid (fun (k : Nat) (hk : k ≤ 9223372036854775807) => upto_i64 (p := thinD ls least) hk)
  have H0 : Hid (upto (thinD ls least) 0 = []) := rfl
  generalize upto (thinD ls least) = uT at *
  generalize thinD ls least = p at *
  generalize hq : inB least 1 mk.d = q at *
  clear hq
  obtain ⟨a, n, cap, rfl, -⟩ := SliceR.shape h
  obtain ⟨a2, n2, cap2, rfl, -⟩ := SliceR.shape hc
  clear h hc
  unfold sysV MK.v at *
  go_enter Tryz.func36, Tryz.ntmps36
  go_wp2_with fail
  generalize hw0 : World.alloc _ _ = w0
  obtain ⟨e0, S0⟩ := sys_box hw0
  clear hw0
  have HS := Lib.hid S0
  clear S0
  refine Calls.mono (HC1.out w0 e0) ?_
  rintro e w1 hr
  obtain ⟨r, rfl, rfl, e1⟩ := ret_ext hr
  clear hr
  have et := e0.trans e1
  have hs0 := HS.out.lt
  obtain ⟨c0, c1, c2, c3, c4, c5⟩ := HS.out.all e1
  have hlt0 : w.heap.size < w1.heap.size := Ext.lt e1 hs0
  by_cases hd : dc = 0
  · have hb : (dc != 0) = false := by rw [hd]; rfl
    have H2' := Lib.hid (H2.out hd)
    have H3' := Lib.hid (H3.out hd)
    have ok := HOk.out hd
    have hd12 := HD.out hd
    have HLO' := Lib.hid (HLO.out hd)
    have HC2' := Lib.hid (HC2.out ok)
    clear hd H1 H2 H3 HOk HC2 ok HD HLO
    go_wp2_with fail
    generalize hwx : World.alloc _ _ = wx
    obtain ⟨ex, ox⟩ : Ext w1 wx ∧ OwnP (Value.int .i64) 2 w1.heap.size wx (.slice (some ⟨w1.heap.size, 0, none⟩) 0 0) [] := by
      subst hwx
      exact ⟨Ext.alloc _ _, OwnP.empty (Nat.le_refl _)⟩
    have HIx : Hid (wx.heap.size = w1.heap.size + 1) := by show _ = _; rw [← hwx]; simp
    clear hwx
    refine Calls.mono (HC2'.out wx (et.trans ex)) ?_
    rintro e w2 hr
    obtain ⟨r, rfl, hL, e2⟩ := ret_ext hr
    clear hr HC2'
    have o2 := ox.ext e2
    clear ox
    obtain ⟨la, ln, lc, rfl, hln, hlmax, -⟩ := SliceR.shape hL
    have Hld : Hid (ln = doorsOf t) := by show _ = _; rw [hln, HLL.out]
    have hl12 : 1 ≤ ln ∧ ln ≤ 12 := by have := Hld.out; omega
    have HLk := Lib.hid hL
    clear hL hln hd12
    have hs2 := e2.size
    have hoff : Off (.slice (some ⟨w1.heap.size, 0, none⟩) 0 0) wx.heap.size w2.heap.size := by
      refine Off.of (fun k hk => ?_)
      have h1 : k = w1.heap.size := (Option.some.inj hk).symm
      have := HIx.out
      omega
    go_wp2_with fail
    clear c0 c1 c2 c3 c4 c5
    go_loopw [9, 10, 11, 12, 13, 25] (fun s9 _ _ _ _ s25 wr => ∃ k : Nat, k ≤ ln ∧ (q = false → k = 0) ∧ s25 = .int .i64 k ∧ OwnP (Value.int .i64) 2 w1.heap.size wr s9 (uT k) ∧ Below w1.heap.size w1 wr ∧ Same (.new wx w2) w2 wr ∧ Off s9 wx.heap.size w2.heap.size ∧ w2.heap.size ≤ wr.heap.size) (fun _ _ _ _ _ s25 _ => ln - (intOf s25).toNat)
    case atStart => exact ⟨0, Nat.zero_le _, fun _ => rfl, rfl, by rw [H0.out]; exact o2, Ext.trans ex e2, Same.refl _ _, hoff, Nat.le_refl _⟩
    case round =>
      obtain ⟨k, hk, hkq, rfl, own, hbw, hsm, hof, hsz⟩ := hrel
      have Hkq := Lib.hid hkq
      clear hkq
      have ew : Ext w wr := Ext.trans et hbw
      have hIx := HIx.out
      by_cases hlt : k < ln
      · have hLr := stable_locks.keep HLk.out hsm
        obtain ⟨bl, ol, rfl, a3, n3, k3, -, hcl, yl, -, hyl⟩ := locks_at hLr hlt
        have hcl' := hcl wr (Ext.refl _)
        have ok := HLO'.out k (by rw [← Hld.out]; exact hlt)
        have HCk := Lib.hid (fun (wX : World) (eX : Ext wr wX) => HC3.out wX _ yl _ (hyl wX eX) ok)
        have HPk := Lib.hid (HP.out k)
        have HU1k := Lib.hid (HU1.out k)
        have HU2k := Lib.hid (HU2.out k)
        have hul := HUL.out k
        have HT1k := Lib.hid (HTO1.out (ls.getD k []))
        have HT2k := Lib.hid (HTO2.out (ls.getD k []))
        clear hcl hyl hLr ok
        generalize thinOf mk (ls.getD k []) least = tw at *
        generalize thinList (ls.getD k []) least = tl at *
        generalize hup : uT k = up at *
        clear hup
        go_upto_region 8 with fail
        generalize hwX : World.alloc _ _ = wX
        obtain ⟨eX, lX⟩ : Ext wr wX ∧ wX.cell? ⟨wr.heap.size, 0, none⟩ = some (.slice a3 n3 k3) := by
          subst hwX
          exact ⟨Ext.alloc _ _, by simp⟩
        clear hwX
        have hcall := HCk.out wX eX
        have oX := own.ext eX
        have bX : Below w1.heap.size w1 wX := hbw.trans (Below.mono eX (by omega))
        have mX : Same (.new wx w2) w2 wX := hsm.below hsz eX
        have zX := eX.size
        obtain ⟨c0, c1, c2, c3, c4, c5⟩ := HS.out.all (e1.trans bX)
        clear own hbw hsm HCk
        cases q with
        | false =>
          rw [HT1k.out rfl] at hcall
          have HH := Lib.hid (H2'.out rfl)
          go_wp2_with fail
          refine Calls.mono hcall ?_
          rintro e w7 hr
          obtain ⟨r, rfl, ⟨u7, rfl, r7⟩, e7⟩ := ret_ext hr
          clear hr hcall
          obtain ⟨a7, n7, k7, rfl, -⟩ := SliceR.shape r7
          clear r7
          go_wp2_with fail
          go_ret2
          exact ⟨_, rfl, IntsCode_nil HH.out, (Ext.trans et bX).trans e7⟩
        | true =>
          rw [HT2k.out rfl] at hcall
          go_wp2_with fail
          refine Calls.mono hcall ?_
          rintro e w7 hr
          obtain ⟨r, rfl, ⟨u7, rfl, r7⟩, e7⟩ := ret_ext hr
          clear hr hcall
          obtain ⟨a7, n7, k7, rfl, hn7, hm7, -⟩ := SliceR.shape r7
          have HQ : Hid (p (k : Int) = decide (0 < n7)) := by show _ = _; rw [HPk.out, hn7]
          have o7 := oX.ext e7
          have b7 : Below w1.heap.size w1 w7 := bX.trans (Below.mono e7 (by omega))
          have m7 : Same (.new wx w2) w2 w7 := mX.below (by omega) e7
          have z7 := e7.size
          clear oX bX mX r7 hn7
          by_cases hn0 : 0 < n7
          · have HV := Lib.hid (HU1k.out (by rw [HQ.out]; exact decide_eq_true hn0))
            have hni : (0 : Int) < (n7 : Int) := by omega
            go_wp2_with (at_builtin; (refine wpList_append1X (f := Value.int .i64) (e := 2) (B := w1.heap.size) (xs := up) rfl _ _ 41 rfl 0 8 Tryz.underlying41 Tryz.infoI64 rfl (fun _ => rfl) rfl o7 (k : Int) rfl (by omega) (by omega) (by omega) ?_); intro v8 w8 hown8 hg8 hb8 hat8)
            have m9 : Same (.new wx w2) w2 w8 := Same.grown m7 (by omega) hg8 (fun j hj => Off.not hof j hj)
            have f9 : Off v8 wx.heap.size w2.heap.size := Off.next hof (by omega) hat8
            have z9 : w2.heap.size ≤ w8.heap.size := by have := hb8.size; omega
            go_roundw
            case rel => exact ⟨k+1, by omega, (fun h => by cases h), by go_num, by rw [HV.out]; exact hown8, b7.trans hb8, m9, f9, z9⟩
            case measure => simp [intOf]; omega
          · have HV := Lib.hid (HU2k.out (by rw [HQ.out]; exact decide_eq_false hn0))
            have hni : ¬ ((0 : Int) < (n7 : Int)) := by omega
            go_wp2_with fail
            go_roundw
            case rel => exact ⟨k+1, by omega, (fun h => by cases h), by go_num, by rw [HV.out]; exact o7, b7, m7, hof, by omega⟩
            case measure => simp [intOf]; omega
      · have hkd : k = doorsOf t := by have := Hld.out; omega
        have hqt : q = true := by
          cases q with
          | true => rfl
          | false => have := Hkq.out rfl; omega
        have HR : Hid (res = (uT k, 0)) := by show _ = _; rw [H3'.out hqt, hkd]
        obtain ⟨oa, on, oc, rfl, -⟩ := own.shape
        have HIi := Lib.hid (HI64.out k (by omega))
        clear hqt
        go_wp2_with fail
        go_ret2
        exact ⟨_, rfl, IntsCode_own HR.out (own.lower (by omega)) HIi.out, ew⟩
  · have hb : (dc != 0) = true := by rw [bne_iff_ne]; exact hd
    have HH := Lib.hid (H1.out hd)
    clear hd H1 H2 H3 HOk HD HLO
    go_wp2_with fail
    go_ret2
    exact ⟨_, rfl, IntsCode_nil HH.out, et⟩

set_option maxRecDepth 20000 in
set_option maxHeartbeats 1000000 in
theorem ThinDoorsSpec_c (w : World) (mk : MK) (v : Value) (z : Zone) (t : List (List Int)) (h : RowsR z w v t) (u : Value) (y : Zone) (cuts : List (List Int)) (hc : RowsR y w u cuts) (least : Int) :
    Calls Tryz.prog 37 #[sysV mk v, u, .int .i64 least] w (Ret w (IntsCode w (thinDoors mk t cuts least))) := by
  have H1 : Hid (designCode mk t cuts ≠ 0 → thinDoors mk t cuts least = ([], designCode mk t cuts)) := thinDoors_bad
  have H2 : Hid (designCode mk t cuts = 0 → inB least 1 mk.d = false → thinDoors mk t cuts least = ([], 2)) := thinDoors_range
  have H3 : Hid (designCode mk t cuts = 0 → inB least 1 mk.d = true → thinDoors mk t cuts least = (upto (thinD (locks mk t cuts) least) (doorsOf t), 0)) := thinDoors_ok
  have HOk : Hid (designCode mk t cuts = 0 → PartOk mk t cuts) := fun h => (designCode_zero h).toPartOk
  have HLO : Hid (designCode mk t cuts = 0 → ∀ d, d < doorsOf t → LockOk mk ((locks mk t cuts).getD d [])) := fun h d hd => design_lock (designCode_zero h) hd
  have HC1 := Lib.hid (fun (w' : World) (e : Ext w w') => l21Code_c w' mk v z t (stable_rows.ext h e) u y cuts (stable_rows.ext hc e))
  have HC2 := Lib.hid (fun (ok : PartOk mk t cuts) (w' : World) (e : Ext w w') => l15Locks_c w' mk v z t (stable_rows.ext h e) u y cuts (stable_rows.ext hc e) ok)
  have HC3 := Lib.hid (fun (w' : World) (v : Value) (z : Zone) (l : List (List Int)) (h : RowsR z w' v l) (ok : LockOk mk l) => ThinChambersSpec_c w' mk v z l h ok least)
  have HTO1 : Hid (∀ l, inB least 1 mk.d = false → thinOf mk l least = ([], 2)) := fun l h => by unfold thinOf; rw [if_neg (by rw [h]; decide)]
  have HTO2 : Hid (∀ l, inB least 1 mk.d = true → thinOf mk l least = (thinList l least, 0)) := fun l h => by unfold thinOf; rw [if_pos h]
  have HLL := Lib.hid (locks_len mk t cuts)
  have HD : Hid (designCode mk t cuts = 0 → 1 ≤ doorsOf t ∧ doorsOf t ≤ 12) := fun h => (designCode_zero h).doors
  generalize thinDoors mk t cuts least = res at *
  generalize designCode mk t cuts = dc at *
  generalize locks mk t cuts = ls at *
  have HP : Hid (∀ d : Nat, thinD ls least (d : Int) = decide (0 < (thinList (ls.getD d []) least).length)) := fun d => rfl
  have HU1 := Lib.hid (fun (k : Nat) (h : thinD ls least k = true) => upto_yes h)
  have HU2 := Lib.hid (fun (k : Nat) (h : thinD ls least k = false) => upto_no h)
  have HUL := Lib.hid (fun (k : Nat) => upto_length (thinD ls least) k)
  have HI64 := Lib.hid (fun (k : Nat) (hk : k ≤ 9223372036854775807) => upto_i64 (p := thinD ls least) hk)
  have H0 : Hid (upto (thinD ls least) 0 = []) := rfl
  generalize upto (thinD ls least) = uT at *
  generalize thinD ls least = p at *
  have HW := Lib.hid (fun w' => l01In_c w' least 1 mk.d)
  generalize hq : inB least 1 mk.d = q at *
  clear hq
  obtain ⟨a, n, cap, rfl, -⟩ := SliceR.shape h
  obtain ⟨a2, n2, cap2, rfl, -⟩ := SliceR.shape hc
  clear h hc
  unfold sysV MK.v at *
  go_enter Tryz.func37, Tryz.ntmps37
  go_wp2_with fail
  generalize hw0 : World.alloc _ _ = w0
  obtain ⟨e0, S0⟩ := sys_box hw0
  clear hw0
  have HS := Lib.hid S0
  clear S0
  refine Calls.mono (HC1.out w0 e0) ?_
  rintro e w1 hr
  obtain ⟨r, rfl, rfl, e1⟩ := ret_ext hr
  clear hr
  have et := e0.trans e1
  obtain ⟨c0, c1, c2, c3, c4, c5⟩ := HS.out.all e1
  by_cases hd : dc = 0
  · have hb : (dc == 0) = true := by simpa using hd
    have hb2 : (dc != 0) = false := by rw [hd]; rfl
    have H2' := Lib.hid (H2.out hd)
    have H3' := Lib.hid (H3.out hd)
    have ok := HOk.out hd
    have hd12 := HD.out hd
    have HLO' := Lib.hid (HLO.out hd)
    have HC2' := Lib.hid (HC2.out ok)
    have hcall := HW.out w1
    clear hd H1 H2 H3 HOk HC2 ok HD HLO
    go_wp2_with fail
    refine Calls.mono hcall ?_
    rintro e w2 hr
    obtain ⟨rfl, hdr, e2⟩ := retq_ext hr
    clear hr hcall c0 c1 c2 c3 c4 c5
    have et2 := et.trans e2
    obtain ⟨c0, c1, c2, c3, c4, c5⟩ := HS.out.all (e1.trans e2)
    cases q with
    | false =>
      have HH := Lib.hid (H2'.out rfl)
      go_wp2_with fail
      go_ret2
      exact ⟨_, rfl, IntsCode_nil HH.out, et2⟩
    | true =>
      have HH := Lib.hid (H3'.out rfl)
      have HT2 := Lib.hid (fun l => HTO2.out l rfl)
      have hcall := HC2'.out w2 et2
      clear H2' H3' HTO1 HTO2 HC2'
      go_wp2_with fail
      refine Calls.mono hcall ?_
      rintro e w3 hr
      obtain ⟨r, rfl, hL, e3⟩ := ret_ext hr
      clear hr hcall c0 c1 c2 c3 c4 c5
      have et3 := et2.trans e3
      obtain ⟨la, ln, lc, rfl, hln, hlmax, -⟩ := SliceR.shape hL
      have Hld : Hid (ln = doorsOf t) := by show _ = _; rw [hln, HLL.out]
      have hl12 : 1 ≤ ln ∧ ln ≤ 12 := by have := Hld.out; omega
      have HLA := Lib.hid (fun (k : Nat) (hk : k < ln) => locks_at hL hk)
      clear hL hln hd12
      go_wp2_with fail
      generalize hwx : World.alloc _ _ = wx
      obtain ⟨ex, ox⟩ : Ext w3 wx ∧ OwnP (Value.int .i64) 2 w3.heap.size wx (.slice (some ⟨w3.heap.size, 0, none⟩) 0 0) [] := by
        subst hwx
        exact ⟨Ext.alloc _ _, OwnP.empty (Nat.le_refl _)⟩
      clear hwx
      go_loopw [10, 11, 12, 13] (fun s10 s11 _ _ wr => ∃ k : Nat, k ≤ ln ∧ s11 = .int .i64 k ∧ OwnP (Value.int .i64) 2 w3.heap.size wr s10 (uT k) ∧ Ext w3 wr) (fun _ s11 _ _ _ => ln - (intOf s11).toNat)
      case atStart => exact ⟨0, Nat.zero_le _, rfl, by rw [H0.out]; exact ox, ex⟩
      case round =>
        obtain ⟨k, hk, rfl, own, ew3⟩ := hrel
        have ew := et3.trans ew3
        have hsz := ew3.size
        by_cases hlt : k < ln
        · obtain ⟨bl, ol, rfl, a3, n3, k3, -, hcl, yl, -, hyl⟩ := HLA.out k hlt
          have ok := HLO'.out k (by rw [← Hld.out]; exact hlt)
          have HCk : Hid (∀ wX, Ext wr wX → Calls Tryz.prog 92 #[.agg #[.int .i64 mk.c, .int .i64 mk.d, .int .i64 mk.s, .int .i64 mk.m, .int .i64 mk.l], .agg #[.slice a3 n3 k3], .int .i64 least] wX (Ret wX (IntsCode wX (thinList (ls.getD k []) least, 0)))) := fun wX eX => by
            have := HC3.out wX _ yl _ (hyl wX (ew3.trans eX)) ok
            rwa [HT2.out] at this
          have HK : Hid (∀ w', Ext wr w' → w'.cell? ⟨w.heap.size, 0, none⟩ = some (.int .i64 mk.c) ∧ w'.cell? ⟨w.heap.size, 1, none⟩ = some (.int .i64 mk.d) ∧ w'.cell? ⟨w.heap.size, 2, none⟩ = some (.int .i64 mk.s) ∧ w'.cell? ⟨w.heap.size, 3, none⟩ = some (.int .i64 mk.m) ∧ w'.cell? ⟨w.heap.size, 4, none⟩ = some (.int .i64 mk.l) ∧ w'.cell? ⟨bl, ol + k, none⟩ = some (.slice a3 n3 k3)) := fun w' e => by
            obtain ⟨q0, q1, q2, q3, q4, q5⟩ := HS.out.all (((e1.trans e2).trans e3).trans (ew3.trans e))
            exact ⟨q0, q1, q2, q3, q4, hcl w' (ew3.trans e)⟩
          obtain ⟨c0, c1, c2, c3, c4, hcl'⟩ := HK.out wr (Ext.refl _)
          have HPk := Lib.hid (HP.out k)
          have HU1k := Lib.hid (HU1.out k)
          have HU2k := Lib.hid (HU2.out k)
          have hul := HUL.out k
          clear hcl hyl ok
          generalize thinList (ls.getD k []) least = tl at *
          generalize hup : uT k = up at *
          clear hup
          go_wp2_with fail
          go_region_held3 (fun w' => w'.cell? ⟨w.heap.size, 0, none⟩ = some (.int .i64 mk.c) ∧ w'.cell? ⟨w.heap.size, 1, none⟩ = some (.int .i64 mk.d) ∧ w'.cell? ⟨w.heap.size, 2, none⟩ = some (.int .i64 mk.s) ∧ w'.cell? ⟨w.heap.size, 3, none⟩ = some (.int .i64 mk.m) ∧ w'.cell? ⟨w.heap.size, 4, none⟩ = some (.int .i64 mk.l) ∧ w'.cell? ⟨bl, ol + k, none⟩ = some (.slice a3 n3 k3)) (exact HK.out _ (by repeat (first | exact Ext.refl _ | assumption | (refine Ext.trans ?_ (Ext.alloc _ _)) | (refine Ext.trans ?_ (Ext.drew _)) | (refine Ext.trans ?_ (by assumption))))) (first | (go_at_call 92; (with_reducible refine (HCk.out _ (by repeat (first | exact Ext.refl _ | assumption | (refine Ext.trans ?_ (Ext.alloc _ _)) | (refine Ext.trans ?_ (Ext.drew _)) | (refine Ext.trans ?_ (by assumption))))).mono ?_); rintro e w7 hr7; obtain ⟨r7, rfl, ⟨u7, rfl, r7⟩, e7⟩ := ret_ext hr7; clear hr7; obtain ⟨a7, n7, k7, rfl, hn7, hm7, -⟩ := SliceR.shape r7; clear r7; have HN7 := Lib.hid hn7; clear hn7; have eX : Ext wr w7 := (by repeat (first | exact Ext.refl _ | assumption | (refine Ext.trans ?_ (Ext.alloc _ _)) | (refine Ext.trans ?_ (Ext.drew _)) | (refine Ext.trans ?_ (by assumption))))))
          all_goals
            have HQ : Hid (p (k : Int) = decide (0 < n7)) := by show _ = _; rw [HPk.out, HN7.out]
            have o7 := own.ext eX
            have z7 := eX.size
            clear own
            by_cases hn0 : 0 < n7
            · have HV := Lib.hid (HU1k.out (by rw [HQ.out]; exact decide_eq_true hn0))
              have hni : (0 : Int) < (n7 : Int) := by omega
              go_wp2_with (at_builtin; (refine wpList_append1 (f := Value.int .i64) (e := 2) (B := w3.heap.size) (xs := up) rfl _ _ 41 rfl 0 8 Tryz.underlying41 Tryz.infoI64 rfl (fun _ => rfl) rfl o7 (k : Int) rfl (by omega) (by omega) (by omega) ?_); intro v8 w8 hown8 hg8 hb8)
              go_roundw
              case rel => exact ⟨k+1, by omega, by go_num, by rw [HV.out]; exact hown8, Ext.to' (ew3.trans eX) hb8⟩
              case measure => simp [intOf]; omega
            · have HV := Lib.hid (HU2k.out (by rw [HQ.out]; exact decide_eq_false hn0))
              have hni : ¬ ((0 : Int) < (n7 : Int)) := by omega
              go_wp2_with fail
              go_roundw
              case rel => exact ⟨k+1, by omega, by go_num, by rw [HV.out]; exact o7, ew3.trans eX⟩
              case measure => simp [intOf]; omega
        · have hkd : k = doorsOf t := by have := Hld.out; omega
          have HR : Hid (res = (uT k, 0)) := by show _ = _; rw [HH.out, hkd]
          obtain ⟨oa, on, oc, rfl, -⟩ := own.shape
          have HIi := Lib.hid (HI64.out k (by omega))
          go_wp2_with fail
          go_ret2
          exact ⟨_, rfl, IntsCode_own HR.out (own.lower et3.size) HIi.out, ew⟩
  · have hb : (dc == 0) = false := by simpa using hd
    have hb2 : (dc != 0) = true := by rw [bne_iff_ne]; exact hd
    have HH := Lib.hid (H1.out hd)
    clear hd H1 H2 H3 HOk HD HLO
    go_wp2_with fail
    go_ret2
    exact ⟨_, rfl, IntsCode_nil HH.out, et⟩
end Go.Proofs.YthgmojggpjnckaaGreat
