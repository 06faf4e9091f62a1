/- Proved: the doors that a further key changes, program and reference. -/
import Derived.Test.YtegmognpofcfiaaGreatChecked
import Derived.Test.YtegmognpofcfiaaGreatURowCodeSpec
import Derived.Test.YtegmognpofcfiaaGreatUPkA
import Derived.Test.YtegmognpofcfiaaGreatUPkC
import Derived.Test.YtegmognpofcfiaaGreatUPkD
namespace Go.Proofs.YtegmognpofcfiaaGreat
open Go.ChangeShapes Go.WideShapes Go.ChangeAt Go.RowKit
set_option linter.unusedVariables false

def changeP (ls : List (List (List Int))) (rr key : List Int) (d : Int) : Bool := rr.getD d.toNat 0 == 1 && !opensB (ls.getD d.toNat []) key
def changedB (ls : List (List (List Int))) (rr key : List Int) (n : Nat) : List Int := upto (changeP ls rr key) n
def changedOf (mk : MK) (t cuts : List (List Int)) (rr key : List Int) : List Int × Int := if rowCode mk t cuts rr [key] = 0 then (changedB (locks mk t cuts) rr key (doorsOf t), 0) else ([], rowCode mk t cuts rr [key])
theorem changedOf_bad {mk : MK} {t cuts : List (List Int)} {rr key : List Int} (h : rowCode mk t cuts rr [key] ≠ 0) : changedOf mk t cuts rr key = ([], rowCode mk t cuts rr [key]) := by unfold changedOf; rw [if_neg h]
theorem changedOf_ok {mk : MK} {t cuts : List (List Int)} {rr key : List Int} (h : rowCode mk t cuts rr [key] = 0) : changedOf mk t cuts rr key = (changedB (locks mk t cuts) rr key (doorsOf t), 0) := by unfold changedOf; rw [if_pos h]
theorem changedOf_length (mk : MK) (t cuts : List (List Int)) (rr key : List Int) : ((changedOf mk t cuts rr key).1.length : Int) ≤ 1048576 := by
  by_cases h : rowCode mk t cuts rr [key] = 0
  · rw [changedOf_ok h]
    have h1 := upto_length (changeP (locks mk t cuts) rr key) (doorsOf t)
    have := (rowCode_zero h).doors
    show ((changedB _ _ _ _).length : Int) ≤ _
    unfold changedB
    omega
  · rw [changedOf_bad h]; simp

set_option maxRecDepth 20000 in
set_option maxHeartbeats 1000000 in
theorem changedDoors_c (w : World) (v : Value) (z : Zone) (ls : List (List (List Int))) (h : LocksR z w v ls) (u : Value) (y : Zone) (rr : List Int) (hr : IntsR y w u rr) (v3 : Value) (z3 : Zone) (key : List Int) (hk : IntsR z3 w v3 key) (hl : rr.length = ls.length) (h12 : ls.length ≤ 12) (hlk : ∀ d, d < ls.length → (ls.getD d []).length = key.length) :
    Calls Tryz.prog 105 #[v, u, v3] w (Ret w fun r w' => OwnP (Value.int .i64) 2 w.heap.size w' r (changedB ls rr key ls.length)) := by
  have HO := Lib.hid (fun (w' : World) (e : Ext w w') (v : Value) (z : Zone) (l : List (List Int)) (h : RowsR z w' v l) (hl : key.length ≤ l.length) => opens_c w' v z l h v3 z3 key (stable_ints.ext hk e) hl)
  have HP : Hid (∀ d : Nat, changeP ls rr key (d : Int) = (rr.getD d 0 == 1 && !opensB (ls.getD d []) key)) := fun d => rfl
  have HU1 := Lib.hid (fun (k : Nat) (h : changeP ls rr key k = true) => upto_yes h)
  have HU2 := Lib.hid (fun (k : Nat) (h : changeP ls rr key k = false) => upto_no h)
  have HUL := Lib.hid (fun (k : Nat) => upto_length (changeP ls rr key) k)
  have H0 : Hid (upto (changeP ls rr key) 0 = []) := rfl
  have HE : Hid (changedB ls rr key ls.length = upto (changeP ls rr key) ls.length) := rfl
  generalize changedB ls rr key ls.length = res at *
  generalize upto (changeP ls rr key) = uT at *
  generalize changeP ls rr key = p at *
  obtain ⟨a, n, cap, rfl, hn, hmax, -⟩ := SliceR.shape h
  obtain ⟨a2, n2, cap2, rfl, hn2, hmax2, -⟩ := SliceR.shape hr
  obtain ⟨a3, n3, cap3, rfl, -⟩ := SliceR.shape hk
  have HLA := Lib.hid (fun (k : Nat) (hk : k < n) => locks_at h hk)
  have HX := Lib.hid (fun (k : Nat) (hk : k < n2) => ints_at hr hk)
  have Hn : Hid (n = ls.length) := hn
  have HLK := Lib.hid hlk
  have hnn : n2 = n := by omega
  have hn12 : n ≤ 12 := by omega
  subst hnn
  clear hn hn2 h hr hk hl h12 hlk
  go_enter Tryz.func105, Tryz.ntmps105
  go_wp2_with fail
  generalize hw1 : World.alloc _ _ = w1
  obtain ⟨e1, o1⟩ : Ext w w1 ∧ OwnP (Value.int .i64) 2 w.heap.size w1 (.slice (some ⟨w.heap.size, 0, none⟩) 0 0) [] := by
    subst hw1
    exact ⟨Ext.alloc _ _, OwnP.empty (Nat.le_refl _)⟩
  clear hw1
  go_loopw [7, 8, 9, 13] (fun s7 _ _ s13 wr => ∃ k : Nat, k ≤ n2 ∧ s13 = .int .i64 k ∧ OwnP (Value.int .i64) 2 w.heap.size wr s7 (uT k) ∧ Ext w wr) (fun _ _ _ s13 _ => n2 - (intOf s13).toNat)
  case atStart => exact ⟨0, Nat.zero_le _, rfl, by rw [H0.out]; exact o1, e1⟩
  case round =>
    obtain ⟨k, hk, rfl, own, ew⟩ := hrel
    have hsz := ew.size
    by_cases hlt : k < n2
    · obtain ⟨b, off, rfl, hi, hc⟩ := HX.out k hlt
      replace hc := hc wr ew
      obtain ⟨bl, ol, rfl, b3, m3, k3, hm3, hcl, yl, -, hyl⟩ := HLA.out k hlt
      have hcl' := hcl wr ew
      have hcall := HO.out wr ew _ _ _ (hyl wr ew) (by rw [HLK.out k (by rw [← Hn.out]; exact hlt)]; exact Nat.le_refl _)
      have HPk := Lib.hid (HP.out k)
      have HU1k := Lib.hid (HU1.out k)
      have HU2k := Lib.hid (HU2.out k)
      have hul := HUL.out k
      clear hcl hyl hm3
      generalize rr.getD k 0 = x at *
      generalize opensB (ls.getD k []) key = q at *
      generalize hup : uT k = up at *
      clear hup
      by_cases hx : x = 1
      · have hxb : (x == 1) = true := by simpa using hx
        have HQ : Hid (p k = !q) := by show _ = _; rw [HPk.out, hxb, Bool.true_and]
        clear hx HPk
        go_wp2_with fail
        refine Calls.mono hcall ?_
        rintro e w7 hr
        obtain ⟨r, rfl, rfl, e7⟩ := ret_ext hr
        clear hr hcall
        have o7 := own.ext e7
        have z7 := e7.size
        clear own
        cases q with
        | true =>
          have HV := Lib.hid (HU2k.out HQ.out)
          go_wp2_with fail
          go_roundw
          case rel => exact ⟨k+1, by omega, by go_num, by rw [HV.out]; exact o7, ew.trans e7⟩
          case measure => simp [intOf]; omega
        | false =>
          have HV := Lib.hid (HU1k.out HQ.out)
          go_wp2_with (at_builtin; (refine wpList_append1 (f := Value.int .i64) (e := 2) (B := w.heap.size) (xs := up) rfl _ _ 29 rfl 0 8 Tryz.underlying29 Tryz.infoI64 rfl (fun _ => rfl) rfl o7 (k : Int) rfl (by omega) (by omega) (by omega) ?_); intro v8 w8 hown8 hg8 hb8)
          go_roundw
          case rel => exact ⟨k+1, by omega, by go_num, by rw [HV.out]; exact hown8, (ew.trans e7).to' hb8⟩
          case measure => simp [intOf]; omega
      · have hxb : (x == 1) = false := by simpa using hx
        have HQ : Hid (p k = false) := by show _ = _; rw [HPk.out, hxb, Bool.false_and]
        have HV := Lib.hid (HU2k.out HQ.out)
        clear hx HPk hcall
        go_wp2_with fail
        go_roundw
        case rel => exact ⟨k+1, by omega, by go_num, by rw [HV.out]; exact own, ew⟩
        case measure => simp [intOf]; omega
    · have HV : Hid (uT k = res) := by show _ = _; rw [HE.out, ← Hn.out]; congr 1; omega
      go_wp2_with fail
      go_ret
      exact ⟨_, rfl, by rw [← HV.out]; exact own, ew⟩

theorem changed_i64 {ls : List (List (List Int))} {rr key : List Int} {n : Nat} (h : n ≤ 12) : ∀ x ∈ changedB ls rr key n, I64 x := upto_i64 (by omega)

set_option maxRecDepth 20000 in
set_option maxHeartbeats 1000000 in
theorem ChangedDoors_c (w : World) (mk : MK) (v : Value) (z : Zone) (t : List (List Int)) (h : RowsR z w v t) (u : Value) (y : Zone) (cuts : List (List Int)) (hc : RowsR y w u cuts) (v3 : Value) (z3 : Zone) (rr : List Int) (hr : IntsR z3 w v3 rr) (v4 : Value) (z4 : Zone) (key : List Int) (hk : IntsR z4 w v4 key) :
    Calls Tryz.prog 23 #[sysV mk v, u, v3, v4] w (Ret w (IntsCode w (changedOf mk t cuts rr key))) := by
  have H1 : Hid (rowCode mk t cuts rr [key] ≠ 0 → changedOf mk t cuts rr key = ([], rowCode mk t cuts rr [key])) := changedOf_bad
  have H2 : Hid (rowCode mk t cuts rr [key] = 0 → changedOf mk t cuts rr key = (changedB (locks mk t cuts) rr key (doorsOf t), 0)) := changedOf_ok
  have HOk : Hid (rowCode mk t cuts rr [key] = 0 → RowCodeOk mk t cuts rr [key]) := rowCode_zero
  have HC1 := Lib.hid (fun (w' : World) (e : Ext w w') (x : Value) (zx : Zone) (g : RowsR zx w' x [key]) => rowCode_c w' mk v z t (stable_rows.ext h e) u y cuts (stable_rows.ext hc e) v3 z3 rr (stable_ints.ext hr e) x zx [key] g)
  have HC2 := Lib.hid (fun (ok : PartOk mk t cuts) (w' : World) (e : Ext w w') => partLocks_c w' mk v z t (stable_rows.ext h e) u y cuts (stable_rows.ext hc e) ok)
  have HC3 : Hid (RowCodeOk mk t cuts rr [key] → ∀ (w' : World) (x : Value) (zx : Zone), Ext w w' → LocksR zx w' x (locks mk t cuts) → Calls Tryz.prog 105 #[x, v3, v4] w' (Ret w' fun r w'' => OwnP (Value.int .i64) 2 w'.heap.size w'' r (changedB (locks mk t cuts) rr key (doorsOf t)))) := fun ok w' x zx e g => by
    have hl := locks_len mk t cuts
    have hkl := (ok.row_keys key (List.mem_singleton.2 rfl)).len
    have := changedDoors_c w' x zx _ g v3 z3 rr (stable_ints.ext hr e) v4 z4 key (stable_ints.ext hk e) (by rw [hl]; exact ok.row_len) (by rw [hl]; exact ok.doors.2) (fun d hd => by rw [hl] at hd; rw [lock_len hd]; omega)
    rwa [hl] at this
  have HI : Hid (∀ hok : RowCodeOk mk t cuts rr [key], ∀ x ∈ changedB (locks mk t cuts) rr key (doorsOf t), I64 x) := fun hok => changed_i64 hok.doors.2
  generalize changedOf mk t cuts rr key = res at *
  generalize rowCode mk t cuts rr [key] = rc at *
  obtain ⟨a, n, cap, rfl, -⟩ := SliceR.shape h
  obtain ⟨a2, n2, cap2, rfl, -⟩ := SliceR.shape hc
  obtain ⟨a3, n3, cap3, rfl, -⟩ := SliceR.shape hr
  obtain ⟨a4, n4, cap4, rfl, -⟩ := SliceR.shape hk
  have HKx := Lib.hid (fun (w' : World) (e : Ext w w') => stable_ints.ext hk e)
  clear h hc hr hk
  unfold sysV at *
  go_enter Tryz.func23, Tryz.ntmps23
  go_wp2_with fail
  generalize hwb : World.alloc w _ = wb
  obtain ⟨eb, Sb⟩ := sys_box hwb
  have hbs : wb.heap.size = w.heap.size + 1 := by rw [← hwb]; simp
  clear hwb
  generalize hw0 : World.alloc _ _ = w0
  obtain ⟨e0', g0⟩ := rows_one (HKx.out wb eb) hw0
  rw [hbs] at g0
  clear hw0 hbs
  have e0 := eb.trans e0'
  have HS := Lib.hid (Sb.ext e0')
  clear Sb
  refine Calls.mono (HC1.out w0 e0 _ _ g0) ?_
  rintro e w1 hr
  obtain ⟨r, rfl, rfl, e1⟩ := ret_ext hr
  clear hr
  have et := e0.trans e1
  obtain ⟨c0, c1, c2, c3, c4, c5⟩ := HS.out.all e1
  by_cases hd : rc = 0
  · have hb : (rc != 0) = false := by rw [hd]; rfl
    have ok := HOk.out hd
    have HH := Lib.hid (H2.out hd)
    have HI' := Lib.hid (HI.out ok)
    have hcall := HC2.out ok.toPartOk w1 et
    have HC3' := Lib.hid (HC3.out ok)
    clear hd H1 H2 HOk HC2 HC3 ok HI
    go_wp2_with fail
    refine Calls.mono hcall ?_
    rintro e w2 hr
    obtain ⟨r, rfl, hL, e2⟩ := ret_ext hr
    clear hr hcall
    have hcall := HC3'.out w2 _ _ (et.trans e2) hL
    obtain ⟨la, ln, lc, rfl, -⟩ := SliceR.shape hL
    clear hL
    generalize changedB (locks mk t cuts) rr key (doorsOf t) = cb at *
    go_wp2_with fail
    refine Calls.mono hcall ?_
    rintro e w3 hr
    obtain ⟨r, rfl, o3, e3⟩ := ret_ext hr
    clear hr hcall
    obtain ⟨oa, on, oc, rfl, -⟩ := o3.shape
    have et2 := et.trans e2
    have o3' := OwnP.grow (c := w3) o3 et2 (Ext.refl _)
    go_wp2_with fail
    go_ret2
    exact ⟨_, rfl, IntsCode_own HH.out o3' HI'.out, et2.trans e3⟩
  · have hb : (rc != 0) = true := by rw [bne_iff_ne]; exact hd
    have HH := Lib.hid (H1.out hd)
    clear hd H1 H2 HOk HI
    go_wp2_with fail
    go_ret2
    exact ⟨_, rfl, IntsCode_nil HH.out, et⟩

set_option maxRecDepth 20000 in
set_option maxHeartbeats 1000000 in
theorem l24Changed_c (w : World) (mk : MK) (v : Value) (z : Zone) (t : List (List Int)) (h : RowsR z w v t) (u : Value) (y : Zone) (cuts : List (List Int)) (hc : RowsR y w u cuts) (v3 : Value) (z3 : Zone) (rr : List Int) (hr : IntsR z3 w v3 rr) (v4 : Value) (z4 : Zone) (key : List Int) (hk : IntsR z4 w v4 key) (hok : PartOk mk t cuts) (hl : rr.length = doorsOf t) (hkl : (key.length : Int) = mk.c) :
    Calls Tryz.prog 107 #[sysV mk v, u, v3, v4] w (Ret w fun r w' => OwnP (Value.int .i64) 2 w.heap.size w' r (changedB (locks mk t cuts) rr key (doorsOf t))) := by
  have HL := Lib.hid (fun (w' : World) (e : Ext w w') => l15Locks_c w' mk v z t (stable_rows.ext h e) u y cuts (stable_rows.ext hc e) hok)
  have HO := Lib.hid (fun (w' : World) (e : Ext w w') (v : Value) (z : Zone) (l : List (List Int)) (h : RowsR z w' v l) (hl : key.length ≤ l.length) => l04Opens_c w' v z l h v4 z4 key (stable_ints.ext hk e) hl)
  have HP : Hid (∀ d : Nat, changeP (locks mk t cuts) rr key (d : Int) = (rr.getD d 0 == 1 && !opensB ((locks mk t cuts).getD d []) key)) := fun d => rfl
  have HU1 := Lib.hid (fun (k : Nat) (h : changeP (locks mk t cuts) rr key k = true) => upto_yes h)
  have HU2 := Lib.hid (fun (k : Nat) (h : changeP (locks mk t cuts) rr key k = false) => upto_no h)
  have HUL := Lib.hid (fun (k : Nat) => upto_length (changeP (locks mk t cuts) rr key) k)
  have H0 : Hid (upto (changeP (locks mk t cuts) rr key) 0 = []) := rfl
  have HE : Hid (changedB (locks mk t cuts) rr key (doorsOf t) = upto (changeP (locks mk t cuts) rr key) (doorsOf t)) := rfl
  have HLL := Lib.hid (locks_len mk t cuts)
  have HLC : Hid (∀ d, d < doorsOf t → ((locks mk t cuts).getD d []).length = key.length) := fun d hd => by rw [lock_len hd]; omega
  have hdo := hok.doors
  generalize changedB (locks mk t cuts) rr key (doorsOf t) = res at *
  generalize upto (changeP (locks mk t cuts) rr key) = uT at *
  generalize changeP (locks mk t cuts) rr key = p at *
  generalize locks mk t cuts = ls at *
  obtain ⟨a, n, cap, rfl, -⟩ := SliceR.shape h
  obtain ⟨a2, n2, cap2, rfl, -⟩ := SliceR.shape hc
  obtain ⟨a3, n3, cap3, rfl, hn3, -⟩ := SliceR.shape hr
  obtain ⟨a4, n4, cap4, rfl, -⟩ := SliceR.shape hk
  have HX := Lib.hid (fun (k : Nat) (hk : k < n3) => ints_at hr hk)
  have Hn3 : Hid (n3 = doorsOf t) := by show _ = _; rw [hn3, hl]
  have hn12 : n3 ≤ 12 := by have := Hn3.out; omega
  clear h hc hr hk hok hl hkl hdo hn3
  unfold sysV at *
  go_enter Tryz.func107, Tryz.ntmps107
  go_wp2_with fail
  generalize hwb : World.alloc w _ = wb
  obtain ⟨eb, Sb⟩ := sys_box hwb
  have hbs : wb.heap.size = w.heap.size + 1 := by rw [← hwb]; simp
  clear hwb
  generalize hw0 : World.alloc _ _ = w0
  obtain ⟨e0', o0⟩ : Ext wb w0 ∧ OwnP (Value.int .i64) 2 (w.heap.size + 1) w0 (.slice (some ⟨w.heap.size + 1, 0, none⟩) 0 0) [] := by
    subst hw0
    refine ⟨Ext.alloc _ _, ?_⟩
    have := OwnP.empty (f := Value.int .i64) (e := 2) (B := w.heap.size + 1) (w := wb) (by omega)
    rwa [hbs] at this
  have HI0 : Hid (w.heap.size + 1 < w0.heap.size) := (o0.block _ rfl).2
  clear hw0 hbs
  have e0 := eb.trans e0'
  have HS := Lib.hid (Sb.ext e0')
  clear Sb
  refine Calls.mono (HL.out w0 e0) ?_
  rintro e w1 hr
  obtain ⟨r, rfl, hL, e1⟩ := ret_ext hr
  clear hr HL
  have o1 := o0.ext e1
  clear o0
  obtain ⟨la, ln, lc, rfl, hln, -⟩ := SliceR.shape hL
  have hlnd : ln = n3 := by rw [hln, HLL.out, Hn3.out]
  subst hlnd
  have HLk := Lib.hid hL
  clear hL hln
  have et1 := e0.trans e1
  have hs01 := e1.size
  have hoff : Off (.slice (some ⟨w.heap.size + 1, 0, none⟩) 0 0) w0.heap.size w1.heap.size := by
    refine Off.of (fun k hk => ?_)
    have h1 : k = w.heap.size + 1 := (Option.some.inj hk).symm
    have := HI0.out
    omega
  go_wp2_with fail
  go_loopw [9, 11] (fun s9 s11 wr => ∃ k : Nat, k ≤ ln ∧ s11 = .int .i64 k ∧ OwnP (Value.int .i64) 2 (w.heap.size + 1) wr s9 (uT k) ∧ Below (w.heap.size + 1) w0 wr ∧ Same (.new w0 w1) w1 wr ∧ Off s9 w0.heap.size w1.heap.size ∧ w1.heap.size ≤ wr.heap.size) (fun _ s11 _ => ln - (intOf s11).toNat)
  case atStart => exact ⟨0, Nat.zero_le _, rfl, by rw [H0.out]; exact o1, Below.mono e1 (by have := HI0.out; omega), Same.refl _ _, hoff, Nat.le_refl _⟩
  case round =>
    obtain ⟨k, hk, rfl, own, hb, hsm, hof, hsz⟩ := hrel
    have hI0 := HI0.out
    have ew : Ext w wr := Below.trans e0 (hb.mono (by omega))
    by_cases hlt : k < ln
    · obtain ⟨b, off, rfl, hi, hc⟩ := HX.out k hlt
      replace hc := hc wr ew
      obtain ⟨bl, ol, rfl, b3, m3, k3, hm3, hcl, yl, -, hyl⟩ := locks_at (stable_locks.keep HLk.out hsm) hlt
      have hcl' := hcl wr (Ext.refl _)
      have hcall := HO.out wr ew _ _ _ (hyl wr (Ext.refl _)) (by rw [HLC.out k (by rw [← Hn3.out]; exact hlt)]; exact Nat.le_refl _)
      have HPk := Lib.hid (HP.out k)
      have HU1k := Lib.hid (HU1.out k)
      have HU2k := Lib.hid (HU2.out k)
      have hul := HUL.out k
      clear hcl hyl hm3
      generalize rr.getD k 0 = x at *
      generalize opensB (ls.getD k []) key = q at *
      generalize hup : uT k = up at *
      clear hup
      by_cases hx : x = 1
      · have hxb : (x == 1) = true := by simpa using hx
        have HQ : Hid (p k = !q) := by show _ = _; rw [HPk.out, hxb, Bool.true_and]
        clear hx HPk
        go_wp2_with fail
        refine Calls.mono hcall ?_
        rintro e w7 hr
        obtain ⟨r, rfl, rfl, e7⟩ := ret_ext hr
        clear hr hcall
        have o7 := own.ext e7
        have b7 : Below (w.heap.size + 1) w0 w7 := hb.trans (Below.mono e7 (by omega))
        have m7 : Same (.new w0 w1) w1 w7 := hsm.below hsz e7
        have z7 := e7.size
        clear own hb hsm
        cases q with
        | true =>
          have HV := Lib.hid (HU2k.out HQ.out)
          go_wp2_with fail
          go_roundw
          case rel => exact ⟨k+1, by omega, by go_num, by rw [HV.out]; exact o7, b7, m7, hof, by omega⟩
          case measure => simp [intOf]; omega
        | false =>
          have HV := Lib.hid (HU1k.out HQ.out)
          go_wp2_with (at_builtin; (refine wpList_append1X (f := Value.int .i64) (e := 2) (B := w.heap.size + 1) (xs := up) rfl _ _ 29 rfl 0 8 Tryz.underlying29 Tryz.infoI64 rfl (fun _ => rfl) rfl o7 (k : Int) rfl (by omega) (by omega) (by omega) ?_); intro v8 w8 hown8 hg8 hb8 hat8)
          have m9 : Same (.new w0 w1) w1 w8 := Same.grown m7 (by omega) hg8 (fun j hj => Off.not hof j hj)
          have f9 : Off v8 w0.heap.size w1.heap.size := Off.next hof (by omega) hat8
          have z9 : w1.heap.size ≤ w8.heap.size := by have := hb8.size; omega
          go_roundw
          case rel => exact ⟨k+1, by omega, by go_num, by rw [HV.out]; exact hown8, b7.trans hb8, m9, f9, z9⟩
          case measure => simp [intOf]; omega
      · have hxb : (x == 1) = false := by simpa using hx
        have HQ : Hid (p k = false) := by show _ = _; rw [HPk.out, hxb, Bool.false_and]
        have HV := Lib.hid (HU2k.out HQ.out)
        clear hx HPk hcall
        go_wp2_with fail
        go_roundw
        case rel => exact ⟨k+1, by omega, by go_num, by rw [HV.out]; exact own, hb, hsm, hof, hsz⟩
        case measure => simp [intOf]; omega
    · have HV : Hid (uT k = res) := by show _ = _; rw [HE.out, ← Hn3.out]; congr 1; omega
      go_wp2_with fail
      go_ret
      exact ⟨_, rfl, by rw [← HV.out]; exact own.lower (Nat.le_succ _), ew⟩

set_option maxRecDepth 20000 in
set_option maxHeartbeats 1000000 in
theorem ChangedDoorsSpec_c (w : World) (mk : MK) (v : Value) (z : Zone) (t : List (List Int)) (h : RowsR z w v t) (u : Value) (y : Zone) (cuts : List (List Int)) (hc : RowsR y w u cuts) (v3 : Value) (z3 : Zone) (rr : List Int) (hr : IntsR z3 w v3 rr) (v4 : Value) (z4 : Zone) (key : List Int) (hk : IntsR z4 w v4 key) :
    Calls Tryz.prog 24 #[sysV mk v, u, v3, v4] w (Ret w (IntsCode w (changedOf mk t cuts rr key))) := by
  have H1 : Hid (rowCode mk t cuts rr [key] ≠ 0 → changedOf mk t cuts rr key = ([], rowCode mk t cuts rr [key])) := changedOf_bad
  have H2 : Hid (rowCode mk t cuts rr [key] = 0 → changedOf mk t cuts rr key = (changedB (locks mk t cuts) rr key (doorsOf t), 0)) := changedOf_ok
  have HC1 := Lib.hid (fun (w' : World) (e : Ext w w') => l24Code_c w' mk v z t (stable_rows.ext h e) u y cuts (stable_rows.ext hc e) v3 z3 rr (stable_ints.ext hr e) v4 z4 key (stable_ints.ext hk e))
  have HC2 : Hid (rowCode mk t cuts rr [key] = 0 → ∀ (w' : World), Ext w w' → Calls Tryz.prog 107 #[sysV mk v, u, v3, v4] w' (Ret w' fun r w'' => OwnP (Value.int .i64) 2 w'.heap.size w'' r (changedB (locks mk t cuts) rr key (doorsOf t)))) := fun h0 w' e => l24Changed_c w' mk v z t (stable_rows.ext h e) u y cuts (stable_rows.ext hc e) v3 z3 rr (stable_ints.ext hr e) v4 z4 key (stable_ints.ext hk e) (rowCode_zero h0).toPartOk (rowCode_zero h0).row_len ((rowCode_zero h0).row_keys key (List.mem_singleton.2 rfl)).len
  have HI : Hid (rowCode mk t cuts rr [key] = 0 → ∀ x ∈ changedB (locks mk t cuts) rr key (doorsOf t), I64 x) := fun h0 => changed_i64 (rowCode_zero h0).doors.2
  generalize changedOf mk t cuts rr key = res at *
  generalize rowCode mk t cuts rr [key] = rc at *
  generalize changedB (locks mk t cuts) rr key (doorsOf t) = cb at *
  obtain ⟨a, n, cap, rfl, -⟩ := SliceR.shape h
  obtain ⟨a2, n2, cap2, rfl, -⟩ := SliceR.shape hc
  obtain ⟨a3, n3, cap3, rfl, -⟩ := SliceR.shape hr
  obtain ⟨a4, n4, cap4, rfl, -⟩ := SliceR.shape hk
  clear h hc hr hk
  unfold sysV at *
  go_enter Tryz.func24, Tryz.ntmps24
  go_wp2_with fail
  generalize hw0 : World.alloc _ _ = w0
  obtain ⟨e0, S0⟩ := sys_box hw0
  clear hw0
  refine Calls.mono (HC1.out w0 e0) ?_
  rintro e w1 hr
  obtain ⟨r, rfl, rfl, e1⟩ := ret_ext hr
  clear hr
  have et := e0.trans e1
  obtain ⟨c0, c1, c2, c3, c4, c5⟩ := S0.ext e1
  by_cases hd : rc = 0
  · have hb : (rc != 0) = false := by rw [hd]; rfl
    have HH := Lib.hid (H2.out hd)
    have HI' := Lib.hid (HI.out hd)
    have hcall := HC2.out hd w1 et
    clear hd H1 H2 HC2 HI S0
    go_wp2_with fail
    refine Calls.mono hcall ?_
    rintro e w3 hr
    obtain ⟨r, rfl, o3, e3⟩ := ret_ext hr
    clear hr hcall
    obtain ⟨oa, on, oc, rfl, -⟩ := o3.shape
    have o3' := OwnP.grow (c := w3) o3 et (Ext.refl _)
    go_wp2_with fail
    go_ret2
    exact ⟨_, rfl, IntsCode_own HH.out o3' HI'.out, et.trans e3⟩
  · have hb : (rc != 0) = true := by rw [bne_iff_ne]; exact hd
    have HH := Lib.hid (H1.out hd)
    clear hd H1 H2 HI S0
    go_wp2_with fail
    go_ret2
    exact ⟨_, rfl, IntsCode_nil HH.out, et⟩
end Go.Proofs.YtegmognpofcfiaaGreat
