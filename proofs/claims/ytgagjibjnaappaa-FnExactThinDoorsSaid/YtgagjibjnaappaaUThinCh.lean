/- Proved: the chambers with a thin wafer, program and reference. -/
import Derived.Test.YtgagjibjnaappaaChecked
import Derived.Deep.RegionHeld3
import Derived.Deep.DeepCutAuto
import Derived.Test.YtgagjibjnaappaaUPinsOf
namespace Go.Proofs.Ytgagjibjnaappaa
open Go.ChangeShapes Go.WideShapes Go.ChangeAt Go.RowKit
set_option linter.unusedVariables false

def gapAt (set : List Int) (least : Int) (k : Nat) : Bool := decide (0 < k) && decide (set.getD k 0 - set.getD (k-1) 0 < least)
def thinSet (set : List Int) (least : Int) (n : Nat) : Bool := (List.range n).any (gapAt set least)
theorem thinSet_succ (set : List Int) (least : Int) (n : Nat) : thinSet set least (n+1) = (thinSet set least n || gapAt set least n) := by
  unfold thinSet; rw [List.range_succ, List.any_append]; simp
def thinP (l : List (List Int)) (least : Int) (i : Int) : Bool := thinSet (l.getD i.toNat []) least (l.getD i.toNat []).length
def thinList (l : List (List Int)) (least : Int) : List Int := upto (thinP l least) l.length
def thinOf (mk : MK) (l : List (List Int)) (least : Int) : List Int × Int := if inB least 1 mk.d = true then (thinList l least, 0) else ([], 2)
/-- the wafers of a stack -/
theorem gaps_thin {D : Int} {set : List Int} (h : SetOk D set) (least : Int) : allB (((stackL D set).take set.length).drop 1) least D = !thinSet set least set.length := by
  have e1 : (stackL D set).take set.length = stackTo set set.length := by
    unfold stackL; rw [List.take_append_of_le_length (by rw [stackTo_len]; exact Nat.le_refl _)]
    exact List.take_of_length_le (by rw [stackTo_len]; exact Nat.le_refl _)
  rw [e1]
  have hg : ∀ k, 0 < k → k < set.length → stackAt set k = set.getD k 0 - set.getD (k-1) 0 := fun k hk _ => by unfold stackAt; rw [if_neg (by omega)]
  cases ht : thinSet set least set.length with
  | true =>
    obtain ⟨k, hk, hk2⟩ := List.any_eq_true.1 ht
    have hk := List.mem_range.1 hk
    unfold gapAt at hk2
    obtain ⟨h1, h2⟩ := Bool.and_eq_true_iff.1 hk2
    have h1 := of_decide_eq_true h1
    have h2 := of_decide_eq_true h2
    refine allB_bad (k - 1) (by rw [List.length_drop, stackTo_len]; omega) ?_
    have e : ((stackTo set set.length).drop 1).getD (k-1) 0 = stackAt set k := by
      rw [List.getD_eq_getElem?_getD, List.getElem?_drop, show 1 + (k - 1) = k by omega]
      simp [stackTo, hk]
    rw [e, hg k h1 hk]
    unfold inB
    rw [decide_eq_false (by omega)]; rfl
  | false =>
    refine allB_good (fun j hj => ?_)
    rw [List.length_drop, stackTo_len] at hj
    have hk : j + 1 < set.length := by omega
    have e : ((stackTo set set.length).drop 1).getD j 0 = stackAt set (j+1) := by
      rw [List.getD_eq_getElem?_getD, List.getElem?_drop, show 1 + j = j + 1 by omega]
      simp [stackTo, hk]
    have hin := stackAt_in h hk
    rw [e]
    have hno : gapAt set least (j+1) = false := by
      have := (List.any_eq_false.1 ht) (j+1) (List.mem_range.2 hk)
      simpa using this
    unfold gapAt at hno
    rw [decide_eq_true (by omega), Bool.true_and] at hno
    have hno := of_decide_eq_false hno
    rw [hg (j+1) (by omega) hk] at hin ⊢
    exact inB_iff.2 (by omega)

set_option maxRecDepth 20000 in
set_option maxHeartbeats 1000000 in
theorem thinCode_c (w : World) (mk : MK) (v : Value) (z : Zone) (l : List (List Int)) (h : RowsR z w v l) (hok : LockOk mk l) (least : Int) :
    Calls Try.prog 122 #[mk.v, .agg #[v], .int .i64 least] w (Ret w fun r _ => r = .int .i64 (if inB least 1 mk.d = true then 0 else 2)) := by
  have HLC := Lib.hid (fun (w' : World) (x : Value) (zx : Zone) (g : LocksR zx w' x [l]) => locksCode_c w' mk hok.maker x zx [l] g (fun i hi => by
    have : i = 0 := by simpa using hi
    subst this; exact hok))
  have HW := Lib.hid (fun w' => within_c w' least 1 mk.d)
  obtain ⟨a, n, cap, rfl, -⟩ := SliceR.shape h
  have HX := Lib.hid (fun (w' : World) (e : Ext w w') => stable_rows.ext h e)
  generalize inB least 1 mk.d = q at *
  clear h hok
  unfold MK.v at *
  go_enter Try.func122, Try.ntmps122
  go_wp2_with fail
  generalize hwb : World.alloc (World.alloc w _) _ = wb
  have eb : Ext w wb := by rw [← hwb]; exact (Ext.alloc _ _).trans (Ext.alloc _ _)
  have hbs : wb.heap.size = w.heap.size + 1 + 1 := by rw [← hwb]; simp
  have c1 : wb.cell? ⟨w.heap.size, 1, none⟩ = some (.int .i64 mk.d) := by rw [← hwb]; clear hwb; go_simp
  clear hwb
  generalize hw0 : World.alloc _ _ = w0
  obtain ⟨e0', g0⟩ := locks_one (HX.out wb eb) hw0
  rw [hbs] at g0
  clear hw0 hbs
  replace c1 := e0'.cell c1
  have e0 := eb.trans e0'
  refine Calls.mono (HLC.out w0 _ _ g0) ?_
  rintro e w1 hr
  obtain ⟨r, rfl, rfl, e1⟩ := ret_ext hr
  clear hr g0
  replace c1 := e1.cell c1
  have hcall := HW.out w1
  go_wp2_with fail
  refine Calls.mono hcall ?_
  rintro e w2 ⟨rfl, hd⟩
  clear hcall
  cases q with
  | true =>
    go_wp2_with fail
    go_ret
    exact ⟨_, rfl, rfl, (e0.trans e1).trans (Ext.ofDrew hd)⟩
  | false =>
    go_wp2_with fail
    go_ret
    exact ⟨_, rfl, rfl, (e0.trans e1).trans (Ext.ofDrew hd)⟩

set_option maxRecDepth 20000 in
set_option maxHeartbeats 1000000 in
theorem l05Code_c (w : World) (mk : MK) (v : Value) (z : Zone) (l : List (List Int)) (h : RowsR z w v l) (hok : LockOk mk l) (least : Int) :
    Calls Try.prog 121 #[mk.v, .agg #[v], .int .i64 least] w (Ret w fun r _ => r = .int .i64 (if inB least 1 mk.d = true then 0 else 2)) := by
  have HLC := Lib.hid (fun (w' : World) (e : Ext w w') => IsLockSpec_c w' mk v z l (stable_rows.ext h e) hok)
  have HW := Lib.hid (fun w' => l01In_c w' least 1 mk.d)
  obtain ⟨a, n, cap, rfl, -⟩ := SliceR.shape h
  generalize inB least 1 mk.d = q at *
  clear h hok
  unfold MK.v at *
  go_enter Try.func121, Try.ntmps121
  go_wp2_with fail
  generalize hwb : World.alloc _ _ = wb
  have eb : Ext w wb := by rw [← hwb]; exact (Ext.alloc _ _).trans (Ext.alloc _ _)
  have c1 : wb.cell? ⟨w.heap.size, 1, none⟩ = some (.int .i64 mk.d) := by rw [← hwb]; clear hwb; go_simp
  clear hwb
  refine Calls.mono (HLC.out wb eb) ?_
  rintro e w1 hr
  obtain ⟨r, rfl, rfl, e1⟩ := ret_ext hr
  clear hr
  replace c1 := e1.cell c1
  have hcall := HW.out w1
  go_wp2_with fail
  refine Calls.mono hcall ?_
  rintro e w2 ⟨rfl, hd⟩
  clear hcall
  cases q with
  | true =>
    go_wp2_with fail
    go_ret
    exact ⟨_, rfl, rfl, (eb.trans e1).trans (Ext.ofDrew hd)⟩
  | false =>
    go_wp2_with fail
    go_ret
    exact ⟨_, rfl, rfl, (eb.trans e1).trans (Ext.ofDrew hd)⟩

set_option maxRecDepth 20000 in
set_option maxHeartbeats 1000000 in
theorem ThinChambers_c (w : World) (mk : MK) (v : Value) (z : Zone) (l : List (List Int)) (h : RowsR z w v l) (hok : LockOk mk l) (least : Int) :
    Calls Try.prog 85 #[mk.v, .agg #[v], .int .i64 least] w (Ret w (IntsCode w (thinOf mk l least))) := by
  have H1 : Hid (inB least 1 mk.d = false → thinOf mk l least = ([], 2)) := fun h => by unfold thinOf; rw [if_neg (by rw [h]; decide)]
  have H2 : Hid (inB least 1 mk.d = true → thinOf mk l least = (thinList l least, 0)) := fun h => by unfold thinOf; rw [if_pos h]
  have HC1 := Lib.hid (fun (w' : World) (e : Ext w w') => thinCode_c w' mk v z l (stable_rows.ext h e) hok least)
  have HC2 := Lib.hid (fun (w' : World) (e : Ext w w') => pinsOf_c w' mk v z l (stable_rows.ext h e) hok)
  have HG : Hid (∀ i, i < l.length → allB ((((pinsL mk.d l).getD i []).take (((pinsL mk.d l).getD i []).length - 1)).drop 1) least mk.d = !thinP l least (i : Int)) := fun i hi => by
    have e : (pinsL mk.d l).getD i [] = stackL mk.d (l.getD i []) := by unfold pinsL pinsTo; simp [hi]
    rw [e, stackL_len, Nat.add_sub_cancel]
    exact gaps_thin (hok.set hi) least
  have HPL : Hid (∀ i, i < l.length → 2 ≤ ((pinsL mk.d l).getD i []).length) := fun i hi => by
    have e : (pinsL mk.d l).getD i [] = stackL mk.d (l.getD i []) := by unfold pinsL pinsTo; simp [hi]
    rw [e, stackL_len]
    have := (hok.set hi).ne
    omega
  have HPN : Hid ((pinsL mk.d l).length = l.length) := pinsTo_len _ _ _
  have HU1 := Lib.hid (fun (k : Nat) (h : thinP l least k = true) => upto_yes h)
  have HU2 := Lib.hid (fun (k : Nat) (h : thinP l least k = false) => upto_no h)
  have HUL := Lib.hid (fun (k : Nat) => upto_length (thinP l least) k)
  have H0 : Hid (upto (thinP l least) 0 = []) := rfl
  have HE : Hid (thinList l least = upto (thinP l least) l.length) := rfl
  have hm := isMaker_iff.1 hok.maker
  have hl6 : l.length ≤ 6 := by have := hok.len; omega
  have HI64 : Hid (∀ x ∈ thinList l least, I64 x) := upto_i64 (by omega)
  generalize thinOf mk l least = res at *
  generalize pinsL mk.d l = ps at *
  generalize thinList l least = tl at *
  generalize upto (thinP l least) = uT at *
  generalize thinP l least = p at *
  obtain ⟨a, n, cap, rfl, hn, -⟩ := SliceR.shape h
  rw [← hn] at hl6
  have Hn : Hid (n = l.length) := hn
  clear hn h hok hm
  unfold MK.v at *
  go_enter Try.func85, Try.ntmps85
  go_wp2_with fail
  generalize hwb : World.alloc _ _ = wb
  have eb : Ext w wb := by rw [← hwb]; exact (Ext.alloc _ _).trans (Ext.alloc _ _)
  have c0 : wb.cell? ⟨w.heap.size, 0, none⟩ = some (.int .i64 mk.c) := by rw [← hwb]; clear hwb; go_simp
  have c1 : wb.cell? ⟨w.heap.size, 1, none⟩ = some (.int .i64 mk.d) := by rw [← hwb]; clear hwb; go_simp
  have c2 : wb.cell? ⟨w.heap.size, 2, none⟩ = some (.int .i64 mk.s) := by rw [← hwb]; clear hwb; go_simp
  have c3 : wb.cell? ⟨w.heap.size, 3, none⟩ = some (.int .i64 mk.m) := by rw [← hwb]; clear hwb; go_simp
  have c4 : wb.cell? ⟨w.heap.size, 4, none⟩ = some (.int .i64 mk.l) := by rw [← hwb]; clear hwb; go_simp
  have d0 : wb.cell? ⟨w.heap.size + 1, 0, none⟩ = some (.slice a n cap) := by rw [← hwb]; clear hwb; go_simp
  have hbs : wb.heap.size = w.heap.size + 2 := by rw [← hwb]; simp
  have Hbs := Lib.hid hbs
  clear hwb hbs
  refine Calls.mono (HC1.out wb eb) ?_
  rintro e w1 hr
  obtain ⟨r, rfl, rfl, e1⟩ := ret_ext hr
  clear hr
  have et := eb.trans e1
  replace c0 := e1.cell c0
  replace c1 := e1.cell c1
  replace c2 := e1.cell c2
  replace c3 := e1.cell c3
  replace c4 := e1.cell c4
  replace d0 := e1.cell d0
  have hlt1 : w.heap.size + 1 < w1.heap.size := by have := e1.size; have := Hbs.out; omega
  have hlt0 : w.heap.size < w1.heap.size := by omega
  cases hq : inB least 1 mk.d with
  | false =>
    have HH := Lib.hid (H1.out hq)
    have hf : (if (false : Bool) = true then (0 : Int) else 2) = 2 := rfl
    rw [hf]
    clear hq hf
    go_wp2_with fail
    go_ret2
    exact ⟨_, rfl, IntsCode_nil HH.out, et⟩
  | true =>
    have HH := Lib.hid (H2.out hq)
    have hf : (if (true : Bool) = true then (0 : Int) else 2) = 0 := rfl
    rw [hf]
    clear hq hf
    go_wp2_with fail
    generalize hwx : World.alloc _ _ = wx
    obtain ⟨ex, ox⟩ : Ext w1 wx ∧ OwnP (Value.int .i64) 2 w1.heap.size wx (.slice (some ⟨w1.heap.size, 0, none⟩) 0 0) [] := by
      subst hwx
      exact ⟨Ext.alloc _ _, OwnP.empty (Nat.le_refl _)⟩
    have HIx : Hid (wx.heap.size = w1.heap.size + 1) := by show _ = _; rw [← hwx]; simp
    clear hwx
    refine Calls.mono (HC2.out wx (et.trans ex)) ?_
    rintro e w2 hr
    obtain ⟨r, rfl, hP, e2⟩ := ret_ext hr
    clear hr HC2
    have o2 := ox.ext e2
    clear ox
    obtain ⟨pa, pn, pc, rfl, hpn, hpmax, -⟩ := SliceR.shape hP
    have Hpn : Hid (pn = l.length) := by show _ = _; rw [hpn, HPN.out]
    have hp6 : pn ≤ 6 := by have := Hpn.out; have := Hn.out; omega
    have HPk := Lib.hid hP
    clear hP hpn
    have hs2 := e2.size
    have hoff : Off (.slice (some ⟨w1.heap.size, 0, none⟩) 0 0) wx.heap.size w2.heap.size := by
      refine Off.of (fun k hk => ?_)
      have h1 : k = w1.heap.size := (Option.some.inj hk).symm
      have := HIx.out
      omega
    have c1x := (ex.trans e2).cell c1
    have c1xw := Lib.hid c1
    clear c0 c1 c2 c3 c4 d0
    go_wp2_with fail
    go_loopw [9, 10, 11, 24] (fun s9 _ _ s24 wr => ∃ k : Nat, k ≤ pn ∧ s24 = .int .i64 k ∧ OwnP (Value.int .i64) 2 w1.heap.size wr s9 (uT k) ∧ Below w1.heap.size w1 wr ∧ Same (.new wx w2) w2 wr ∧ Off s9 wx.heap.size w2.heap.size ∧ w2.heap.size ≤ wr.heap.size) (fun _ _ _ s24 _ => pn - (intOf s24).toNat)
    case atStart => exact ⟨0, Nat.zero_le _, rfl, by rw [H0.out]; exact o2, Ext.trans ex e2, Same.refl _ _, hoff, Nat.le_refl _⟩
    case round =>
      clear c1x
      obtain ⟨k, hk, rfl, own, hbw, hsm, hof, hsz⟩ := hrel
      have ew : Ext w wr := Ext.trans et hbw
      have hIx := HIx.out
      have c1 := Ext.cell hbw c1xw.out
      by_cases hlt : k < pn
      · have hkl : k < l.length := by rw [← Hpn.out]; exact hlt
        have hPr := stable_rows.keep HPk.out hsm
        obtain ⟨bl, ol, rfl, a3, n3, k3, hn3, hm3, hcap3, hcl, ⟨yl, -, hyl⟩, -⟩ := rows_at hPr hlt
        have hcl' := hcl wr (Ext.refl _)
        have hn2 := HPL.out k hkl
        have hGk := HG.out k hkl
        rw [← hn3] at hn2 hGk
        have hy0 := hyl wr (Ext.refl _)
        obtain ⟨b3, o3, rfl, -, -⟩ := ints_at hy0 (k := 0) (by omega)
        have hfr := SliceR.front hy0 (n3 - 1) (by omega)
        have hrs := SliceR.rest hfr 1 (by omega) (a := some ⟨b3, o3 + 1, none⟩) (by rw [if_neg (by omega)])
        have HAW : Hid (∀ m, Calls Try.prog 53 #[.slice (some ⟨b3, o3 + 1, none⟩) (n3 - 1 - 1) (k3 - 1), .int .i64 least, .int .i64 mk.d] (wr.drewN m) (RetQ (wr.drewN m) (.bool (!p (k : Int))))) := fun m => by
          have := allWithin_c (wr.drewN m) _ yl _ least mk.d (stable_ints.drewN hrs m)
          rwa [hGk] at this
        have HU1k := Lib.hid (HU1.out k)
        have HU2k := Lib.hid (HU2.out k)
        have hul := HUL.out k
        have hwn : IntKind.i64.wrap ((n3 : Int) - 1) = ((n3 - 1 : Nat) : Int) := by rw [IntWalk.i64_in _ (by omega)]; omega
        have hs1 : 1 ≤ n3 - 1 := by omega
        have hs2' : n3 - 1 ≤ k3 := by omega
        clear hcl hyl hy0 hfr hrs hGk hn3 hPr
        generalize hpk : p (k : Int) = q at *
        generalize hup : uT k = up at *
        have HQ := Lib.hid hpk
        clear hup hpk
        go_wp2_with fail
        go_quiet ((go_at_call 53; exact RetQ.quiet (HAW.out _)))
        have own4 := own.drewN nq
        have hb4 : Below w1.heap.size w1 (wr.drewN nq) := hbw.drewN nq
        have hm4 : Same (.new wx w2) w2 (wr.drewN nq) := hsm
        have hz4 : w2.heap.size ≤ (wr.drewN nq).heap.size := hsz
        generalize wr.drewN nq = wq at *
        clear own hbw hsm hsz
        cases q with
        | true =>
          have HV := Lib.hid (HU1k.out rfl)
          go_wp2_with (at_builtin; (refine wpList_append1X (f := Value.int .i64) (e := 2) (B := w1.heap.size) (xs := up) rfl _ _ 27 rfl 0 8 Try.underlying27 Try.infoI64 rfl (fun _ => rfl) rfl own4 (k : Int) rfl (by omega) (by omega) (by omega) ?_); intro v8 w8 hown8 hg8 hb8 hat8)
          have m9 : Same (.new wx w2) w2 w8 := Same.grown hm4 (by omega) hg8 (fun j hj => Off.not hof j hj)
          have f9 : Off v8 wx.heap.size w2.heap.size := Off.next hof (by omega) hat8
          have z9 : w2.heap.size ≤ w8.heap.size := by have := hb8.size; omega
          go_roundw
          case rel => exact ⟨k+1, by omega, by go_num, by rw [HV.out]; exact hown8, hb4.trans hb8, m9, f9, z9⟩
          case measure => simp [intOf]; omega
        | false =>
          have HV := Lib.hid (HU2k.out rfl)
          go_wp2_with fail
          go_roundw
          case rel => exact ⟨k+1, by omega, by go_num, by rw [HV.out]; exact own4, hb4, hm4, hof, hz4⟩
          case measure => simp [intOf]; omega
      · have hkn : k = l.length := by have := Hpn.out; omega
        have HR : Hid (res = (uT k, 0)) := by show _ = _; rw [HH.out, hkn, HE.out]
        have HI : Hid (∀ x ∈ uT k, I64 x) := by show ∀ x ∈ _, _; rw [hkn, ← HE.out]; exact HI64.out
        obtain ⟨oa, on, oc, rfl, -⟩ := own.shape
        go_wp2_with fail
        go_ret2
        exact ⟨_, rfl, IntsCode_own HR.out (own.lower et.size) HI.out, ew⟩
end Go.Proofs.Ytgagjibjnaappaa
