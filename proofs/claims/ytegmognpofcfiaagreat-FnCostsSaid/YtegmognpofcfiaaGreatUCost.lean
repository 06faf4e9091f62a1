/- Proved: CostOf, program and reference. -/
import Derived.Test.YtegmognpofcfiaaGreatChecked
import Derived.Deep.RegionHeld3
import Derived.Test.YtegmognpofcfiaaGreatUWafers
namespace Go.Proofs.YtegmognpofcfiaaGreat
open Go.ChangeShapes Go.WideShapes Go.ChangeAt Go.RowKit
set_option linter.unusedVariables false

def pricesOk (ps : List Int) : Bool := decide (ps.length = 3) && allB ps 0 1000
def costV (mk : MK) (t cuts : List (List Int)) (ps : List Int) : Int := mk.c * (doorsOf t : Int) * (ps.getD 0 0 + ps.getD 2 0) + sysWafers mk t cuts * ps.getD 1 0
def costOf (mk : MK) (t cuts : List (List Int)) (ps : List Int) : Int × Int := if designCode mk t cuts = 0 then (if pricesOk ps = true then (costV mk t cuts ps, 0) else (0, 2)) else (0, designCode mk t cuts)
theorem costOf_bad {mk : MK} {t cuts : List (List Int)} {ps : List Int} (h : designCode mk t cuts ≠ 0) : costOf mk t cuts ps = (0, designCode mk t cuts) := by unfold costOf; rw [if_neg h]
theorem costOf_prices {mk : MK} {t cuts : List (List Int)} {ps : List Int} (h : designCode mk t cuts = 0) (h2 : pricesOk ps = false) : costOf mk t cuts ps = (0, 2) := by unfold costOf; rw [if_pos h, if_neg (by rw [h2]; decide)]
theorem costOf_ok {mk : MK} {t cuts : List (List Int)} {ps : List Int} (h : designCode mk t cuts = 0) (h2 : pricesOk ps = true) : costOf mk t cuts ps = (costV mk t cuts ps, 0) := by unfold costOf; rw [if_pos h, if_pos h2]
theorem mul_bound {a b A B : Int} (h1 : -A ≤ a) (h2 : a ≤ A) (h3 : 0 ≤ b) (h4 : b ≤ B) : -(A*B) ≤ a*b ∧ a*b ≤ A*B := by
  have hA : 0 ≤ A := by omega
  have q1 : a * b ≤ A * b := Int.mul_le_mul_of_nonneg_right h2 h3
  have q2 : A * b ≤ A * B := Int.mul_le_mul_of_nonneg_left h4 hA
  have q3 : -A * b ≤ a * b := Int.mul_le_mul_of_nonneg_right h1 h3
  have q4 : -A * b = -(A * b) := Int.neg_mul A b
  omega
/-- all that is reckoned is small -/
structure CostN (c m : Int) (p0 p1 p2 sw : Int) : Prop where
  cm : IntKind.i64.wrap (c * m) = c * m
  mc : IntKind.i64.wrap (m * c) = c * m
  pp : IntKind.i64.wrap (p0 + p2) = p0 + p2
  cp : IntKind.i64.wrap (c * m * (p0 + p2)) = c * m * (p0 + p2)
  sp : IntKind.i64.wrap (sw * p1) = sw * p1
  all : IntKind.i64.wrap (c * m * (p0 + p2) + sw * p1) = c * m * (p0 + p2) + sw * p1
theorem costN {c m p0 p1 p2 sw : Int} (hc : 2 ≤ c ∧ c ≤ 6) (hm : 1 ≤ m ∧ m ≤ 12) (h0 : 0 ≤ p0 ∧ p0 ≤ 1000) (h1 : 0 ≤ p1 ∧ p1 ≤ 1000) (h2 : 0 ≤ p2 ∧ p2 ≤ 1000) (hs : -72 ≤ sw ∧ sw ≤ 504) : CostN c m p0 p1 p2 sw := by
  have q1 := mul_bound (a := c) (b := m) (A := 6) (B := 12) (by omega) hc.2 (by omega) hm.2
  have q2 := mul_bound (a := c * m) (b := p0 + p2) (A := 72) (B := 2000) (by omega) (by omega) (by omega) (by omega)
  have q3 := mul_bound (a := sw) (b := p1) (A := 504) (B := 1000) (by omega) (by omega) h1.1 h1.2
  refine ⟨IntWalk.i64_in _ (by omega), ?_, IntWalk.i64_in _ (by omega), IntWalk.i64_in _ (by omega), IntWalk.i64_in _ (by omega), IntWalk.i64_in _ (by omega)⟩
  rw [Int.mul_comm m c]; exact IntWalk.i64_in _ (by omega)
theorem pricesOk_mem {ps : List Int} (h : pricesOk ps = true) : ps.length = 3 ∧ ∀ i, i < 3 → 0 ≤ ps.getD i 0 ∧ ps.getD i 0 ≤ 1000 := by
  unfold pricesOk at h
  obtain ⟨h1, h2⟩ := Bool.and_eq_true_iff.1 h
  have h1 := of_decide_eq_true h1
  refine ⟨h1, fun i hi => ?_⟩
  have hl : i < ps.length := by omega
  have := (List.all_eq_true.1 h2) _ (List.getElem_mem hl)
  have e : ps.getD i 0 = ps[i] := by simp [hl]
  rw [e]; exact inB_iff.1 this

set_option maxRecDepth 20000 in
set_option maxHeartbeats 2000000 in
theorem CostOf_c (w : World) (mk : MK) (v : Value) (z : Zone) (t : List (List Int)) (h : RowsR z w v t) (u : Value) (y : Zone) (cuts : List (List Int)) (hc : RowsR y w u cuts) (v3 : Value) (z3 : Zone) (ps : List Int) (hp : IntsR z3 w v3 ps) :
    Calls Tryz.prog 14 #[sysV mk v, u, v3] w (Ret w fun r _ => r = IntCode (costOf mk t cuts ps)) := by
  have H1 : Hid (designCode mk t cuts ≠ 0 → costOf mk t cuts ps = (0, designCode mk t cuts)) := costOf_bad
  have H2 : Hid (designCode mk t cuts = 0 → pricesOk ps = false → costOf mk t cuts ps = (0, 2)) := costOf_prices
  have H3 : Hid (designCode mk t cuts = 0 → pricesOk ps = true → costOf mk t cuts ps = (costV mk t cuts ps, 0)) := costOf_ok
  have HV : Hid (costV mk t cuts ps = mk.c * (doorsOf t : Int) * (ps.getD 0 0 + ps.getD 2 0) + sysWafers mk t cuts * ps.getD 1 0) := rfl
  have HP : Hid (pricesOk ps = true → ps.length = 3 ∧ ∀ i, i < 3 → 0 ≤ ps.getD i 0 ∧ ps.getD i 0 ≤ 1000) := pricesOk_mem
  have HQ : Hid (pricesOk ps = (decide (ps.length = 3) && allB ps 0 1000)) := rfl
  have HOk : Hid (designCode mk t cuts = 0 → PartOk mk t cuts) := fun h => (designCode_zero h).toPartOk
  have HSB : Hid (designCode mk t cuts = 0 → -72 ≤ sysWafers mk t cuts ∧ sysWafers mk t cuts ≤ 504) := fun h => sysWafers_bound (designCode_zero h).toSysOk
  have HC1 := Lib.hid (fun (w' : World) (e : Ext w w') => designCode_c w' mk v z t (stable_rows.ext h e) u y cuts (stable_rows.ext hc e))
  have HC2 := Lib.hid (fun (w' : World) (e : Ext w w') => allWithin_c w' v3 z3 ps 0 1000 (stable_ints.ext hp e))
  have HC3 := Lib.hid (fun (ok : PartOk mk t cuts) (w' : World) (e : Ext w w') => systemWafers_c w' mk v z t (stable_rows.ext h e) u y cuts (stable_rows.ext hc e) ok)
  generalize costOf mk t cuts ps = res at *
  generalize designCode mk t cuts = dc at *
  generalize costV mk t cuts ps = cv at *
  generalize sysWafers mk t cuts = sw at *
  obtain ⟨a, n, cap, rfl, hn, hmax, -⟩ := SliceR.shape h
  obtain ⟨a2, n2, cap2, rfl, -⟩ := SliceR.shape hc
  obtain ⟨a3, n3, cap3, rfl, hn3, -⟩ := SliceR.shape hp
  have HT := Lib.hid (fun (k : Nat) (hk : k < n) => rows_at h hk)
  have HX := Lib.hid (fun (k : Nat) (hk : k < n3) => ints_at hp hk)
  have Hn := Lib.hid hn
  have Hn3 := Lib.hid hn3
  clear hn hn3 h hc hp
  unfold sysV at *
  go_enter Tryz.func14, Tryz.ntmps14
  go_wp2_with fail
  generalize hw0 : World.alloc _ _ = w0
  obtain ⟨e0, S0⟩ := sys_box hw0
  clear hw0
  have HS := Lib.hid S0
  clear S0
  refine Calls.mono (HC1.out w0 e0) ?_
  rintro e w1 hr
  obtain ⟨r, rfl, rfl, e1⟩ := ret_ext hr
  clear hr
  have et := e0.trans e1
  obtain ⟨c0, c1, c2, c3, c4, c5⟩ := HS.out.all e1
  by_cases hd : dc = 0
  · have hb : (dc != 0) = false := by rw [hd]; rfl
    have ok := HOk.out hd
    have hsb := HSB.out hd
    have H2' := Lib.hid (H2.out hd)
    have H3' := Lib.hid (H3.out hd)
    have hsys := ok.toSysOk
    have HC3' := Lib.hid (HC3.out ok)
    clear HOk HSB H1 H2 H3 hd HC3
    by_cases h3 : n3 = 3
    · have hb3 : ((n3 : Int) != 3) = false := by rw [h3]; rfl
      have hcall := HC2.out w1 et
      have HQ' : Hid (pricesOk ps = allB ps 0 1000) := by show _ = _; rw [HQ.out, ← Hn3.out, decide_eq_true h3, Bool.true_and]
      clear HQ
      generalize allB ps 0 1000 = q at *
      subst h3
      go_wp2_with fail
      refine Calls.mono hcall ?_
      rintro e w2 hr
      obtain ⟨rfl, hdr, e2⟩ := retq_ext hr
      clear hr hcall
      have et2 := et.trans e2
      cases q with
      | false =>
        have HH := Lib.hid (H2'.out HQ'.out)
        go_wp2_with fail
        go_ret2
        exact ⟨_, rfl, IntCode_mk HH.out, et2⟩
      | true =>
        have HH := Lib.hid (H3'.out HQ'.out)
        have hpm := (HP.out HQ'.out).2
        obtain ⟨bp, op, rfl, -, hp0⟩ := HX.out 0 (by omega)
        obtain ⟨_, _, he, -, hp1⟩ := HX.out 1 (by omega)
        injection he with he; injection he with he1 he2 _
        subst he1; subst he2
        obtain ⟨_, _, he, -, hp2⟩ := HX.out 2 (by omega)
        injection he with he; injection he with he1 he2 _
        subst he1; subst he2
        obtain ⟨b, off, rfl, a0, m, cp, hmE, hmm, -, hcr, -⟩ := HT.out 0 (by have := hsys.len; have := Hn.out; omega)
        have hdoors := hsys.doors
        have hm0 : m = doorsOf t := hmE
        have hn0 : 0 < n := by have := hsys.len; have := Hn.out; omega
        have N := costN (c := mk.c) (m := (m : Int)) hsys.mk1 (by omega) (hpm 0 (by omega)) (hpm 1 (by omega)) (hpm 2 (by omega)) hsb
        have HVm : Hid (cv = mk.c * (m : Int) * (ps.getD 0 0 + ps.getD 2 0) + sw * ps.getD 1 0) := by show _ = _; rw [HV.out, hm0]
        clear HV HP H2' H3' hpm hm0 hmE hsys ok HX hsb hdoors
        clear c0 c1 c2 c3 c4 c5
        have HK : Hid (∀ w', Ext w2 w' → w'.cell? ⟨w.heap.size, 0, none⟩ = some (.int .i64 mk.c) ∧ w'.cell? ⟨w.heap.size, 1, none⟩ = some (.int .i64 mk.d) ∧ w'.cell? ⟨w.heap.size, 2, none⟩ = some (.int .i64 mk.s) ∧ w'.cell? ⟨w.heap.size, 3, none⟩ = some (.int .i64 mk.m) ∧ w'.cell? ⟨w.heap.size, 4, none⟩ = some (.int .i64 mk.l) ∧ w'.cell? ⟨w.heap.size, 5, none⟩ = some (.slice (some ⟨b, off, none⟩) n cap) ∧ w'.cell? ⟨bp, op, none⟩ = some (.int .i64 (ps.getD 0 0)) ∧ w'.cell? ⟨bp, op + 1, none⟩ = some (.int .i64 (ps.getD 1 0)) ∧ w'.cell? ⟨bp, op + 2, none⟩ = some (.int .i64 (ps.getD 2 0))) := fun w' e => by
          obtain ⟨q0, q1, q2, q3, q4, q5⟩ := HS.out.all ((e1.trans e2).trans e)
          exact ⟨q0, q1, q2, q3, q4, q5, (by have := hp0 w' (et2.trans e); rwa [Nat.add_zero] at this), hp1 w' (et2.trans e), hp2 w' (et2.trans e)⟩
        have hcr2 := hcr w2 et2
        rw [Nat.add_zero] at hcr2
        obtain ⟨c0, c1, c2, c3, c4, c5, d0, d1, d2⟩ := HK.out w2 (Ext.refl _)
        have HCS := Lib.hid (fun (w' : World) (e : Ext w2 w') => HC3'.out w' (et2.trans e))
        clear hp0 hp1 hp2 hcr HC3' HC2 HC1 HT
        generalize ps.getD 0 0 = p0 at *
        generalize ps.getD 1 0 = p1 at *
        generalize ps.getD 2 0 = p2 at *
        obtain ⟨n1, n2', n3', n4, n5, n6⟩ := N
        go_wp2_with fail
        go_quiet (fail)
        go_wp2_with fail
        have eq2 : Ext w2 (w2.drewN nq) := Ext.drewN _ _
        generalize w2.drewN nq = wq at *
        clear c0 c1 c2 c3 c4 c5 d0 d1 d2 hcr2
        obtain ⟨c0, c1, c2, c3, c4, c5, d0, d1, d2⟩ := HK.out wq eq2
        go_region_held3 (fun w' => w'.cell? ⟨w.heap.size, 0, none⟩ = some (.int .i64 mk.c) ∧ w'.cell? ⟨w.heap.size, 1, none⟩ = some (.int .i64 mk.d) ∧ w'.cell? ⟨w.heap.size, 2, none⟩ = some (.int .i64 mk.s) ∧ w'.cell? ⟨w.heap.size, 3, none⟩ = some (.int .i64 mk.m) ∧ w'.cell? ⟨w.heap.size, 4, none⟩ = some (.int .i64 mk.l) ∧ w'.cell? ⟨w.heap.size, 5, none⟩ = some (.slice (some ⟨b, off, none⟩) n cap) ∧ w'.cell? ⟨bp, op, none⟩ = some (.int .i64 p0) ∧ w'.cell? ⟨bp, op + 1, none⟩ = some (.int .i64 p1) ∧ w'.cell? ⟨bp, op + 2, none⟩ = some (.int .i64 p2)) (exact HK.out _ (by repeat (first | exact Ext.refl _ | assumption | (refine Ext.trans ?_ (Ext.alloc _ _)) | (refine Ext.trans ?_ (Ext.drew _)) | (refine Ext.trans ?_ (by assumption))))) (first | (go_at_call 95; (with_reducible refine (HCS.out _ (by repeat (first | exact Ext.refl _ | assumption | (refine Ext.trans ?_ (Ext.alloc _ _)) | (refine Ext.trans ?_ (Ext.drew _)) | (refine Ext.trans ?_ (by assumption))))).mono ?_); rintro e w7 hr7; obtain ⟨r7, rfl, rfl, e7⟩ := ret_ext hr7; clear hr7))
        all_goals
          go_wp2_with fail
          go_ret2
          exact ⟨_, rfl, IntCode_mk (by rw [HH.out, HVm.out]), et2.trans (by repeat (first | exact Ext.refl _ | assumption | (refine Ext.trans ?_ (Ext.alloc _ _)) | (refine Ext.trans ?_ (Ext.drew _)) | (refine Ext.trans ?_ (by assumption))))⟩
    · have hb3 : ((n3 : Int) != 3) = true := by rw [bne_iff_ne]; omega
      have HQ' : Hid (pricesOk ps = false) := by show _ = _; rw [HQ.out, ← Hn3.out, decide_eq_false h3, Bool.false_and]
      have HH := Lib.hid (H2'.out HQ'.out)
      clear h3 HP HQ HQ' H3' H2'
      go_wp2_with fail
      go_ret2
      exact ⟨_, rfl, IntCode_mk HH.out, et⟩
  · have hb : (dc != 0) = true := by rw [bne_iff_ne]; exact hd
    have HH := Lib.hid (H1.out hd)
    clear hd H1 H2 H3 HOk HSB
    go_wp2_with fail
    go_ret2
    exact ⟨_, rfl, IntCode_mk HH.out, et⟩

set_option maxHeartbeats 400000 in
theorem l23Prices_c (w : World) (v : Value) (z : Zone) (ps : List Int) (h : IntsR z w v ps) : Calls Tryz.prog 97 #[v] w (RetQ w (.bool (pricesOk ps))) := by
  have H1 : Hid (∀ i, i < ps.length → inB (ps.getD i 0) 0 1000 = false → pricesOk ps = false) := fun i hi h => by unfold pricesOk; rw [allB_bad i hi h, Bool.and_false]
  have H2 : Hid ((∀ i, i < ps.length → inB (ps.getD i 0) 0 1000 = true) → pricesOk ps = decide (ps.length = 3)) := fun h => by unfold pricesOk; rw [allB_good h, Bool.and_true]
  generalize pricesOk ps = res at *
  obtain ⟨a, n, cap, rfl, hn, hmax, -⟩ := SliceR.shape h
  have HX := Lib.hid (fun (k : Nat) (hk : k < n) => ints_at h hk)
  have Hn := Lib.hid hn
  clear hn h
  go_enter Tryz.func97, Tryz.ntmps97
  go_wp2_with fail
  go_loopw [3] (fun s3 wr => ∃ k : Nat, k ≤ n ∧ s3 = .int .i64 k ∧ (∀ i, i < k → inB (ps.getD i 0) 0 1000 = true) ∧ Drew w wr) (fun s3 _ => n - (intOf s3).toNat)
  case atStart => exact ⟨0, Nat.zero_le _, rfl, by simp, Drew.refl _⟩
  case round =>
    obtain ⟨k, hk, rfl, hall, hd⟩ := hrel
    have Hall := Lib.hid hall
    clear hall
    by_cases hlt : k < n
    · obtain ⟨b, off, rfl, hi, hc⟩ := HX.out k hlt
      replace hc := hc wr (Ext.ofDrew hd)
      have Hno : Hid (inB (ps.getD k 0) 0 1000 = false → res = false) := fun h => H1.out k (by rw [← Hn.out]; exact hlt) h
      have Hgo : Hid (inB (ps.getD k 0) 0 1000 = true → ∀ i, i < k + 1 → inB (ps.getD i 0) 0 1000 = true) := fun h j hj => by
        by_cases e : j = k
        · rw [e]; exact h
        · exact Hall.out j (by omega)
      generalize ps.getD k 0 = x at *
      have hcall := l01In_c wr x 0 1000
      generalize inB x 0 1000 = q at *
      cases q with
      | true =>
        have HH := Lib.hid (Hgo.out rfl)
        go_wp2_with fail
        refine Calls.mono hcall ?_
        rintro e w2 ⟨rfl, hd2⟩
        clear hcall
        go_wp2_with fail
        go_roundw
        case rel => exact ⟨k+1, by omega, by go_num, HH.out, hd.trans hd2⟩
        case measure => simp [intOf]; omega
      | false =>
        have HH := Lib.hid (Hno.out rfl)
        go_wp2_with fail
        refine Calls.mono hcall ?_
        rintro e w2 ⟨rfl, hd2⟩
        clear hcall
        go_wp2_with fail
        go_ret
        exact ⟨ret_bool' HH.out, hd.trans hd2⟩
    · have HH : Hid (res = ((n : Int) == 3)) := by
        show _ = _
        rw [H2.out (fun i hi => Hall.out i (by have := Hn.out; omega)), ← Hn.out]
        by_cases e : n = 3
        · subst e; rfl
        · rw [decide_eq_false e]; symm; rw [beq_eq_false_iff_ne]; omega
      go_wp2_with fail
      go_ret
      exact ⟨ret_bool' HH.out, hd⟩

set_option maxRecDepth 20000 in
set_option maxHeartbeats 2000000 in
theorem CostOfSpec_c (w : World) (mk : MK) (v : Value) (z : Zone) (t : List (List Int)) (h : RowsR z w v t) (u : Value) (y : Zone) (cuts : List (List Int)) (hc : RowsR y w u cuts) (v3 : Value) (z3 : Zone) (ps : List Int) (hp : IntsR z3 w v3 ps) :
    Calls Tryz.prog 15 #[sysV mk v, u, v3] w (Ret w fun r _ => r = IntCode (costOf mk t cuts ps)) := by
  have H1 : Hid (designCode mk t cuts ≠ 0 → costOf mk t cuts ps = (0, designCode mk t cuts)) := costOf_bad
  have H2 : Hid (designCode mk t cuts = 0 → pricesOk ps = false → costOf mk t cuts ps = (0, 2)) := costOf_prices
  have H3 : Hid (designCode mk t cuts = 0 → pricesOk ps = true → costOf mk t cuts ps = (costV mk t cuts ps, 0)) := costOf_ok
  have HV : Hid (costV mk t cuts ps = mk.c * (doorsOf t : Int) * (ps.getD 0 0 + ps.getD 2 0) + sysWafers mk t cuts * ps.getD 1 0) := rfl
  have HP : Hid (pricesOk ps = true → ps.length = 3 ∧ ∀ i, i < 3 → 0 ≤ ps.getD i 0 ∧ ps.getD i 0 ≤ 1000) := pricesOk_mem
  have HQ : Hid (pricesOk ps = (decide (ps.length = 3) && allB ps 0 1000)) := rfl
  have HOk : Hid (designCode mk t cuts = 0 → PartOk mk t cuts) := fun h => (designCode_zero h).toPartOk
  have HSB : Hid (designCode mk t cuts = 0 → -72 ≤ sysWafers mk t cuts ∧ sysWafers mk t cuts ≤ 504) := fun h => sysWafers_bound (designCode_zero h).toSysOk
  have HC1 := Lib.hid (fun (w' : World) (e : Ext w w') => l21Code_c w' mk v z t (stable_rows.ext h e) u y cuts (stable_rows.ext hc e))
  have HC2 := Lib.hid (fun (w' : World) (e : Ext w w') => l23Prices_c w' v3 z3 ps (stable_ints.ext hp e))
  have HC3 := Lib.hid (fun (ok : PartOk mk t cuts) (w' : World) (e : Ext w w') => l23Wafers_c w' mk v z t (stable_rows.ext h e) u y cuts (stable_rows.ext hc e) ok)
  generalize costOf mk t cuts ps = res at *
  generalize designCode mk t cuts = dc at *
  generalize costV mk t cuts ps = cv at *
  generalize sysWafers mk t cuts = sw at *
  obtain ⟨a, n, cap, rfl, hn, hmax, -⟩ := SliceR.shape h
  obtain ⟨a2, n2, cap2, rfl, -⟩ := SliceR.shape hc
  obtain ⟨a3, n3, cap3, rfl, hn3, -⟩ := SliceR.shape hp
  have HT := Lib.hid (fun (k : Nat) (hk : k < n) => rows_at h hk)
  have HX := Lib.hid (fun (k : Nat) (hk : k < n3) => ints_at hp hk)
  have Hn := Lib.hid hn
  have Hn3 := Lib.hid hn3
  clear hn hn3 h hc hp
  unfold sysV at *
  go_enter Tryz.func15, Tryz.ntmps15
  go_wp2_with fail
  generalize hw0 : World.alloc _ _ = w0
  obtain ⟨e0, S0⟩ := sys_box hw0
  clear hw0
  have HS := Lib.hid S0
  clear S0
  refine Calls.mono (HC1.out w0 e0) ?_
  rintro e w1 hr
  obtain ⟨r, rfl, rfl, e1⟩ := ret_ext hr
  clear hr
  have et := e0.trans e1
  obtain ⟨c0, c1, c2, c3, c4, c5⟩ := HS.out.all e1
  by_cases hd : dc = 0
  · have hb : (dc != 0) = false := by rw [hd]; rfl
    have ok := HOk.out hd
    have hsb := HSB.out hd
    have H2' := Lib.hid (H2.out hd)
    have H3' := Lib.hid (H3.out hd)
    have hsys := ok.toSysOk
    have HC3' := Lib.hid (HC3.out ok)
    clear HOk HSB H1 H2 H3 hd HC3
    have hcall := HC2.out w1 et
    have HQ' : Hid (pricesOk ps = pricesOk ps) := rfl
    have Hgen : Hid (pricesOk ps = true → n3 = 3) := fun h => by rw [Hn3.out]; exact (HP.out h).1
    clear HQ
    generalize pricesOk ps = q at *
    · have hbz : (dc == 0) = true := by simpa using hb
      go_wp2_with fail
      refine Calls.mono hcall ?_
      rintro e w2 hr
      obtain ⟨rfl, hdr, e2⟩ := retq_ext hr
      clear hr hcall
      have et2 := et.trans e2
      cases q with
      | false =>
        have HH := Lib.hid (H2'.out rfl)
        go_wp2_with fail
        go_ret2
        exact ⟨_, rfl, IntCode_mk HH.out, et2⟩
      | true =>
        have h33 := Hgen.out rfl
        subst h33
        have HH := Lib.hid (H3'.out rfl)
        have hpm := (HP.out rfl).2
        obtain ⟨bp, op, rfl, -, hp0⟩ := HX.out 0 (by omega)
        obtain ⟨_, _, he, -, hp1⟩ := HX.out 1 (by omega)
        injection he with he; injection he with he1 he2 _
        subst he1; subst he2
        obtain ⟨_, _, he, -, hp2⟩ := HX.out 2 (by omega)
        injection he with he; injection he with he1 he2 _
        subst he1; subst he2
        obtain ⟨b, off, rfl, a0, m, cp, hmE, hmm, -, hcr, -⟩ := HT.out 0 (by have := hsys.len; have := Hn.out; omega)
        have hdoors := hsys.doors
        have hm0 : m = doorsOf t := hmE
        have hn0 : 0 < n := by have := hsys.len; have := Hn.out; omega
        have N := costN (c := mk.c) (m := (m : Int)) hsys.mk1 (by omega) (hpm 0 (by omega)) (hpm 1 (by omega)) (hpm 2 (by omega)) hsb
        have HVm : Hid (cv = mk.c * (m : Int) * (ps.getD 0 0 + ps.getD 2 0) + sw * ps.getD 1 0) := by show _ = _; rw [HV.out, hm0]
        clear HV HP H2' H3' hpm hm0 hmE hsys ok HX hsb hdoors
        clear c0 c1 c2 c3 c4 c5
        have HK : Hid (∀ w', Ext w2 w' → w'.cell? ⟨w.heap.size, 0, none⟩ = some (.int .i64 mk.c) ∧ w'.cell? ⟨w.heap.size, 1, none⟩ = some (.int .i64 mk.d) ∧ w'.cell? ⟨w.heap.size, 2, none⟩ = some (.int .i64 mk.s) ∧ w'.cell? ⟨w.heap.size, 3, none⟩ = some (.int .i64 mk.m) ∧ w'.cell? ⟨w.heap.size, 4, none⟩ = some (.int .i64 mk.l) ∧ w'.cell? ⟨w.heap.size, 5, none⟩ = some (.slice (some ⟨b, off, none⟩) n cap) ∧ w'.cell? ⟨bp, op, none⟩ = some (.int .i64 (ps.getD 0 0)) ∧ w'.cell? ⟨bp, op + 1, none⟩ = some (.int .i64 (ps.getD 1 0)) ∧ w'.cell? ⟨bp, op + 2, none⟩ = some (.int .i64 (ps.getD 2 0))) := fun w' e => by
          obtain ⟨q0, q1, q2, q3, q4, q5⟩ := HS.out.all ((e1.trans e2).trans e)
          exact ⟨q0, q1, q2, q3, q4, q5, (by have := hp0 w' (et2.trans e); rwa [Nat.add_zero] at this), hp1 w' (et2.trans e), hp2 w' (et2.trans e)⟩
        have hcr2 := hcr w2 et2
        rw [Nat.add_zero] at hcr2
        obtain ⟨c0, c1, c2, c3, c4, c5, d0, d1, d2⟩ := HK.out w2 (Ext.refl _)
        have HCS := Lib.hid (fun (w' : World) (e : Ext w2 w') => HC3'.out w' (et2.trans e))
        clear hp0 hp1 hp2 hcr HC3' HC2 HC1 HT
        generalize ps.getD 0 0 = p0 at *
        generalize ps.getD 1 0 = p1 at *
        generalize ps.getD 2 0 = p2 at *
        obtain ⟨n1, n2', n3', n4, n5, n6⟩ := N
        go_wp2_with fail
        go_quiet (fail)
        go_wp2_with fail
        have eq2 : Ext w2 (w2.drewN nq) := Ext.drewN _ _
        generalize w2.drewN nq = wq at *
        clear c0 c1 c2 c3 c4 c5 d0 d1 d2 hcr2
        obtain ⟨c0, c1, c2, c3, c4, c5, d0, d1, d2⟩ := HK.out wq eq2
        go_region_held3 (fun w' => w'.cell? ⟨w.heap.size, 0, none⟩ = some (.int .i64 mk.c) ∧ w'.cell? ⟨w.heap.size, 1, none⟩ = some (.int .i64 mk.d) ∧ w'.cell? ⟨w.heap.size, 2, none⟩ = some (.int .i64 mk.s) ∧ w'.cell? ⟨w.heap.size, 3, none⟩ = some (.int .i64 mk.m) ∧ w'.cell? ⟨w.heap.size, 4, none⟩ = some (.int .i64 mk.l) ∧ w'.cell? ⟨w.heap.size, 5, none⟩ = some (.slice (some ⟨b, off, none⟩) n cap) ∧ w'.cell? ⟨bp, op, none⟩ = some (.int .i64 p0) ∧ w'.cell? ⟨bp, op + 1, none⟩ = some (.int .i64 p1) ∧ w'.cell? ⟨bp, op + 2, none⟩ = some (.int .i64 p2)) (exact HK.out _ (by repeat (first | exact Ext.refl _ | assumption | (refine Ext.trans ?_ (Ext.alloc _ _)) | (refine Ext.trans ?_ (Ext.drew _)) | (refine Ext.trans ?_ (by assumption))))) (first | (go_at_call 98; (with_reducible refine (HCS.out _ (by repeat (first | exact Ext.refl _ | assumption | (refine Ext.trans ?_ (Ext.alloc _ _)) | (refine Ext.trans ?_ (Ext.drew _)) | (refine Ext.trans ?_ (by assumption))))).mono ?_); rintro e w7 hr7; obtain ⟨r7, rfl, rfl, e7⟩ := ret_ext hr7; clear hr7))
        all_goals
          go_wp2_with fail
          go_ret2
          exact ⟨_, rfl, IntCode_mk (by rw [HH.out, HVm.out]), et2.trans (by repeat (first | exact Ext.refl _ | assumption | (refine Ext.trans ?_ (Ext.alloc _ _)) | (refine Ext.trans ?_ (Ext.drew _)) | (refine Ext.trans ?_ (by assumption))))⟩
  · have hb : (dc != 0) = true := by rw [bne_iff_ne]; exact hd
    have hbz : (dc == 0) = false := by rw [beq_eq_false_iff_ne]; exact hd
    have HH := Lib.hid (H1.out hd)
    clear hd H1 H2 H3 HOk HSB
    go_wp2_with fail
    go_ret2
    exact ⟨_, rfl, IntCode_mk HH.out, et⟩
end Go.Proofs.YtegmognpofcfiaaGreat
