/- Proved: the code of a system, a design, a further row and a key, as the reference tells it. -/
import Derived.Test.YtegmognpofcfiaaGreatChecked
import Derived.Test.YtegmognpofcfiaaGreatURowCode
namespace Go.Proofs.YtegmognpofcfiaaGreat
open Go.ChangeShapes Go.WideShapes Go.ChangeAt Go.RowKit
set_option linter.unusedVariables false

set_option maxHeartbeats 400000 in
theorem l24Entries_c (w : World) (v : Value) (z : Zone) (ps : List Int) (m : Nat) (h : IntsR z w v ps) : Calls Tryz.prog 120 #[v, .int .i64 m] w (RetQ w (.bool (decide (ps.length = m) && allB ps 0 1))) := by
  have H1 : Hid (∀ i, i < ps.length → inB (ps.getD i 0) 0 1 = false → (decide (ps.length = m) && allB ps 0 1) = false) := fun i hi h => by rw [allB_bad i hi h, Bool.and_false]
  have H2 : Hid ((∀ i, i < ps.length → inB (ps.getD i 0) 0 1 = true) → (decide (ps.length = m) && allB ps 0 1) = decide (ps.length = m)) := fun h => by rw [allB_good h, Bool.and_true]
  generalize (decide (ps.length = m) && allB ps 0 1) = res at *
  obtain ⟨a, n, cap, rfl, hn, hmax, -⟩ := SliceR.shape h
  have HX := Lib.hid (fun (k : Nat) (hk : k < n) => ints_at h hk)
  have Hn := Lib.hid hn
  clear hn h
  go_enter Tryz.func120, Tryz.ntmps120
  go_wp2_with fail
  go_loopw [5] (fun s5 wr => ∃ k : Nat, k ≤ n ∧ s5 = .int .i64 k ∧ (∀ i, i < k → inB (ps.getD i 0) 0 1 = true) ∧ Drew w wr) (fun s5 _ => n - (intOf s5).toNat)
  case atStart => exact ⟨0, Nat.zero_le _, rfl, by simp, Drew.refl _⟩
  case round =>
    obtain ⟨k, hk, rfl, hall, hd⟩ := hrel
    have Hall := Lib.hid hall
    clear hall
    by_cases hlt : k < n
    · obtain ⟨b, off, rfl, hi, hc⟩ := HX.out k hlt
      replace hc := hc wr (Ext.ofDrew hd)
      have Hno : Hid (inB (ps.getD k 0) 0 1 = false → res = false) := fun h => H1.out k (by rw [← Hn.out]; exact hlt) h
      have Hgo : Hid (inB (ps.getD k 0) 0 1 = true → ∀ i, i < k + 1 → inB (ps.getD i 0) 0 1 = true) := fun h j hj => by
        by_cases e : j = k
        · rw [e]; exact h
        · exact Hall.out j (by omega)
      generalize ps.getD k 0 = x at *
      have hcall := l01In_c wr x 0 1
      generalize inB x 0 1 = q at *
      cases q with
      | true =>
        have HH := Lib.hid (Hgo.out rfl)
        go_wp2_with fail
        refine Calls.mono hcall ?_
        rintro e w2 ⟨rfl, hd2⟩
        clear hcall
        go_wp2_with fail
        go_roundw
        case rel => exact ⟨k+1, by omega, by go_num, HH.out, hd.trans hd2⟩
        case measure => simp [intOf]; omega
      | false =>
        have HH := Lib.hid (Hno.out rfl)
        go_wp2_with fail
        refine Calls.mono hcall ?_
        rintro e w2 ⟨rfl, hd2⟩
        clear hcall
        go_wp2_with fail
        go_ret
        exact ⟨ret_bool' HH.out, hd.trans hd2⟩
    · have HH : Hid (res = ((n : Int) == (m : Int))) := by
        show _ = _
        rw [H2.out (fun i hi => Hall.out i (by have := Hn.out; omega)), ← Hn.out]
        by_cases e : n = m
        · subst e; simp
        · rw [decide_eq_false e]; symm; rw [beq_eq_false_iff_ne]; omega
      go_wp2_with fail
      go_ret
      exact ⟨ret_bool' HH.out, hd⟩

set_option maxRecDepth 20000 in
set_option maxHeartbeats 1000000 in
theorem l24Row_c (w : World) (mk : MK) (v : Value) (z : Zone) (t : List (List Int)) (h : RowsR z w v t) (u : Value) (y : Zone) (cuts : List (List Int)) (hc : RowsR y w u cuts) (v3 : Value) (z3 : Zone) (row : List Int) (hr : IntsR z3 w v3 row) :
    Calls Tryz.prog 135 #[sysV mk v, u, v3] w (Ret w fun r _ => r = .int .i64 (rowCode mk t cuts row [])) := by
  have H1 : Hid (designCode mk t cuts ≠ 0 → rowCode mk t cuts row [] = designCode mk t cuts) := rowCode_bad
  have H2 : Hid (designCode mk t cuts = 0 → rowOk t row = false → rowCode mk t cuts row [] = 2) := fun a b => rowCode_range a (by rw [b]; rfl)
  have H3 : Hid (designCode mk t cuts = 0 → rowOk t row = true → rowCode mk t cuts row [] = if t.length = 10 then 3 else 0) := fun a b => rowCode_ok a (by rw [b]; rfl)
  have HM : Hid (designCode mk t cuts = 0 → 0 < t.length) := fun h => by
    have := (designCode_zero h).len
    omega
  have HC1 := Lib.hid (fun (w' : World) (e : Ext w w') => l21Code_c w' mk v z t (stable_rows.ext h e) u y cuts (stable_rows.ext hc e))
  have HC2 : Hid (∀ w', Ext w w' → Calls Tryz.prog 120 #[v3, .int .i64 (doorsOf t)] w' (RetQ w' (.bool (rowOk t row)))) := fun w' e => l24Entries_c w' v3 z3 row (doorsOf t) (stable_ints.ext hr e)
  generalize rowCode mk t cuts row [] = res at *
  generalize designCode mk t cuts = dc at *
  generalize rowOk t row = q1 at *
  obtain ⟨a, n, cap, rfl, hn, hmax, -⟩ := SliceR.shape h
  obtain ⟨a2, n2, cap2, rfl, -⟩ := SliceR.shape hc
  obtain ⟨a3, n3, cap3, rfl, -⟩ := SliceR.shape hr
  have HT := Lib.hid (fun (k : Nat) (hk : k < n) => rows_at h hk)
  have Hn := Lib.hid hn
  clear hn h hc hr
  unfold sysV at *
  go_enter Tryz.func135, Tryz.ntmps135
  go_wp2_with fail
  generalize hw0 : World.alloc _ _ = w0
  obtain ⟨e0, S0⟩ := sys_box hw0
  clear hw0
  have HS := Lib.hid S0
  clear S0
  refine Calls.mono (HC1.out w0 e0) ?_
  rintro e w1 hr
  obtain ⟨r, rfl, rfl, e1⟩ := ret_ext hr
  clear hr
  have et := e0.trans e1
  obtain ⟨c0, c1, c2, c3, c4, c5⟩ := HS.out.all e1
  by_cases hd : dc = 0
  · have hb : (dc != 0) = false := by rw [hd]; rfl
    have m3 := HM.out hd
    have H2' := Lib.hid (H2.out hd)
    have H3' := Lib.hid (H3.out hd)
    obtain ⟨b, off, rfl, a0, m, cp, hmE, hmm, -, hcr, -⟩ := HT.out 0 (by have := Hn.out; omega)
    have hn0 : 0 < n := by have := Hn.out; omega
    have hcall := HC2.out w1 et
    rw [← (show m = doorsOf t from hmE)] at hcall
    have hcr1 := hcr w1 et
    rw [Nat.add_zero] at hcr1
    clear hd H1 H2 H3 HM HC2 hmE hcr m3
    go_wp2_with fail
    refine Calls.mono hcall ?_
    rintro e w2 hr
    obtain ⟨rfl, hdr, e2⟩ := retq_ext hr
    clear hr hcall c0 c1 c2 c3 c4 c5
    have et2 := et.trans e2
    obtain ⟨c0, c1, c2, c3, c4, c5⟩ := HS.out.all (e1.trans e2)
    cases q1 with
    | false =>
      have HH := Lib.hid (H2'.out rfl)
      go_wp2_with fail
      go_ret
      exact ⟨_, rfl, congrArg (Value.int .i64) HH.out.symm, et2⟩
    | true =>
      have HH := Lib.hid (H3'.out rfl)
      by_cases h10 : n = 10
      · have hb10 : ((n : Int) == 10) = true := by rw [h10]; rfl
        have HR : Hid (res = 3) := by show _ = _; rw [HH.out, if_pos (by rw [← Hn.out]; exact h10)]
        clear h10
        go_wp2_with fail
        go_ret
        exact ⟨_, rfl, congrArg (Value.int .i64) HR.out.symm, et2⟩
      · have hb10 : ((n : Int) == 10) = false := by rw [beq_eq_false_iff_ne]; omega
        have HR : Hid (res = 0) := by show _ = _; rw [HH.out, if_neg (by rw [← Hn.out]; exact h10)]
        clear h10
        go_wp2_with fail
        go_ret
        exact ⟨_, rfl, congrArg (Value.int .i64) HR.out.symm, et2⟩
  · have hb : (dc != 0) = true := by rw [bne_iff_ne]; exact hd
    have HH := Lib.hid (H1.out hd)
    clear hd H1 H2 H3 HM
    go_wp2_with fail
    go_ret
    exact ⟨_, rfl, congrArg (Value.int .i64) HH.out.symm, et⟩

theorem rowCode_key {mk : MK} {t cuts : List (List Int)} {row key : List Int} (h : designCode mk t cuts = 0) : rowCode mk t cuts row [key] = if keyFault mk key = 0 then rowCode mk t cuts row [] else 2 := by
  have e1 : areKeysB mk [key] = isKeyB mk key := by unfold areKeysB; simp
  have e2 : areKeysB mk [] = true := rfl
  by_cases hk : keyFault mk key = 0
  · have e3 : isKeyB mk key = true := decide_eq_true hk
    rw [if_pos hk]
    cases hr : rowOk t row with
    | false => rw [rowCode_range h (by rw [hr]; rfl), rowCode_range h (by rw [hr]; rfl)]
    | true => rw [rowCode_ok h (by rw [hr, e1, e3]; rfl), rowCode_ok h (by rw [hr, e2]; rfl)]
  · have e3 : isKeyB mk key = false := decide_eq_false hk
    rw [if_neg hk, rowCode_range h (by rw [e1, e3, Bool.and_false])]

set_option maxRecDepth 20000 in
set_option maxHeartbeats 1000000 in
theorem l24Code_c (w : World) (mk : MK) (v : Value) (z : Zone) (t : List (List Int)) (h : RowsR z w v t) (u : Value) (y : Zone) (cuts : List (List Int)) (hc : RowsR y w u cuts) (v3 : Value) (z3 : Zone) (row : List Int) (hr : IntsR z3 w v3 row) (v4 : Value) (z4 : Zone) (key : List Int) (hk : IntsR z4 w v4 key) :
    Calls Tryz.prog 106 #[sysV mk v, u, v3, v4] w (Ret w fun r _ => r = .int .i64 (rowCode mk t cuts row [key])) := by
  have H1 : Hid (designCode mk t cuts ≠ 0 → rowCode mk t cuts row [key] = designCode mk t cuts) := rowCode_bad
  have H2 : Hid (designCode mk t cuts = 0 → rowCode mk t cuts row [key] = if keyFault mk key = 0 then rowCode mk t cuts row [] else 2) := rowCode_key
  have HM : Hid (designCode mk t cuts = 0 → (2 ≤ mk.d ∧ mk.d ≤ 8)) := fun h => (designCode_zero h).mk2
  have HC1 := Lib.hid (fun (w' : World) (e : Ext w w') => l21Code_c w' mk v z t (stable_rows.ext h e) u y cuts (stable_rows.ext hc e))
  have HC2 := Lib.hid (fun (h1 : 2 ≤ mk.d ∧ mk.d ≤ 8) (w' : World) (e : Ext w w') => l02Fault_c w' mk h1 v4 z4 key (stable_ints.ext hk e))
  have HC3 := Lib.hid (fun (w' : World) (e : Ext w w') => l24Row_c w' mk v z t (stable_rows.ext h e) u y cuts (stable_rows.ext hc e) v3 z3 row (stable_ints.ext hr e))
  generalize rowCode mk t cuts row [key] = res at *
  generalize rowCode mk t cuts row [] = res0 at *
  generalize designCode mk t cuts = dc at *
  generalize keyFault mk key = kf at *
  obtain ⟨a, n, cap, rfl, -⟩ := SliceR.shape h
  obtain ⟨a2, n2, cap2, rfl, -⟩ := SliceR.shape hc
  obtain ⟨a3, n3, cap3, rfl, -⟩ := SliceR.shape hr
  obtain ⟨a4, n4, cap4, rfl, -⟩ := SliceR.shape hk
  clear h hc hr hk
  unfold sysV MK.v at *
  go_enter Tryz.func106, Tryz.ntmps106
  go_wp2_with fail
  generalize hw0 : World.alloc _ _ = w0
  obtain ⟨e0, S0⟩ := sys_box hw0
  clear hw0
  have HS := Lib.hid S0
  clear S0
  refine Calls.mono (HC1.out w0 e0) ?_
  rintro e w1 hr
  obtain ⟨r, rfl, rfl, e1⟩ := ret_ext hr
  clear hr
  have et := e0.trans e1
  obtain ⟨c0, c1, c2, c3, c4, c5⟩ := HS.out.all e1
  by_cases hd : dc = 0
  · have hb : (dc == 0) = true := by simpa using hd
    have hb2 : (dc != 0) = false := by rw [hd]; rfl
    have m1 := HM.out hd
    have H2' := Lib.hid (H2.out hd)
    have hcall := HC2.out m1 w1 et
    clear hd H1 H2 HM HC2
    go_wp2_with fail
    refine Calls.mono hcall ?_
    rintro e w2 hr
    obtain ⟨r, rfl, rfl, e2⟩ := ret_ext hr
    clear hr hcall c0 c1 c2 c3 c4 c5
    have et2 := et.trans e2
    obtain ⟨c0, c1, c2, c3, c4, c5⟩ := HS.out.all (e1.trans e2)
    by_cases hkf : kf = 0
    · have hbk : (kf != 0) = false := by rw [hkf]; rfl
      have HR : Hid (res = res0) := by show _ = _; rw [H2'.out, if_pos hkf]
      have hcall := HC3.out w2 et2
      clear hkf H2'
      go_wp2_with fail
      refine Calls.mono hcall ?_
      rintro e w3 hr
      obtain ⟨r, rfl, rfl, e3⟩ := ret_ext hr
      clear hr hcall
      go_wp2_with fail
      go_ret
      exact ⟨_, rfl, congrArg (Value.int .i64) HR.out.symm, et2.trans e3⟩
    · have hbk : (kf != 0) = true := by rw [bne_iff_ne]; exact hkf
      have HR : Hid (res = 2) := by show _ = _; rw [H2'.out, if_neg hkf]
      clear hkf H2'
      go_wp2_with fail
      go_ret
      exact ⟨_, rfl, congrArg (Value.int .i64) HR.out.symm, et2⟩
  · have hb : (dc == 0) = false := by simpa using hd
    have hb2 : (dc != 0) = true := by rw [bne_iff_ne]; exact hd
    have HH := Lib.hid (H1.out hd)
    clear hd H1 H2 HM
    go_wp2_with fail
    go_ret
    exact ⟨_, rfl, congrArg (Value.int .i64) HH.out.symm, et⟩
end Go.Proofs.YtegmognpofcfiaaGreat
