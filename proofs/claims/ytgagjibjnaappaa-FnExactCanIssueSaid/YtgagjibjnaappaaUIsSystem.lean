/- Proved: IsSystem, program and reference. -/
import Derived.Test.YtgagjibjnaappaaChecked
import Derived.Test.YtgagjibjnaappaaUSys
namespace Go.Proofs.Ytgagjibjnaappaa
open Go.ChangeShapes Go.WideShapes Go.ChangeAt Go.RowKit
set_option linter.unusedVariables false

theorem isSystem_maker {mk : MK} {t : List (List Int)} (h : isMaker mk = false) : isSystem mk t = false := by unfold isSystem; rw [h]; rfl
theorem isSystem_table {mk : MK} {t : List (List Int)} (h : isTable t = false) : isSystem mk t = false := by unfold isSystem; rw [h]; simp
theorem isSystem_shut {mk : MK} {t : List (List Int)} (d : Nat) (hd : d < doorsOf t) (h : doorOpen t d = false) : isSystem mk t = false := by
  have : (List.range (doorsOf t)).all (doorOpen t) = false := by rw [List.all_eq_false]; exact ⟨d, List.mem_range.2 hd, by rw [h]; decide⟩
  unfold isSystem; rw [this]; simp
theorem isSystem_yes {mk : MK} {t : List (List Int)} (h1 : isMaker mk = true) (h2 : isTable t = true) (h : ∀ d, d < doorsOf t → doorOpen t d = true) : isSystem mk t = true := by
  have : (List.range (doorsOf t)).all (doorOpen t) = true := by rw [List.all_eq_true]; intro d hd; exact h d (List.mem_range.1 hd)
  unfold isSystem; rw [this, h1, h2]; rfl

set_option maxRecDepth 20000 in
set_option maxHeartbeats 1000000 in
theorem IsSystem_c (w : World) (mk : MK) (v : Value) (z : Zone) (t : List (List Int)) (h : RowsR z w v t) :
    Calls Try.prog 77 #[sysV mk v] w (Ret w fun r _ => r = .bool (isSystem mk t)) := by
  have HM : Hid (isMaker mk = false → isSystem mk t = false) := isSystem_maker
  have HB : Hid (isTable t = false → isSystem mk t = false) := isSystem_table
  have HD : Hid (∀ d, d < doorsOf t → doorOpen t d = false → isSystem mk t = false) := fun d hd h => isSystem_shut d hd h
  have HY : Hid (isMaker mk = true → isTable t = true → (∀ d, d < doorsOf t → doorOpen t d = true) → isSystem mk t = true) := isSystem_yes
  generalize isSystem mk t = res at *
  have HC1 := Lib.hid (fun w' => IsMaker_c w' mk)
  have HC2 := Lib.hid (fun (w' : World) (e : Ext w w') => IsTable_c w' v z t (stable_rows.ext h e))
  have HC3 := Lib.hid (fun (w' : World) (e : Ext w w') => rowsFor_c w' mk v z t (stable_rows.ext h e))
  obtain ⟨a, n, cap, rfl, hn, -⟩ := SliceR.shape h
  have HT := Lib.hid (fun (k : Nat) (hk : k < n) => rows_at h hk)
  have Hn := Lib.hid hn
  clear hn h
  unfold sysV at *
  go_enter Try.func77, Try.ntmps77
  go_wp2_with fail
  generalize hw0 : World.alloc _ _ = w0
  obtain ⟨e0, S0⟩ := sys_box hw0
  clear hw0
  have HS := Lib.hid S0
  obtain ⟨c0, c1, c2, c3, c4, c5⟩ := S0
  cases hm : isMaker mk with
  | false =>
    have HH := Lib.hid (HM.out hm)
    rw [hm] at HC1
    clear hm
    refine Calls.mono (HC1.out w0) ?_
    rintro e w1 hr
    obtain ⟨r, rfl, rfl, e1⟩ := ret_ext hr
    go_wp2_with fail
    go_ret
    exact ⟨.bool false, rfl, congrArg Value.bool HH.out.symm, e0.trans e1⟩
  | true =>
    have HMt := Lib.hid hm
    rw [hm] at HC1
    clear hm
    refine Calls.mono (HC1.out w0) ?_
    rintro e w1 hr
    obtain ⟨r, rfl, rfl, e1⟩ := ret_ext hr
    clear hr
    clear c0 c1 c2 c3 c4 c5
    obtain ⟨c0, c1, c2, c3, c4, c5⟩ := HS.out.all e1
    have et := e0.trans e1
    have hcall := HC2.out w1 et
    cases ht : isTable t with
    | false =>
      have HH := Lib.hid (HB.out ht)
      rw [ht] at hcall
      clear ht
      go_wp2_with fail
      refine Calls.mono hcall ?_
      rintro e w2 hr
      obtain ⟨rfl, hd, e2⟩ := retq_ext hr
      go_wp2_with fail
      go_ret
      exact ⟨.bool false, rfl, congrArg Value.bool HH.out.symm, et.trans e2⟩
    | true =>
      obtain ⟨t1, t2, t3, -⟩ := tabOk ht
      have HTt := Lib.hid ht
      rw [ht] at hcall
      clear ht
      obtain ⟨b, off, rfl, a0, m, cp, hm0, hmm, -, hc, -⟩ := HT.out 0 (by have := Hn.out; omega)
      have Hm : Hid (m = doorsOf t) := hm0
      have Ht3 := Lib.hid t3
      have hm12 : m ≤ 12 := by have := Hm.out; omega
      have hn0 : 0 < n := by have := Hn.out; omega
      have hl10 : n ≤ 10 := by have := Hn.out; omega
      clear t1 t2 t3 hm0
      go_wp2_with fail
      refine Calls.mono hcall ?_
      rintro e w2 hr
      obtain ⟨rfl, -, e2⟩ := retq_ext hr
      clear hr hcall
      clear c0 c1 c2 c3 c4 c5
      have et2 := et.trans e2
      obtain ⟨c0, c1, c2, c3, c4, c5⟩ := HS.out.all (e1.trans e2)
      have hc2 := hc w2 et2
      rw [Nat.add_zero] at hc2
      go_wp2_with fail
      go_loopw [3, 19] (fun _ s wr => ∃ d : Nat, d ≤ m ∧ s = .int .i64 d ∧ (∀ j, j < d → doorOpen t j = true) ∧ Ext w2 wr) (fun _ s _ => m - (intOf s).toNat)
      case atStart => exact ⟨0, Nat.zero_le _, rfl, by simp, Ext.refl _⟩
      case round =>
        obtain ⟨d, hd, rfl, hall, ew⟩ := hrel
        have Hall := Lib.hid hall
        clear hall
        clear c0 c1 c2 c3 c4 c5
        obtain ⟨c0, c1, c2, c3, c4, c5⟩ := HS.out.all ((e1.trans e2).trans ew)
        have et3 := et2.trans ew
        by_cases hlt : d < m
        · have hcall := HC3.out wr et3 d (fun k hk => by rw [Ht3.out k hk, ← Hm.out]; exact hlt) (by rw [← Hn.out]; exact hl10)
          have HN : Hid (rowsI t d t.length = [] ↔ doorOpen t d = false) := rowsI_nil
          have Hno : Hid (doorOpen t d = false → res = false) := fun h => HD.out d (by rw [← Hm.out]; exact hlt) h
          have Hgo : Hid (doorOpen t d = true → ∀ j, j < d + 1 → doorOpen t j = true) := fun h j hj => by
            by_cases e : j = d
            · rw [e]; exact h
            · exact Hall.out j (by omega)
          generalize doorOpen t d = q at *
          generalize rowsI t d t.length = rs at *
          go_wp2_with fail
          refine Calls.mono hcall ?_
          rintro e w4 hr
          obtain ⟨r, rfl, ho, e4⟩ := ret_ext hr
          clear hr hcall
          obtain ⟨ra, rn, rc, rfl, hrn, -⟩ := ho.shape
          cases q with
          | false =>
            have hr0 : rn = 0 := by rw [hrn, HN.out.2 rfl]; rfl
            subst hr0
            have HH := Lib.hid (Hno.out rfl)
            clear hrn
            go_wp2_with fail
            go_ret
            exact ⟨.bool false, rfl, congrArg Value.bool HH.out.symm, et3.trans e4⟩
          | true =>
            have hr0 : ((rn : Int) == 0) = false := by
              rw [beq_eq_false_iff_ne]; intro h
              have : rs = [] := List.eq_nil_of_length_eq_zero (by omega)
              have := HN.out.1 this
              cases this
            have HG := Lib.hid (Hgo.out rfl)
            clear hrn
            go_wp2_with fail
            go_roundw
            case rel => exact ⟨d+1, by omega, by go_num, HG.out, ew.trans e4⟩
            case measure => simp [intOf]; omega
        · have HH : Hid (res = true) := HY.out HMt.out HTt.out (fun j hj => Hall.out j (by have := Hm.out; omega))
          go_wp2_with fail
          go_ret
          exact ⟨.bool true, rfl, congrArg Value.bool HH.out.symm, et3⟩

theorem anyTake_succ {α : Type} (l : List α) (p : α → Bool) (d : α) {i : Nat} (h : i < l.length) : (l.take (i+1)).any p = ((l.take i).any p || p (l.getD i d)) := by
  rw [List.take_add_one, List.getElem?_eq_getElem h, List.any_append]
  simp [h]

set_option maxRecDepth 20000 in
set_option maxHeartbeats 2000000 in
theorem IsSystemSpec_c (w : World) (mk : MK) (v : Value) (z : Zone) (t : List (List Int)) (h : RowsR z w v t) :
    Calls Try.prog 75 #[sysV mk v] w (Ret w fun r _ => r = .bool (isSystem mk t)) := by
  have HM : Hid (isMaker mk = false → isSystem mk t = false) := isSystem_maker
  have HB : Hid (isTable t = false → isSystem mk t = false) := isSystem_table
  have HD : Hid (∀ d, d < doorsOf t → doorOpen t d = false → isSystem mk t = false) := fun d hd h => isSystem_shut d hd h
  have HY : Hid (isMaker mk = true → isTable t = true → (∀ d, d < doorsOf t → doorOpen t d = true) → isSystem mk t = true) := isSystem_yes
  generalize isSystem mk t = res at *
  have HC1 := Lib.hid (fun w' => IsMakerSpec_c w' mk)
  have HC2 := Lib.hid (fun (w' : World) (e : Ext w w') => IsTableSpec_c w' v z t (stable_rows.ext h e))
  obtain ⟨a, n, cap, rfl, hn, -⟩ := SliceR.shape h
  have HT := Lib.hid (fun (k : Nat) (hk : k < n) => rows_at h hk)
  have Hn := Lib.hid hn
  clear hn h
  unfold sysV at *
  go_enter Try.func75, Try.ntmps75
  go_wp2_with fail
  generalize hw0 : World.alloc _ _ = w0
  obtain ⟨e0, S0⟩ := sys_box hw0
  clear hw0
  have HS := Lib.hid S0
  obtain ⟨c0, c1, c2, c3, c4, c5⟩ := S0
  cases hm : isMaker mk with
  | false =>
    have HH := Lib.hid (HM.out hm)
    rw [hm] at HC1
    clear hm
    refine Calls.mono (HC1.out w0) ?_
    rintro e w1 hr
    obtain ⟨r, rfl, rfl, e1⟩ := ret_ext hr
    go_wp2_with fail
    go_ret
    exact ⟨.bool false, rfl, congrArg Value.bool HH.out.symm, e0.trans e1⟩
  | true =>
    have HMt := Lib.hid hm
    rw [hm] at HC1
    clear hm
    refine Calls.mono (HC1.out w0) ?_
    rintro e w1 hr
    obtain ⟨r, rfl, rfl, e1⟩ := ret_ext hr
    clear hr
    clear c0 c1 c2 c3 c4 c5
    obtain ⟨c0, c1, c2, c3, c4, c5⟩ := HS.out.all e1
    have et := e0.trans e1
    have hcall := HC2.out w1 et
    cases ht : isTable t with
    | false =>
      have HH := Lib.hid (HB.out ht)
      rw [ht] at hcall
      clear ht
      go_wp2_with fail
      refine Calls.mono hcall ?_
      rintro e w2 hr
      obtain ⟨rfl, hd, e2⟩ := retq_ext hr
      go_wp2_with fail
      go_ret
      exact ⟨.bool false, rfl, congrArg Value.bool HH.out.symm, et.trans e2⟩
    | true =>
      obtain ⟨t1, t2, t3, -⟩ := tabOk ht
      have HTt := Lib.hid ht
      rw [ht] at hcall
      clear ht
      obtain ⟨b, off, rfl, a0, m, cp, hm0, hmm, -, hc, -⟩ := HT.out 0 (by have := Hn.out; omega)
      have Hm : Hid (m = doorsOf t) := hm0
      have Ht3 := Lib.hid t3
      have hm12 : m ≤ 12 := by have := Hm.out; omega
      have hn0 : 0 < n := by have := Hn.out; omega
      have hl10 : n ≤ 10 := by have := Hn.out; omega
      clear t1 t2 t3 hm0
      go_wp2_with fail
      refine Calls.mono hcall ?_
      rintro e w2 hr
      obtain ⟨rfl, -, e2⟩ := retq_ext hr
      clear hr hcall
      clear c0 c1 c2 c3 c4 c5
      have et2 := et.trans e2
      obtain ⟨c0, c1, c2, c3, c4, c5⟩ := HS.out.all (e1.trans e2)
      have hc2 := hc w2 et2
      rw [Nat.add_zero] at hc2
      go_wp2_with fail
      go_loopw [3, 4, 5] (fun s _ _ wr => ∃ d : Nat, d ≤ m ∧ s = .int .i64 d ∧ (∀ j, j < d → doorOpen t j = true) ∧ Drew w2 wr) (fun s _ _ _ => m - (intOf s).toNat)
      case atStart => exact ⟨0, Nat.zero_le _, rfl, by simp, Drew.refl _⟩
      case round =>
        obtain ⟨d, hd, rfl, hall, hdw⟩ := hrel
        have Hall := Lib.hid hall
        clear hall
        clear c0 c1 c2 c3 c4 c5
        replace hc2 := (hdw.cell _).trans hc2
        have ew := Ext.ofDrew hdw
        obtain ⟨c0, c1, c2, c3, c4, c5⟩ := HS.out.all ((e1.trans e2).trans ew)
        have et3 := et2.trans ew
        by_cases hlt : d < m
        · have Hno : Hid (doorOpen t d = false → res = false) := fun h => HD.out d (by rw [← Hm.out]; exact hlt) h
          have Hgo : Hid (doorOpen t d = true → ∀ j, j < d + 1 → doorOpen t j = true) := fun h j hj => by
            by_cases e : j = d
            · rw [e]; exact h
            · exact Hall.out j (by omega)
          go_wp2_with fail
          obtain ⟨wo, rfl⟩ : ∃ wo, wo = wr := ⟨_, rfl⟩
          go_loopw [4, 5] (fun s4 s wr => ∃ i : Nat, i ≤ n ∧ s = .int .i64 i ∧ s4 = .bool ((t.take i).any fun r => r.getD d 0 == 1) ∧ Drew wo wr) (fun _ s _ => n - (intOf s).toNat)
          case atStart => exact ⟨0, Nat.zero_le _, rfl, rfl, Drew.refl _⟩
          case round =>
            obtain ⟨i, hi, rfl, rfl, hdi⟩ := hrel
            clear c0 c1 c2 c3 c4 c5
            have ewi := et3.trans (Ext.ofDrew hdi)
            obtain ⟨c0, c1, c2, c3, c4, c5⟩ := HS.out.all (((e1.trans e2).trans ew).trans (Ext.ofDrew hdi))
            by_cases hlti : i < n
            · obtain ⟨b', off', he, a1, n1, k1, hn1, hm1, -, hci, -, hel⟩ := HT.out i hlti
              injection he with he; injection he with he1 he2 _
              subst he1; subst he2
              have hdn : d < n1 := by rw [hn1, Ht3.out i (by rw [← Hn.out]; exact hlti), ← Hm.out]; exact hlt
              obtain ⟨b1, o1', rfl, hx, hc1⟩ := hel d hdn
              replace hci := hci _ ewi
              replace hc1 := hc1 _ ewi
              have HA := Lib.hid (anyTake_succ t (fun r => r.getD d 0 == 1) [] (i := i) (by rw [← Hn.out]; exact hlti))
              generalize (t.take i).any (fun r => r.getD d 0 == 1) = q at *
              clear hel hn1
              generalize (t.getD i []).getD d 0 = x at *
              cases q with
              | true =>
                go_wp2_with fail
                go_roundw
                case rel => exact ⟨i+1, by omega, by go_num, by rw [HA.out]; rfl, hdi⟩
                case measure => simp [intOf]; omega
              | false =>
                cases hxb : x == 1 with
                | true =>
                  have HX : Hid (((t.take (i+1)).any fun r => r.getD d 0 == 1) = true) := by show _ = _; rw [HA.out, hxb]; rfl
                  clear HA
                  go_wp2_with fail
                  go_roundw
                  case rel => exact ⟨i+1, by omega, by go_num, by rw [HX.out], hdi⟩
                  case measure => simp [intOf]; omega
                | false =>
                  have HX : Hid (((t.take (i+1)).any fun r => r.getD d 0 == 1) = false) := by show _ = _; rw [HA.out, hxb]; rfl
                  clear HA
                  go_wp2_with fail
                  go_roundw
                  case rel => exact ⟨i+1, by omega, by go_num, by rw [HX.out], hdi⟩
                  case measure => simp [intOf]; omega
            · have HQ : Hid (((t.take i).any fun r => r.getD d 0 == 1) = doorOpen t d) := by
                show _ = _
                have : t.take i = t := List.take_of_length_le (by have := Hn.out; omega)
                rw [this]; rfl
              generalize (t.take i).any (fun r => r.getD d 0 == 1) = q at *
              cases q with
              | true =>
                have HG := Lib.hid (Hgo.out HQ.out.symm)
                clear HQ
                go_wp2_with fail
                go_roundw
                case rel => exact ⟨d+1, by omega, by go_num, HG.out, hdw.trans hdi⟩
                case measure => simp [intOf]; omega
              | false =>
                have HG := Lib.hid (Hno.out HQ.out.symm)
                clear HQ
                go_wp2_with fail
                go_ret
                exact ⟨.bool false, rfl, congrArg Value.bool HG.out.symm, et3.trans (Ext.ofDrew hdi)⟩
        · have HH : Hid (res = true) := HY.out HMt.out HTt.out (fun j hj => Hall.out j (by have := Hm.out; omega))
          go_wp2_with fail
          go_ret
          exact ⟨.bool true, rfl, congrArg Value.bool HH.out.symm, et3⟩
end Go.Proofs.Ytgagjibjnaappaa
