/- Proved: SameChart of the program. -/
import Derived.Test.YtejaobbdcnnknaaDoorChecked
import Derived.Deep.RegionHeld3
import Derived.Test.YtejaobbdcnnknaaDoorUAfterLaw
namespace Go.Proofs.YtejaobbdcnnknaaDoor
open Go.ChangeShapes Go.WideShapes Go.ChangeAt Go.RowKit
set_option linter.unusedVariables false

theorem afterL_line {l : List UInt8} {i : Nat} (h : i < (lns l).length) : (afterL l).getD i ⟨#[]⟩ = strOf ((lns l).getD i [] ++ [10]) := by
  have h2 : i < ((lns l).map fun d => strOf (d ++ [10])).length := by rw [List.length_map]; exact h
  unfold afterL
  rw [List.getD_eq_getElem?_getD, List.getElem?_append_left h2, List.getElem?_map, List.getElem?_eq_getElem h, List.getD_eq_getElem?_getD, List.getElem?_eq_getElem h]
  rfl
theorem afterL_end {l : List UInt8} : (afterL l).getD (lns l).length ⟨#[]⟩ = strOf (linesTo 10 l).2 := by
  unfold afterL
  rw [List.getD_eq_getElem?_getD, List.getElem?_append_right (by rw [List.length_map]; exact Nat.le_refl _), List.length_map, Nat.sub_self]
  rfl
theorem after_same {a b : List UInt8} {k : Nat} (h : k < cp (lns a) (lns b)) : (afterL a).getD k ⟨#[]⟩ = (afterL b).getD k ⟨#[]⟩ := by
  have := cp_le (lns a) (lns b)
  rw [afterL_line (by omega), afterL_line (by omega), cp_same _ _ h]
theorem after_diff {a b : List UInt8} (ha : codeL a = 0) (hb : codeL b = 0) (h : a ≠ b) : (afterL a).getD (cp (lns a) (lns b)) ⟨#[]⟩ ≠ (afterL b).getD (cp (lns a) (lns b)) ⟨#[]⟩ := by
  have hle := cp_le (lns a) (lns b)
  have hf := cp_full (lns a) (lns b)
  by_cases h1 : cp (lns a) (lns b) < (lns a).length
  · by_cases h2 : cp (lns a) (lns b) < (lns b).length
    · have hd := cp_diff _ _ h1 h2
      rw [afterL_line h1, afterL_line h2]
      intro e
      exact hd (List.append_cancel_right (strOf_inj e))
    · have h3 : cp (lns a) (lns b) = (lns b).length := by omega
      rw [afterL_line h1, h3, afterL_end, codeL_open hb]
      intro e
      have := strOf_inj e
      simp at this
  · have h3 : cp (lns a) (lns b) = (lns a).length := by omega
    by_cases h2 : cp (lns a) (lns b) < (lns b).length
    · rw [afterL_line h2, h3, afterL_end, codeL_open ha]
      intro e
      have := strOf_inj e
      simp at this
    · exact absurd (lns_inj ha hb (hf h3 (by omega))) h

set_option maxRecDepth 20000 in
set_option maxHeartbeats 1000000 in
theorem SameChart_c (w : World) (s : ByteArray) (hs : s.size ≤ maxLen) (u : ByteArray) (hu : u.size ≤ maxLen) (hm : ∃ m, w.cell? ⟨Tryd.genSplit_ren.g 1, 0, none⟩ = some (.int .i64 m)) : Calls Tryd.prog 6 #[.string s, .string u] w (Ret w fun r _ => r = IntCode (sameC s.data.toList u.data.toList)) := by
  have H1 : Hid (codeL s.data.toList = 3 ∨ codeL u.data.toList = 3 → sameC s.data.toList u.data.toList = (0, 3)) := sameC_lim
  have H2 : Hid (codeL s.data.toList ≠ 0 ∨ codeL u.data.toList ≠ 0 → ¬ (codeL s.data.toList = 3 ∨ codeL u.data.toList = 3) → sameC s.data.toList u.data.toList = (0, 6)) := sameC_syn
  have HT1 : Hid (codeL s.data.toList = 3 ↔ 240 < s.size) := by show _ ↔ _; rw [← len_str]; exact codeL_three
  have HT2 : Hid (codeL u.data.toList = 3 ↔ 240 < u.size) := by show _ ↔ _; rw [← len_str]; exact codeL_three
  have HC1 := Lib.hid (fun (w' : World) => linesCode_c w' s hs)
  have HC2 := Lib.hid (fun (w' : World) => linesCode_c w' u hu)
  have HM : Hid (∀ w', Ext w w' → ∃ m, w'.cell? ⟨Tryd.genSplit_ren.g 1, 0, none⟩ = some (.int .i64 m)) := fun w' e => by
    obtain ⟨m, h⟩ := hm
    exact ⟨m, e.cell h⟩
  have HSp1 := Lib.hid (fun (h : s.size ≤ 240) (w' : World) (e : Ext w w') => splitAfter_c w' s h (HM.out w' e))
  have HSp2 := Lib.hid (fun (h : u.size ≤ 240) (w' : World) (e : Ext w w') => splitAfter_c w' u h (HM.out w' e))
  have HEq : Hid (codeL s.data.toList = 0 → codeL u.data.toList = 0 → s = u → sameC s.data.toList u.data.toList = (0, 0)) := fun h1 h2 e => sameC_eq h1 h2 (by rw [e])
  have HNe : Hid (codeL s.data.toList = 0 → codeL u.data.toList = 0 → s ≠ u → sameC s.data.toList u.data.toList = (((cp (lns s.data.toList) (lns u.data.toList) : Nat) : Int) + 1, 0)) := fun h1 h2 e => sameC_ne h1 h2 (fun q => e (ByteArray.ext (Array.toList_inj.1 (lns_inj h1 h2 q))))
  have HSame : Hid (∀ k, k < cp (lns s.data.toList) (lns u.data.toList) → (afterL s.data.toList).getD k ⟨#[]⟩ = (afterL u.data.toList).getD k ⟨#[]⟩) := fun k h => after_same h
  have HDiff : Hid (codeL s.data.toList = 0 → codeL u.data.toList = 0 → s ≠ u → (afterL s.data.toList).getD (cp (lns s.data.toList) (lns u.data.toList)) ⟨#[]⟩ ≠ (afterL u.data.toList).getD (cp (lns s.data.toList) (lns u.data.toList)) ⟨#[]⟩) := fun h1 h2 e => after_diff h1 h2 (fun q => e (ByteArray.ext (Array.toList_inj.1 q)))
  have HLe : Hid (cp (lns s.data.toList) (lns u.data.toList) ≤ s.data.toList.count 10 ∧ cp (lns s.data.toList) (lns u.data.toList) ≤ u.data.toList.count 10) := by
    have := cp_le (lns s.data.toList) (lns u.data.toList)
    unfold lns at *
    rw [linesTo_count, linesTo_count] at this
    exact this
  have HN1 : Hid (codeL s.data.toList = 0 → s.data.toList.count 10 ≤ 240) := count_code
  have HN2 : Hid (codeL u.data.toList = 0 → u.data.toList.count 10 ≤ 240) := count_code
  have HV1 := Lib.hid (codeL_val s.data.toList)
  generalize sameC s.data.toList u.data.toList = res at *
  generalize codeL s.data.toList = c1 at *
  generalize codeL u.data.toList = c2 at *
  generalize s.data.toList.count 10 = n1 at *
  generalize u.data.toList.count 10 = n2 at *
  generalize cp (lns s.data.toList) (lns u.data.toList) = K at *
  generalize afterL s.data.toList = X at *
  generalize afterL u.data.toList = Y at *
  clear hs hu hm
  by_cases hb1 : 240 < s.size
  · have HH := Lib.hid (H1.out (.inl (HT1.out.2 hb1)))
    have t1 : decide ((240 : Int) < (s.size : Int)) = true := decide_eq_true (by omega)
    go_enter Tryd.func6, Tryd.ntmps6
    go_wp2_with fail
    go_ret2
    exact ⟨_, rfl, IntCode_mk HH.out, Ext.refl _⟩
  · have t1 : decide ((240 : Int) < (s.size : Int)) = false := decide_eq_false (by omega)
    by_cases hb2 : 240 < u.size
    · have HH := Lib.hid (H1.out (.inr (HT2.out.2 hb2)))
      have t2 : decide ((240 : Int) < (u.size : Int)) = true := decide_eq_true (by omega)
      go_enter Tryd.func6, Tryd.ntmps6
      go_wp2_with fail
      go_ret2
      exact ⟨_, rfl, IntCode_mk HH.out, Ext.refl _⟩
    · have t2 : decide ((240 : Int) < (u.size : Int)) = false := decide_eq_false (by omega)
      have hz1 : s.size ≤ 240 := by omega
      have hz2 : u.size ≤ 240 := by omega
      have hn31 : ¬ (c1 = 3 ∨ c2 = 3) := fun h => h.elim (fun h => hb1 (HT1.out.1 h)) (fun h => hb2 (HT2.out.1 h))
      have HS1 := Lib.hid (HSp1.out hz1)
      have HS2 := Lib.hid (HSp2.out hz2)
      clear HSp1 HSp2 HT1 HT2 hb1 hb2 H1 HM
      go_enter Tryd.func6, Tryd.ntmps6
      go_wp2_with fail
      refine Calls.mono (HC1.out w) ?_
      rintro e wq ⟨rfl, hw⟩
      have hw := hw.symm
      subst hw
      by_cases h10 : c1 = 0
      · subst h10
        go_wp2_with fail
        refine Calls.mono (HC2.out _) ?_
        rintro e wq ⟨rfl, hw⟩
        have hw := hw.symm
        subst hw
        by_cases h20 : c2 = 0
        · subst h20
          by_cases hsu : s = u
          · have HH := Lib.hid (HEq.out (by trivial) (by trivial) hsu)
            have t3 : (s.toList == u.toList) = true := by rw [hsu]; exact beq_self_eq_true _
            clear HEq HNe HSame HDiff H2 HS1 HS2 hsu hn31
            go_wp2_with fail
            go_ret2
            exact ⟨_, rfl, IntCode_mk HH.out, Ext.refl _⟩
          · have HH := Lib.hid (HNe.out (by trivial) (by trivial) hsu)
            have HDf := Lib.hid (HDiff.out (by trivial) (by trivial) hsu)
            have hl1 := HN1.out (by trivial)
            have hl2 := HN2.out (by trivial)
            have t3 : (s.toList == u.toList) = false := by
              rw [beq_eq_false_iff_ne]
              intro e
              rw [ByteArray.toList_eq, ByteArray.toList_eq] at e
              exact hsu (ByteArray.ext (Array.toList_inj.1 e))
            clear HEq HNe HDiff H2 hsu hn31 HN1 HN2 HC1 HC2
            go_wp2_with fail
            refine Calls.mono (HS1.out _ (Ext.refl _)) ?_
            rintro e w1 hr
            obtain ⟨r, rfl, ⟨rfl, hx⟩, e1⟩ := ret_ext hr
            clear hr
            have Hx := Lib.hid hx
            clear hx
            go_wp2_with fail
            refine Calls.mono (HS2.out _ e1) ?_
            rintro e w2 hr
            obtain ⟨r, rfl, ⟨rfl, hy⟩, e2⟩ := ret_ext hr
            clear hr
            have Hy := Lib.hid hy
            have HE2 := Lib.hid e2
            have HE := Lib.hid (e1.trans e2)
            clear hy e1 e2 HS1 HS2
            go_wp2_with fail
            go_loopw [8] (fun s wr => ∃ k : Nat, k ≤ K ∧ s = .int .i64 k ∧ Ext w2 wr) (fun s _ => K - (intOf s).toNat)
            case atStart => exact ⟨0, Nat.zero_le _, rfl, Ext.refl _⟩
            case round =>
              obtain ⟨k, hk, rfl, ew⟩ := hrel
              have hL := HLe.out
              have hk1 : k < n1 + 1 := by omega
              have hk2 : k < n2 + 1 := by omega
              have hk240 : k ≤ 240 := by omega
              have d1 := ew.cell (HE2.out.cell (Hx.out k hk1))
              have d2 := ew.cell (Hy.out k hk2)
              have Hew := Lib.hid ew
              by_cases hlt : k < K
              · have hsm := HSame.out k hlt
                rw [← hsm] at d2
                have Hlt := Lib.hid hlt
                generalize X.getD k ⟨#[]⟩ = x at *
                clear hL ew hlt hk hsm
                go_wp2_with fail
                go_quiet (fail)
                go_wp2_with fail
                go_roundw
                case rel => exact ⟨k + 1, Hlt.out, by go_num, Hew.out.trans (Ext.drewN _ _)⟩
                case measure => have := Hlt.out; simp [intOf]; omega
              · have hke : k = K := by omega
                have HH2 : Hid (res = ((k : Int) + 1, 0)) := by show _ = _; rw [hke]; exact HH.out
                have hdf := HDf.out
                rw [← hke] at hdf
                generalize X.getD k ⟨#[]⟩ = x at *
                generalize Y.getD k ⟨#[]⟩ = y at *
                have t5 : (x.toList == y.toList) = false := by
                  rw [beq_eq_false_iff_ne]
                  intro e
                  rw [ByteArray.toList_eq, ByteArray.toList_eq] at e
                  exact hdf (ByteArray.ext (Array.toList_inj.1 e))
                clear hL ew hlt hk hke hdf HSame HDf HH
                go_wp2_with fail
                go_quiet (fail)
                go_wp2_with fail
                go_ret2
                exact ⟨_, rfl, IntCode_mk HH2.out, HE.out.trans (Hew.out.trans (Ext.drewN _ _))⟩
        · have HH := Lib.hid (H2.out (.inr h20) hn31)
          have t3 : (c2 != 0) = true := by rw [bne_iff_ne]; exact h20
          clear H2 h20 hn31 HEq HNe HDiff
          go_wp2_with fail
          go_ret2
          exact ⟨_, rfl, IntCode_mk HH.out, Ext.refl _⟩
      · have HH := Lib.hid (H2.out (.inl h10) hn31)
        have t3 : (c1 != 0) = true := by rw [bne_iff_ne]; exact h10
        clear H2 h10 hn31 HEq HNe HDiff
        go_wp2_with fail
        go_ret2
        exact ⟨_, rfl, IntCode_mk HH.out, Ext.refl _⟩
end Go.Proofs.YtejaobbdcnnknaaDoor
