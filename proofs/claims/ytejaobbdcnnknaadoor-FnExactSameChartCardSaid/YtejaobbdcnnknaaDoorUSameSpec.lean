/- Proved: SameChart of the reference. -/
import Derived.Test.YtejaobbdcnnknaaDoorChecked
import Derived.Deep.RegionHeld3
import Derived.Test.YtejaobbdcnnknaaDoorUSameLaw
namespace Go.Proofs.YtejaobbdcnnknaaDoor
open Go.ChangeShapes Go.WideShapes Go.ChangeAt Go.RowKit
set_option linter.unusedVariables false

set_option maxRecDepth 20000 in
set_option maxHeartbeats 1000000 in
theorem SameChartSpec_c (w : World) (s : ByteArray) (hs : s.size ≤ maxLen) (u : ByteArray) (hu : u.size ≤ maxLen) : Calls Tryd.prog 5 #[.string s, .string u] w (Ret w fun r _ => r = IntCode (sameC s.data.toList u.data.toList)) := by
  have H1 : Hid (codeL s.data.toList = 3 ∨ codeL u.data.toList = 3 → sameC s.data.toList u.data.toList = (0, 3)) := sameC_lim
  have H2 : Hid (codeL s.data.toList ≠ 0 ∨ codeL u.data.toList ≠ 0 → ¬ (codeL s.data.toList = 3 ∨ codeL u.data.toList = 3) → sameC s.data.toList u.data.toList = (0, 6)) := sameC_syn
  have H3 : Hid (codeL s.data.toList = 0 → codeL u.data.toList = 0 → lns s.data.toList = lns u.data.toList → sameC s.data.toList u.data.toList = (0, 0)) := sameC_eq
  have H4 : Hid (codeL s.data.toList = 0 → codeL u.data.toList = 0 → lns s.data.toList ≠ lns u.data.toList → sameC s.data.toList u.data.toList = (((cp (lns s.data.toList) (lns u.data.toList) : Nat) : Int) + 1, 0)) := sameC_ne
  have HC1 := Lib.hid (fun (w' : World) => l27Lines_c w' s hs)
  have HC2 := Lib.hid (fun (w' : World) => l27Lines_c w' u hu)
  have HA : Hid (s.data.toList.count 10 = (lns s.data.toList).length ∧ (codeL s.data.toList = 0 → s.data.toList.count 10 ≤ 240)) := ⟨(linesTo_count 10 _).symm, count_code⟩
  have HB : Hid (u.data.toList.count 10 = (lns u.data.toList).length ∧ (codeL u.data.toList = 0 → u.data.toList.count 10 ≤ 240)) := ⟨(linesTo_count 10 _).symm, count_code⟩
  have HLa : Hid (∀ i, (linesTo 10 s.data.toList).1.getD i [] = (lns s.data.toList).getD i []) := fun _ => rfl
  have HLb : Hid (∀ i, (linesTo 10 u.data.toList).1.getD i [] = (lns u.data.toList).getD i []) := fun _ => rfl
  unfold LinesRes at HC1 HC2
  generalize sameC s.data.toList u.data.toList = res at *
  generalize codeL s.data.toList = c1 at *
  generalize codeL u.data.toList = c2 at *
  generalize s.data.toList.count 10 = m1 at *
  generalize u.data.toList.count 10 = m2 at *
  generalize lns s.data.toList = A at *
  generalize lns u.data.toList = B at *
  clear hs hu
  go_enter Tryd.func5, Tryd.ntmps5
  go_wp2_with fail
  refine Calls.mono (HC1.out w) ?_
  rintro e w1 hr
  obtain ⟨r, rfl, ⟨a1, n1, k1, rfl, hx1⟩, e1⟩ := ret_ext hr
  clear hr
  have Hx1 := Lib.hid hx1
  clear hx1
  go_wp2_with fail
  refine Calls.mono (HC2.out w1) ?_
  rintro e w2 hr
  obtain ⟨r, rfl, ⟨a2, n2, k2, rfl, hx2⟩, e2⟩ := ret_ext hr
  clear hr
  have Hx2 := Lib.hid hx2
  have HE := Lib.hid (e1.trans e2)
  have HE2 := Lib.hid e2
  clear hx2 e1 e2 HC1 HC2
  by_cases h10 : c1 = 0
  · by_cases h20 : c2 = 0
    · obtain ⟨q1, Hc1⟩ := Hx1.out h10
      obtain ⟨q2, Hc2⟩ := Hx2.out h20
      have H3' := Lib.hid (H3.out h10 h20)
      have H4' := Lib.hid (H4.out h10 h20)
      have hn1 : n1 ≤ 240 := by have := HA.out.2 h10; omega
      have hn2 : n2 ≤ 240 := by have := HB.out.2 h20; omega
      have HA1 : Hid (n1 = A.length) := by show _ = _; rw [q1]; exact HA.out.1
      have HB1 : Hid (n2 = B.length) := by show _ = _; rw [q2]; exact HB.out.1
      have HC1 : Hid (∀ i, i < n1 → ∃ b, a1 = some ⟨b, 0, none⟩ ∧ w2.cell? ⟨b, i, none⟩ = some (.string (strOf (A.getD i [])))) := fun i hi => by
        obtain ⟨b, h1, h2⟩ := Hc1 i hi
        exact ⟨b, h1, by rw [← HLa.out]; exact HE2.out.cell h2⟩
      have HC2 : Hid (∀ i, i < n2 → ∃ b, a2 = some ⟨b, 0, none⟩ ∧ w2.cell? ⟨b, i, none⟩ = some (.string (strOf (B.getD i [])))) := fun i hi => by
        obtain ⟨b, h1, h2⟩ := Hc2 i hi
        exact ⟨b, h1, by rw [← HLb.out]; exact h2⟩
      subst h10; subst h20
      clear q1 q2 Hc1 Hc2 H1 H2 H3 H4 Hx1 Hx2 HLa HLb HA HB
      have HcpA := Lib.hid (cp_le A B)
      go_wp2_with fail
      go_loopw [10] (fun s wr => ∃ k : Nat, k ≤ cp A B ∧ s = .int .i64 k ∧ Ext w2 wr) (fun s _ => cp A B - (intOf s).toNat)
      case atStart => exact ⟨0, Nat.zero_le _, rfl, Ext.refl _⟩
      case round =>
        obtain ⟨k, hk, rfl, ew⟩ := hrel
        have hk1 : k ≤ n1 := by have := HcpA.out.1; have := HA1.out; omega
        have hk2 : k ≤ n2 := by have := HcpA.out.2; have := HB1.out; omega
        have hk64 : k ≤ 240 := by omega
        by_cases hlt : k < cp A B
        · have h1 : k < n1 := by have := HcpA.out.1; have := HA1.out; omega
          have h2 : k < n2 := by have := HcpA.out.2; have := HB1.out; omega
          obtain ⟨b1, rfl, d1⟩ := HC1.out k h1
          obtain ⟨b2, rfl, d2⟩ := HC2.out k h2
          rw [← cp_same A B hlt] at d2
          replace d1 := ew.cell d1
          replace d2 := ew.cell d2
          generalize strOf (A.getD k []) = X at *
          have t1 : decide ((k : Int) < (n1 : Int)) = true := decide_eq_true (by omega)
          have t2 : decide ((k : Int) < (n2 : Int)) = true := decide_eq_true (by omega)
          have Hlt := Lib.hid hlt
          have Hew := Lib.hid ew
          clear hlt hk hk1 hk2 ew
          go_wp2_with fail
          go_quiet (fail)
          go_wp2_with fail
          go_roundw
          case rel => exact ⟨k + 1, Hlt.out, by go_num, Hew.out.trans (Ext.drewN _ _)⟩
          case measure => have := Hlt.out; simp [intOf]; omega
        · have hke : k = cp A B := by omega
          have Hke := Lib.hid hke
          have Hew := Lib.hid ew
          have hcases : (k = n1 ∧ k = n2 ∧ res = (0, 0)) ∨ (¬ (k = n1 ∧ k = n2) ∧ res = ((k : Int) + 1, 0)) := by
            by_cases hab : A = B
            · refine .inl ⟨?_, ?_, H3'.out hab⟩
              · rw [HA1.out, hke, hab, cp_self]
              · rw [HB1.out, hke, ← hab, cp_self]
            · refine .inr ⟨fun h => hab (cp_full A B (by rw [← hke, h.1]; exact HA1.out) (by rw [← hke, h.2]; exact HB1.out)), ?_⟩
              rw [H4'.out hab, hke]
          have HCs := Lib.hid hcases
          clear hcases
          by_cases h1 : k = n1
          · subst h1
            have t1 : decide ((k : Int) < (k : Int)) = false := decide_eq_false (by omega)
            clear hlt hk ew hke
            go_wp2_with fail
            go_quiet (fail)
            rcases HCs.out with ⟨-, h2, hres⟩ | ⟨h2, hres⟩
            · subst h2
              have HH := Lib.hid hres
              clear hres
              go_wp2_with fail
              go_ret2
              exact ⟨_, rfl, IntCode_mk HH.out, HE.out.trans (Hew.out.trans (Ext.drewN _ _))⟩
            · have t3 : ((k : Int) == (n2 : Int)) = false := by rw [beq_eq_false_iff_ne]; intro e; exact h2 ⟨by trivial, by omega⟩
              have HH := Lib.hid hres
              clear hres h2
              go_wp2_with fail
              go_ret2
              exact ⟨_, rfl, IntCode_mk HH.out, HE.out.trans (Hew.out.trans (Ext.drewN _ _))⟩
          · have h1' : k < n1 := by omega
            have t1 : decide ((k : Int) < (n1 : Int)) = true := decide_eq_true (by omega)
            have t4 : ((k : Int) == (n1 : Int)) = false := by rw [beq_eq_false_iff_ne]; omega
            have HH : Hid (res = ((k : Int) + 1, 0)) := by
              rcases HCs.out with ⟨h, -, -⟩ | ⟨-, hres⟩
              · exact absurd h h1
              · exact hres
            by_cases h2 : k = n2
            · subst h2
              have t2 : decide ((k : Int) < (k : Int)) = false := decide_eq_false (by omega)
              clear hlt hk ew hke
              go_wp2_with fail
              go_quiet (fail)
              go_wp2_with fail
              go_ret2
              exact ⟨_, rfl, IntCode_mk HH.out, HE.out.trans (Hew.out.trans (Ext.drewN _ _))⟩
            · have h2' : k < n2 := by omega
              have t2 : decide ((k : Int) < (n2 : Int)) = true := decide_eq_true (by omega)
              obtain ⟨b1, rfl, d1⟩ := HC1.out k h1'
              obtain ⟨b2, rfl, d2⟩ := HC2.out k h2'
              have hdf : strOf (A.getD k []) ≠ strOf (B.getD k []) := fun e => cp_diff A B (by rw [← hke, ← HA1.out]; exact h1') (by rw [← hke, ← HB1.out]; exact h2') (by rw [← hke]; exact strOf_inj e)
              replace d1 := ew.cell d1
              replace d2 := ew.cell d2
              generalize strOf (A.getD k []) = X at *
              generalize strOf (B.getD k []) = Y at *
              have t5 : (X.toList == Y.toList) = false := by
                rw [beq_eq_false_iff_ne]
                intro e
                rw [ByteArray.toList_eq, ByteArray.toList_eq] at e
                exact hdf (ByteArray.ext (Array.toList_inj.1 e))
              clear hlt hk ew hke hdf
              go_wp2_with fail
              go_quiet (fail)
              go_wp2_with fail
              go_ret2
              exact ⟨_, rfl, IntCode_mk HH.out, HE.out.trans (Hew.out.trans (Ext.drewN _ _))⟩
    · have hb2 : (c2 != 0) = true := by rw [bne_iff_ne]; exact h20
      by_cases h3 : c2 = 3
      · have HH := Lib.hid (H1.out (.inr h3))
        subst h10; subst h3
        clear H1 H2 H3 H4 Hx1 Hx2 hb2 h20
        go_wp2_with fail
        go_ret2
        exact ⟨_, rfl, IntCode_mk HH.out, HE.out⟩
      · have HH := Lib.hid (H2.out (.inr h20) (by omega))
        have hb3 : (c2 == 3) = false := by rw [beq_eq_false_iff_ne]; exact h3
        subst h10
        clear H1 H2 H3 H4 Hx1 Hx2 h20 h3
        go_wp2_with fail
        go_ret2
        exact ⟨_, rfl, IntCode_mk HH.out, HE.out⟩
  · have hb1 : (c1 != 0) = true := by rw [bne_iff_ne]; exact h10
    by_cases h3 : c1 = 3
    · have HH := Lib.hid (H1.out (.inl h3))
      subst h3
      clear H1 H2 H3 H4 Hx1 Hx2 hb1 h10
      go_wp2_with fail
      go_ret2
      exact ⟨_, rfl, IntCode_mk HH.out, HE.out⟩
    · have hb3 : (c1 == 3) = false := by rw [beq_eq_false_iff_ne]; exact h3
      by_cases h4 : c2 = 3
      · have HH := Lib.hid (H1.out (.inr h4))
        subst h4
        clear H1 H2 H3 H4 Hx1 Hx2 h10 h3
        go_wp2_with fail
        go_ret2
        exact ⟨_, rfl, IntCode_mk HH.out, HE.out⟩
      · have HH := Lib.hid (H2.out (.inl h10) (by omega))
        have hb4 : (c2 == 3) = false := by rw [beq_eq_false_iff_ne]; exact h4
        clear H1 H2 H3 H4 Hx1 Hx2 h10 h3 h4
        go_wp2_with fail
        go_ret2
        exact ⟨_, rfl, IntCode_mk HH.out, HE.out⟩
end Go.Proofs.YtejaobbdcnnknaaDoor
