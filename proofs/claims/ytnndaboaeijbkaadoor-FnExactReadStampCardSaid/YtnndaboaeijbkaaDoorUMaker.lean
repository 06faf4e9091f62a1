/- Proved: IsMaker: program and reference compute the same. -/
import Derived.Test.YtnndaboaeijbkaaDoorChecked
import Derived.Test.YtnndaboaeijbkaaDoorUWithin
import Derived.Test.YtnndaboaeijbkaaDoorUExt
namespace Go.Proofs.YtnndaboaeijbkaaDoor
open Go.ChangeShapes Go.WideShapes Go.ChangeAt Go.RowKit
set_option linter.unusedVariables false

/-- the numbers of a maker -/
structure MK where
  c : Int
  d : Int
  s : Int
  m : Int
  l : Int
def MK.v (m : MK) : Value := .agg #[.int .i64 m.c, .int .i64 m.d, .int .i64 m.s, .int .i64 m.m, .int .i64 m.l]
def MK.wide (m : MK) : Prop := I64 m.c ∧ I64 m.d ∧ I64 m.s ∧ I64 m.m ∧ I64 m.l
def isMaker (m : MK) : Bool := inB m.c 2 6 && (inB m.d 2 8 && (inB m.s 1 (m.d - 1) && (inB m.m 1 m.c && inB m.l 1 (min m.c m.d))))
theorem inB_iff {n lo hi : Int} : inB n lo hi = true ↔ lo ≤ n ∧ n ≤ hi := by simp [inB]
theorem isMaker_iff {m : MK} : isMaker m = true ↔ (2 ≤ m.c ∧ m.c ≤ 6) ∧ (2 ≤ m.d ∧ m.d ≤ 8) ∧ (1 ≤ m.s ∧ m.s ≤ m.d - 1) ∧ (1 ≤ m.m ∧ m.m ≤ m.c) ∧ (1 ≤ m.l ∧ m.l ≤ min m.c m.d) := by
  unfold isMaker; simp only [Bool.and_eq_true, inB_iff]

set_option maxRecDepth 20000 in
set_option maxHeartbeats 1000000 in
theorem IsMaker_c (w : World) (mk : MK) : Calls Tryd.prog 37 #[mk.v] w (Ret w fun r _ => r = .bool (isMaker mk)) := by
  obtain ⟨c, d, s, m, l⟩ := mk
  unfold MK.v isMaker
  simp only
  go_enter Tryd.func37, Tryd.ntmps37
  go_wp2_with fail
  generalize hw0 : World.alloc _ _ = w0
  have e0 : Ext w w0 := by rw [← hw0]; exact Ext.alloc _ _
  have c0 : w0.cell? ⟨w.heap.size, 0, none⟩ = some (.int .i64 c) := by rw [← hw0]; clear hw0; go_simp
  have c1 : w0.cell? ⟨w.heap.size, 1, none⟩ = some (.int .i64 d) := by rw [← hw0]; clear hw0; go_simp
  have c2 : w0.cell? ⟨w.heap.size, 2, none⟩ = some (.int .i64 s) := by rw [← hw0]; clear hw0; go_simp
  have c3 : w0.cell? ⟨w.heap.size, 3, none⟩ = some (.int .i64 m) := by rw [← hw0]; clear hw0; go_simp
  have c4 : w0.cell? ⟨w.heap.size, 4, none⟩ = some (.int .i64 l) := by rw [← hw0]; clear hw0; go_simp
  clear hw0
  have hcall := within_c w0 c 2 6
  refine Calls.mono hcall ?_
  rintro e w1 hr
  obtain ⟨rfl, hd, g0⟩ := retq_ext hr
  clear hr hcall
  have e1 := e0.trans g0
  replace c0 := (hd.cell _).trans c0
  replace c1 := (hd.cell _).trans c1
  replace c2 := (hd.cell _).trans c2
  replace c3 := (hd.cell _).trans c3
  replace c4 := (hd.cell _).trans c4
  cases h0 : inB c 2 6 with
  | false =>
    go_wp2_with fail
    go_ret
    exact ⟨.bool false, rfl, congrArg Value.bool (by simp [h0]), e1⟩
  | true =>
    have hcall := within_c w1 d 2 8
    go_wp2_with fail
    refine Calls.mono hcall ?_
    rintro e w2 hr
    obtain ⟨rfl, hd, g1⟩ := retq_ext hr
    clear hr hcall
    have e2 := e1.trans g1
    replace c0 := (hd.cell _).trans c0
    replace c1 := (hd.cell _).trans c1
    replace c2 := (hd.cell _).trans c2
    replace c3 := (hd.cell _).trans c3
    replace c4 := (hd.cell _).trans c4
    cases h1 : inB d 2 8 with
    | false =>
      go_wp2_with fail
      go_ret
      exact ⟨.bool false, rfl, congrArg Value.bool (by simp [h0, h1]), e2⟩
    | true =>
      have hd2 := inB_iff.1 h1
      have hcall := within_c w2 s 1 (d - 1)
      go_wp2_with fail
      refine Calls.mono hcall ?_
      rintro e w3 hr
      obtain ⟨rfl, hd, g2⟩ := retq_ext hr
      clear hr hcall
      have e3 := e2.trans g2
      replace c0 := (hd.cell _).trans c0
      replace c1 := (hd.cell _).trans c1
      replace c2 := (hd.cell _).trans c2
      replace c3 := (hd.cell _).trans c3
      replace c4 := (hd.cell _).trans c4
      cases h2 : inB s 1 (d - 1) with
      | false =>
        go_wp2_with fail
        go_ret
        exact ⟨.bool false, rfl, congrArg Value.bool (by simp [h0, h1, h2]), e3⟩
      | true =>
        have hcall := within_c w3 m 1 c
        go_wp2_with fail
        refine Calls.mono hcall ?_
        rintro e w4 hr
        obtain ⟨rfl, hd, g3⟩ := retq_ext hr
        clear hr hcall
        have e4 := e3.trans g3
        replace c0 := (hd.cell _).trans c0
        replace c1 := (hd.cell _).trans c1
        replace c2 := (hd.cell _).trans c2
        replace c3 := (hd.cell _).trans c3
        replace c4 := (hd.cell _).trans c4
        cases h3 : inB m 1 c with
        | false =>
          go_wp2_with fail
          go_ret
          exact ⟨.bool false, rfl, congrArg Value.bool (by simp [h0, h1, h2, h3]), e4⟩
        | true =>
          by_cases hcd : d < c
          · have hmin : min c d = d := by omega
            have hcall := within_c w4 l 1 d
            go_wp2_with fail
            refine Calls.mono hcall ?_
            rintro e w5 hr
            obtain ⟨rfl, hd, g4⟩ := retq_ext hr
            clear hr hcall
            have e5 := e4.trans g4
            replace c0 := (hd.cell _).trans c0
            replace c1 := (hd.cell _).trans c1
            replace c2 := (hd.cell _).trans c2
            replace c3 := (hd.cell _).trans c3
            replace c4 := (hd.cell _).trans c4
            cases h4 : inB l 1 d with
            | false =>
              go_wp2_with fail
              go_ret
              exact ⟨.bool false, rfl, congrArg Value.bool (by simp [h0, h1, h2, h3, hmin, h4]), e5⟩
            | true =>
              go_wp2_with fail
              go_ret
              exact ⟨.bool true, rfl, congrArg Value.bool (by simp [h0, h1, h2, h3, hmin, h4]), e5⟩
          · have hmin : min c d = c := by omega
            have hcall := within_c w4 l 1 c
            go_wp2_with fail
            refine Calls.mono hcall ?_
            rintro e w5 hr
            obtain ⟨rfl, hd, g4⟩ := retq_ext hr
            clear hr hcall
            have e5 := e4.trans g4
            replace c0 := (hd.cell _).trans c0
            replace c1 := (hd.cell _).trans c1
            replace c2 := (hd.cell _).trans c2
            replace c3 := (hd.cell _).trans c3
            replace c4 := (hd.cell _).trans c4
            cases h4 : inB l 1 c with
            | false =>
              go_wp2_with fail
              go_ret
              exact ⟨.bool false, rfl, congrArg Value.bool (by simp [h0, h1, h2, h3, hmin, h4]), e5⟩
            | true =>
              go_wp2_with fail
              go_ret
              exact ⟨.bool true, rfl, congrArg Value.bool (by simp [h0, h1, h2, h3, hmin, h4]), e5⟩

set_option maxRecDepth 20000 in
set_option maxHeartbeats 1000000 in
theorem IsMakerSpec_c (w : World) (mk : MK) : Calls Tryd.prog 20 #[mk.v] w (Ret w fun r _ => r = .bool (isMaker mk)) := by
  obtain ⟨c, d, s, m, l⟩ := mk
  unfold MK.v isMaker
  simp only
  go_enter Tryd.func20, Tryd.ntmps20
  go_wp2_with fail
  generalize hw0 : World.alloc _ _ = w0
  have e0 : Ext w w0 := by rw [← hw0]; exact Ext.alloc _ _
  have c0 : w0.cell? ⟨w.heap.size, 0, none⟩ = some (.int .i64 c) := by rw [← hw0]; clear hw0; go_simp
  have c1 : w0.cell? ⟨w.heap.size, 1, none⟩ = some (.int .i64 d) := by rw [← hw0]; clear hw0; go_simp
  have c2 : w0.cell? ⟨w.heap.size, 2, none⟩ = some (.int .i64 s) := by rw [← hw0]; clear hw0; go_simp
  have c3 : w0.cell? ⟨w.heap.size, 3, none⟩ = some (.int .i64 m) := by rw [← hw0]; clear hw0; go_simp
  have c4 : w0.cell? ⟨w.heap.size, 4, none⟩ = some (.int .i64 l) := by rw [← hw0]; clear hw0; go_simp
  clear hw0
  have hcall := l01In_c w0 c 2 6
  refine Calls.mono hcall ?_
  rintro e w1 hr
  obtain ⟨rfl, hd, g0⟩ := retq_ext hr
  clear hr hcall
  have e1 := e0.trans g0
  replace c0 := (hd.cell _).trans c0
  replace c1 := (hd.cell _).trans c1
  replace c2 := (hd.cell _).trans c2
  replace c3 := (hd.cell _).trans c3
  replace c4 := (hd.cell _).trans c4
  cases h0 : inB c 2 6 with
  | false =>
    go_wp2_with fail
    go_ret
    exact ⟨.bool false, rfl, congrArg Value.bool (by simp [h0]), e1⟩
  | true =>
    have hcall := l01In_c w1 d 2 8
    go_wp2_with fail
    refine Calls.mono hcall ?_
    rintro e w2 hr
    obtain ⟨rfl, hd, g1⟩ := retq_ext hr
    clear hr hcall
    have e2 := e1.trans g1
    replace c0 := (hd.cell _).trans c0
    replace c1 := (hd.cell _).trans c1
    replace c2 := (hd.cell _).trans c2
    replace c3 := (hd.cell _).trans c3
    replace c4 := (hd.cell _).trans c4
    cases h1 : inB d 2 8 with
    | false =>
      go_wp2_with fail
      go_ret
      exact ⟨.bool false, rfl, congrArg Value.bool (by simp [h0, h1]), e2⟩
    | true =>
      have hd2 := inB_iff.1 h1
      have hcall := l01In_c w2 s 1 (d - 1)
      go_wp2_with fail
      refine Calls.mono hcall ?_
      rintro e w3 hr
      obtain ⟨rfl, hd, g2⟩ := retq_ext hr
      clear hr hcall
      have e3 := e2.trans g2
      replace c0 := (hd.cell _).trans c0
      replace c1 := (hd.cell _).trans c1
      replace c2 := (hd.cell _).trans c2
      replace c3 := (hd.cell _).trans c3
      replace c4 := (hd.cell _).trans c4
      cases h2 : inB s 1 (d - 1) with
      | false =>
        go_wp2_with fail
        go_ret
        exact ⟨.bool false, rfl, congrArg Value.bool (by simp [h0, h1, h2]), e3⟩
      | true =>
        have hcall := l01In_c w3 m 1 c
        go_wp2_with fail
        refine Calls.mono hcall ?_
        rintro e w4 hr
        obtain ⟨rfl, hd, g3⟩ := retq_ext hr
        clear hr hcall
        have e4 := e3.trans g3
        replace c0 := (hd.cell _).trans c0
        replace c1 := (hd.cell _).trans c1
        replace c2 := (hd.cell _).trans c2
        replace c3 := (hd.cell _).trans c3
        replace c4 := (hd.cell _).trans c4
        cases h3 : inB m 1 c with
        | false =>
          go_wp2_with fail
          go_ret
          exact ⟨.bool false, rfl, congrArg Value.bool (by simp [h0, h1, h2, h3]), e4⟩
        | true =>
          by_cases hcd : d < c
          · have hmin : min c d = d := by omega
            have hcall := l01In_c w4 l 1 d
            go_wp2_with fail
            refine Calls.mono hcall ?_
            rintro e w5 hr
            obtain ⟨rfl, hd, g4⟩ := retq_ext hr
            clear hr hcall
            have e5 := e4.trans g4
            replace c0 := (hd.cell _).trans c0
            replace c1 := (hd.cell _).trans c1
            replace c2 := (hd.cell _).trans c2
            replace c3 := (hd.cell _).trans c3
            replace c4 := (hd.cell _).trans c4
            cases h4 : inB l 1 d with
            | false =>
              go_wp2_with fail
              go_ret
              exact ⟨.bool false, rfl, congrArg Value.bool (by simp [h0, h1, h2, h3, hmin, h4]), e5⟩
            | true =>
              go_wp2_with fail
              go_ret
              exact ⟨.bool true, rfl, congrArg Value.bool (by simp [h0, h1, h2, h3, hmin, h4]), e5⟩

          · have hmin : min c d = c := by omega
            have hcall := l01In_c w4 l 1 c
            go_wp2_with fail
            refine Calls.mono hcall ?_
            rintro e w5 hr
            obtain ⟨rfl, hd, g4⟩ := retq_ext hr
            clear hr hcall
            have e5 := e4.trans g4
            replace c0 := (hd.cell _).trans c0
            replace c1 := (hd.cell _).trans c1
            replace c2 := (hd.cell _).trans c2
            replace c3 := (hd.cell _).trans c3
            replace c4 := (hd.cell _).trans c4
            cases h4 : inB l 1 c with
            | false =>
              go_wp2_with fail
              go_ret
              exact ⟨.bool false, rfl, congrArg Value.bool (by simp [h0, h1, h2, h3, hmin, h4]), e5⟩
            | true =>
              go_wp2_with fail
              go_ret
              exact ⟨.bool true, rfl, congrArg Value.bool (by simp [h0, h1, h2, h3, hmin, h4]), e5⟩
end Go.Proofs.YtnndaboaeijbkaaDoor
