/- Proved: an argument that can be read as data is a system. -/
import Derived.Test.YtgagjibjnaappaaUOpen
import Derived.Test.YtgagjibjnaappaaUSys
namespace Go.Proofs.Ytgagjibjnaappaa
open Go.ChangeShapes Go.WideShapes Go.ChangeAt Go.RowKit
set_option linter.unusedVariables false
open Go.Deep

section
variable {H : Type} {enc : TypeId × Value → H} {P : Program} {w : World} {held : Bool}
theorem array6 {α : Type} {cs : Array α} (h : cs.size = 6) : ∃ c0 c1 c2 c3 c4 c5, cs = #[c0, c1, c2, c3, c4, c5] := by
  obtain ⟨l⟩ := cs
  match l, h with
  | [c0, c1, c2, c3, c4, c5], _ => exact ⟨c0, c1, c2, c3, c4, c5, rfl⟩
/-- a field of one cell that holds an integer -/
def IntField (P : Program) (g : Field) (i : Nat) : Prop := g.offset = i ∧ P.cellsOf g.type = 1 ∧ P.underlying g.type = some (.int .i64)
theorem open_sys {r : Reach} {b0 : Nat} {t : TypeId} {f0 f1 g0 g1 g2 g3 g4 : Field} {v : Value} {d : DataW H} {p : List MemPlace} (hs : P.underlying t = some (.struct #[f0, f1])) (hg : P.underlying f0.type = some (.struct #[g0, g1, g2, g3, g4]))
    (hC : P.cellsOf t = 6) (hC0 : P.cellsOf f0.type = 5) (hC1 : P.cellsOf f1.type = 1) (ho0 : f0.offset = 0) (ho1 : f1.offset = 5)
    (i0 : IntField P g0 0) (i1 : IntField P g1 1) (i2 : IntField P g2 2) (i3 : IntField P g3 3) (i4 : IntField P g4 4)
    (hv : Value.okWide P w r b0 t v) (h : DataW.Trod enc P w 0 (fun _ => true) held t v d p) :
    ∃ (mk : MK) (u : Value) (y : DataW H × List MemPlace) (n : Nat), v = sysV mk u ∧ mk.wide ∧ DataW.trod enc P w 0 (fun _ => true) held n f1.type [u] = some y := by
  obtain ⟨cs, rfl, hsz⟩ := okWide_struct hs hv
  obtain ⟨c0, c1, c2, c3, c4, c5, rfl⟩ := array6 (hsz.trans hC)
  obtain ⟨fuel, hf⟩ := h
  obtain ⟨xs, n, -, -, -, hxl, hx⟩ := DataW.trod_struct hs hf
  have h0 := hx 0 f0 rfl
  have h1 := hx 1 f1 rfl
  rw [ho0, hC0] at h0
  rw [ho1, hC1] at h1
  match xs, hxl with
  | [y0, y1], _ =>
    simp only [Value.cells, List.getElem?_cons_zero, List.getElem?_cons_succ, List.drop_zero, List.take_succ_cons, List.take_zero, List.drop_succ_cons] at h0 h1
    obtain ⟨zs, m, -, -, -, hzl, hz⟩ := DataW.trod_struct hg h0
    have q0 := hz 0 g0 rfl
    have q1 := hz 1 g1 rfl
    have q2 := hz 2 g2 rfl
    have q3 := hz 3 g3 rfl
    have q4 := hz 4 g4 rfl
    rw [i0.1, i0.2.1] at q0
    rw [i1.1, i1.2.1] at q1
    rw [i2.1, i2.2.1] at q2
    rw [i3.1, i3.2.1] at q3
    rw [i4.1, i4.2.1] at q4
    match zs, hzl with
    | [z0, z1, z2, z3, z4], _ =>
      simp only [List.getElem?_cons_zero, List.getElem?_cons_succ, List.drop_zero, List.take_succ_cons, List.take_zero, List.drop_succ_cons] at q0 q1 q2 q3 q4
      obtain ⟨a0, rfl, w0⟩ := open_I64 i0.2.2 q0
      obtain ⟨a1, rfl, w1⟩ := open_I64 i1.2.2 q1
      obtain ⟨a2, rfl, w2⟩ := open_I64 i2.2.2 q2
      obtain ⟨a3, rfl, w3⟩ := open_I64 i3.2.2 q3
      obtain ⟨a4, rfl, w4⟩ := open_I64 i4.2.2 q4
      exact ⟨⟨a0, a1, a2, a3, a4⟩, c5, y1, n, rfl, ⟨w0, w1, w2, w3, w4⟩, by simpa using h1⟩
end
end Go.Proofs.Ytgagjibjnaappaa
