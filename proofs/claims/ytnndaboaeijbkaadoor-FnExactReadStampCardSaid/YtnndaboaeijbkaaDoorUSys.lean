/- Proved: a system in memory, and the rows that open a door. -/
import Derived.Test.YtnndaboaeijbkaaDoorChecked
import Derived.Test.YtnndaboaeijbkaaDoorUSysLaw
namespace Go.Proofs.YtnndaboaeijbkaaDoor
open Go.ChangeShapes Go.WideShapes Go.ChangeAt Go.RowKit
set_option linter.unusedVariables false

def sysV (mk : MK) (u : Value) : Value := .agg #[.int .i64 mk.c, .int .i64 mk.d, .int .i64 mk.s, .int .i64 mk.m, .int .i64 mk.l, u]
/-- a system by value lies in block b -/
structure SysAt (w : World) (b : Nat) (mk : MK) (u : Value) : Prop where
  c0 : w.cell? ⟨b, 0, none⟩ = some (.int .i64 mk.c)
  c1 : w.cell? ⟨b, 1, none⟩ = some (.int .i64 mk.d)
  c2 : w.cell? ⟨b, 2, none⟩ = some (.int .i64 mk.s)
  c3 : w.cell? ⟨b, 3, none⟩ = some (.int .i64 mk.m)
  c4 : w.cell? ⟨b, 4, none⟩ = some (.int .i64 mk.l)
  c5 : w.cell? ⟨b, 5, none⟩ = some u
theorem sys_box {w w0 : World} {mk : MK} {u : Value} {t : TypeId} (h : w.alloc (.cells #[.int .i64 mk.c, .int .i64 mk.d, .int .i64 mk.s, .int .i64 mk.m, .int .i64 mk.l, u] t) = w0) : Ext w w0 ∧ SysAt w0 w.heap.size mk u := by
  subst h
  exact ⟨Ext.alloc _ _, by simp, by simp, by simp, by simp, by simp, by simp⟩
theorem SysAt.ext {w w' : World} {b : Nat} {mk : MK} {u : Value} (h : SysAt w b mk u) (e : Ext w w') : SysAt w' b mk u := ⟨e.cell h.c0, e.cell h.c1, e.cell h.c2, e.cell h.c3, e.cell h.c4, e.cell h.c5⟩
theorem SysAt.drew {w w' : World} {b : Nat} {mk : MK} {u : Value} (h : SysAt w b mk u) (e : Drew w w') : SysAt w' b mk u := h.ext (Ext.ofDrew e)
theorem SysAt.all {w w' : World} {b : Nat} {mk : MK} {u : Value} (h : SysAt w b mk u) (e : Ext w w') : w'.cell? ⟨b, 0, none⟩ = some (.int .i64 mk.c) ∧ w'.cell? ⟨b, 1, none⟩ = some (.int .i64 mk.d) ∧ w'.cell? ⟨b, 2, none⟩ = some (.int .i64 mk.s) ∧ w'.cell? ⟨b, 3, none⟩ = some (.int .i64 mk.m) ∧ w'.cell? ⟨b, 4, none⟩ = some (.int .i64 mk.l) ∧ w'.cell? ⟨b, 5, none⟩ = some u :=
  ⟨e.cell h.c0, e.cell h.c1, e.cell h.c2, e.cell h.c3, e.cell h.c4, e.cell h.c5⟩
theorem MK.veq (mk : MK) : mk.v = .agg #[.int .i64 mk.c, .int .i64 mk.d, .int .i64 mk.s, .int .i64 mk.m, .int .i64 mk.l] := rfl
theorem Ext.lt {w w' : World} (h : Ext w w') {b : Nat} (hb : b < w.heap.size) : b < w'.heap.size := Nat.lt_of_lt_of_le hb h.size
theorem SysAt.lt {w : World} {b : Nat} {mk : MK} {u : Value} (h : SysAt w b mk u) : b < w.heap.size := World.block_lt_of_cell? _ _ h.c0

/-- row k of a table, in any later world: where its slice lies, and its elements -/
theorem rows_at {w : World} {a : Option Addr} {n cap : Nat} {z : Zone} {t : List (List Int)} (h : RowsR z w (.slice a n cap) t) {k : Nat} (hk : k < n) :
    ∃ b off, a = some ⟨b, off, none⟩ ∧ ∃ a1 n1 c1, n1 = (t.getD k []).length ∧ n1 ≤ 9223372036854775807 ∧ n1 ≤ c1 ∧ (∀ w', Ext w w' → w'.cell? ⟨b, off + k, none⟩ = some (.slice a1 n1 c1)) ∧ (∃ y : Zone, y.Sub ⟨z.lo, z.hi, false⟩ ∧ ∀ w', Ext w w' → IntsR y w' (.slice a1 n1 c1) (t.getD k [])) ∧
      ∀ j, j < n1 → ∃ b1 o1, a1 = some ⟨b1, o1, none⟩ ∧ I64 ((t.getD k []).getD j 0) ∧ ∀ w', Ext w w' → w'.cell? ⟨b1, o1 + j, none⟩ = some (.int .i64 ((t.getD k []).getD j 0)) := by
  obtain ⟨a', n', c', he, hn, -, hel⟩ := SliceR.elem stable_ints h
  injection he with e1 e2 e3
  subst e1; subst e2; subst e3
  obtain ⟨b, off, rfl, hb, u, hc, hu⟩ := hel k (by omega)
  have e0 : t[k]'(by omega) = t.getD k [] := by simp [show k < t.length by omega]
  rw [e0] at hu
  obtain ⟨a1, n1, c1, rfl, hn1, hm1, hcap, -, -, h1⟩ := IntsR.shape hu
  refine ⟨b, off, rfl, a1, n1, c1, hn1, hm1, hcap, fun w' e => e.cell hc, ⟨_, Zone.Sub.refl _, fun w' e => stable_ints.ext hu e⟩, fun j hj => ?_⟩
  obtain ⟨b1, o1, rfl, hx, hi, -⟩ := h1 j hj
  exact ⟨b1, o1, rfl, hi, fun w' e => e.cell hx⟩
end Go.Proofs.YtnndaboaeijbkaaDoor
