/- Proved: partial cuts with one more key, the rows where they lie, the two copies in either order. -/
import Derived.Test.YthgmojggpjnckaaGreatUGoKit
import Derived.Test.YthgmojggpjnckaaGreatUPkF1
namespace Go.Proofs.YthgmojggpjnckaaGreat
open Go.ChangeShapes Go.WideShapes Go.ChangeAt Go.RowKit
set_option linter.unusedVariables false

/-- a copy of a list of rows (the rows where they lie) and a copy of a key, made one after the other, are joined -/
theorem run_joinC {P : Program} {e : TypeId} {base wa w7 wb w8 W : World} {v7 : Value} {xs : List (List Int)} {A : Nat → Prop} {u : Option Addr × Nat × Nat} {y : List Int} (t ty : TypeId) (ht : P.underlying t = some (.slice e)) (hinfo : (P.info? e).map (fun i => (i.zero, i.size, i.bytes)) = some (some (.slice Option.none 0 0), 1, 24))
    (o7 : OwnA false A IntsR e wa.heap.size w7 v7 xs) (o8 : IntsR (.new wb w8) w8 (slV u) y) (hn : xs.length + 1 ≤ 1099511627776) (ha : Ext base wa) (hb : Ext base wb) (ha7 : Ext wa w7) (hb8 : Ext wb w8)
    (hor : (Ext w7 wb ∧ Ext w8 W) ∨ (Ext w8 wa ∧ Ext w7 W)) {g : Nat} (hg : W.cell? ⟨g, 0, Option.none⟩ = some (slV u)) :
    ∃ v' w', (Builtin.append_ #[t, t] ty #[v7, .slice (some ⟨g, 0, Option.none⟩) 1 1]).run P W = .ok v' w' ∧ RowsA (fun k => A k ∨ base.heap.size ≤ k) w' v' (xs ++ [y]) ∧ Ext base w' := by
  have k1 := ha.size
  have k2 := hb.size
  have k3 := ha7.size
  have k4 := hb8.size
  have hW : Ext w7 W ∧ Ext w8 W := by
    rcases hor with ⟨h1, h2⟩ | ⟨h1, h2⟩
    · exact ⟨(h1.trans hb8).trans h2, h2⟩
    · exact ⟨h2, (h1.trans ha7).trans h2⟩
  have k5 := hW.1.size
  have k6 := hW.2.size
  have hbk := o7.block
  have hown : OwnA false A IntsR e wa.heap.size W v7 xs := OwnA.below stable_ints o7 hW.1
  obtain ⟨v', w', hr, ho, hgr, -⟩ := run_appendRowsY (P := P) (w := W) (w0 := W) (ad := ⟨g, 0, Option.none⟩) (cap := 1) (ys := [y]) stable_ints t ty ht hinfo (A := fun k => A k ∨ base.heap.size ≤ k) (fun k _ h => .inl h) hown (Below.refl _ _) (fun _ => .new wb w8) (fun _ _ h => by cases h)
    (fun _ _ k hk => ⟨.inr (by have := hk.1; simp only [Zone.new] at this; omega), by have := hk.2; simp only [Zone.new] at this; omega, fun e => by
      have h1 := hbk k e
      have h2 := hk.1
      have h3 := hk.2
      simp only [Zone.new] at h2 h3
      rcases hor with ⟨h, -⟩ | ⟨h, -⟩
      · have := h.size; omega
      · have := h.size; omega⟩) (fun h => by cases h) (fun h => by cases h)
    (fun j hj => by
      have : j = 0 := by simpa using hj
      subst this
      exact ⟨u, by rw [Addr.add_lit]; exact hg, fun _ => stable_ints.ext o8 hW.2⟩) (by simp) (by unfold maxLen; omega) (by simpa using hn) (by omega)
  have hbe : Below wa.heap.size W w' := (Below.refl _ _).grown hgr (by omega) (fun k hk => (hbk k hk).1)
  exact ⟨v', w', hr, RowsA.of_own ho (fun k h _ => h) (fun k hk => .inr (by have := (ho.block k hk).1; omega)), Below.trans ((ha.trans ha7).trans hW.1) (Below.mono hbe k1)⟩
end Go.Proofs.YthgmojggpjnckaaGreat
