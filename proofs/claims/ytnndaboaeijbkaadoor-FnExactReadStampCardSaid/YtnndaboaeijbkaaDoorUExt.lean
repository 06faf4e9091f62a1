/- Proved: a later world: what was there is as it was. -/
import Derived.Test.YtnndaboaeijbkaaDoorUBase2
namespace Go.Proofs.YtnndaboaeijbkaaDoor
open Go.ChangeShapes Go.WideShapes Go.ChangeAt Go.RowKit
set_option linter.unusedVariables false

/-- a later world: what was there is as it was -/
def Ext (w w' : World) : Prop := Below w.heap.size w w'
theorem Ext.of {w w' : World} (h : Below w.heap.size w w') : Ext w w' := h
theorem Ext.below {w w' : World} (h : Ext w w') : Below w.heap.size w w' := h
theorem Ext.refl (w : World) : Ext w w := Below.refl _ _
theorem Ext.trans {a b c : World} (h : Ext a b) (k : Ext b c) : Ext a c := Below.trans h (Below.mono k (Below.size h))
theorem Ext.alloc (w : World) (o : Obj) : Ext w (w.alloc o) := (Below.refl _ _).alloc (Nat.le_refl _) o
theorem Ext.drew (w : World) : Ext w w.drew := (Below.refl _ _).drew
theorem Ext.drewN (w : World) (n : Nat) : Ext w (w.drewN n) := (Below.refl _ _).drewN n
theorem Ext.ofDrew {w w' : World} (h : Drew w w') : Ext w w' := h.below _
theorem Ext.size {w w' : World} (h : Ext w w') : w.heap.size ≤ w'.heap.size := Below.size h
theorem Ext.cell {w w' : World} (h : Ext w w') {p : Addr} {u : Value} (hc : w.cell? p = some u) : w'.cell? p = some u := (Below.cell h (World.block_lt_of_cell? _ _ hc)).trans hc
theorem Ext.to {a w w' : World} {B : Nat} (h : Ext w w') (k : Below B a w) (hB : B ≤ w.heap.size) : Below B a w' := k.trans (Below.mono h hB)
theorem Ext.to' {a w w' : World} (h : Ext a w) (k : Below a.heap.size w w') : Ext a w' := Below.trans h k
theorem Stable.ext {α : Type} {E : Repr α} (hE : Stable E) {z w w' v x} (h : E z w v x) (he : Ext w w') : E z w' v x := hE.below h he
theorem Stable.grow {α : Type} {E : Repr α} (hE : Stable E) {w a b c v x} (h : E (.new a b) b v x) (h1 : Ext w a) (h2 : Ext b c) : E (.new w c) c v x :=
  hE.sub (hE.ext h h2) ⟨fun k hk => ⟨Nat.le_trans h1.size hk.1, Nat.lt_of_lt_of_le hk.2 h2.size⟩, fun _ => rfl⟩
theorem ints_one (w : World) (d : Int) (e : TypeId) (hd : I64 d) : IntsR ⟨w.heap.size, (w.alloc (.cells #[.int .i64 d] e)).heap.size, true⟩ (w.alloc (.cells #[.int .i64 d] e)) (.slice (some ⟨w.heap.size, 0, none⟩) 1 1) [d] :=
  OwnP.ints (OwnP.one (Nat.le_refl _) d) (by intro y hy; rw [List.mem_singleton.1 hy]; exact hd) (Nat.le_refl _)
theorem ints_one_at {w : World} {g : Nat} (hg : w.heap.size = g) (d : Int) (e : TypeId) (hd : I64 d) : IntsR ⟨w.heap.size, (w.alloc (.cells #[.int .i64 d] e)).heap.size, true⟩ (w.alloc (.cells #[.int .i64 d] e)) (.slice (some ⟨g, 0, none⟩) 1 1) [d] := by
  subst hg; exact ints_one w d e hd
/-- a struct of two words by value lies in a block of its own -/
theorem box2 (w : World) (x y : Value) (t : TypeId) : Ext w (w.alloc (.cells #[x, y] t)) ∧ (w.alloc (.cells #[x, y] t)).cell? ⟨w.heap.size, 0, none⟩ = some x ∧ (w.alloc (.cells #[x, y] t)).cell? ⟨w.heap.size, 1, none⟩ = some y ∧ (w.alloc (.cells #[x, y] t)).heap.size = w.heap.size + 1 :=
  ⟨Ext.alloc _ _, by simp, by simp, by simp⟩
theorem Ret.mk {w w' : World} {P : Value → World → Prop} {v : Value} (h : P v w') (he : Ext w w') : Ret w P (.returned v) w' := ⟨v, rfl, h, he⟩
theorem ret_ext {w w' : World} {P : Value → World → Prop} {e : Ending} (h : Ret w P e w') : ∃ v, e = .returned v ∧ P v w' ∧ Ext w w' := h
theorem retq_ext {w w' : World} {v : Value} {e : Ending} (h : RetQ w v e w') : e = .returned v ∧ Drew w w' ∧ Ext w w' := ⟨h.1, h.2, h.2.below _⟩
theorem OwnP.ext {α : Type} {f : α → Value} {e : TypeId} {B : Nat} {w w' : World} {v : Value} {xs : List α} (h : OwnP f e B w v xs) (he : Ext w w') : OwnP f e B w' v xs := h.below he
theorem OwnP.grow {α : Type} {f : α → Value} {e : TypeId} {w a b c : World} {v : Value} {xs : List α} (h : OwnP f e a.heap.size b v xs) (h1 : Ext w a) (h2 : Ext b c) : OwnP f e w.heap.size c v xs := by
  obtain ⟨g1, g2⟩ := h.below h2
  refine ⟨g1, ?_⟩
  rcases g2 with g2 | ⟨g, cap, cur, hv, hb, r⟩
  · exact .inl g2
  · exact .inr ⟨g, cap, cur, hv, Nat.le_trans h1.size hb, r⟩
theorem OwnP.lower {α : Type} {f : α → Value} {e : TypeId} {B B' : Nat} {w : World} {v : Value} {xs : List α} (h : OwnP f e B w v xs) (hB : B' ≤ B) : OwnP f e B' w v xs := by
  obtain ⟨h1, h2⟩ := h
  refine ⟨h1, ?_⟩
  rcases h2 with h2 | ⟨g, cap, cur, hv, hb, r⟩
  · exact .inl h2
  · exact .inr ⟨g, cap, cur, hv, Nat.le_trans hB hb, r⟩
/-- element k of a row of the call's own, by getD -/
theorem OwnP.elem {α : Type} {f : α → Value} {e : TypeId} {B : Nat} {w : World} {a : Option Addr} {n cap : Nat} {xs : List α} (h : OwnP f e B w (.slice a n cap) xs) (d : α) (k : Nat) (hk : k < n) :
    ∃ g, a = some ⟨g, 0, Option.none⟩ ∧ B ≤ g ∧ g < w.heap.size ∧ w.cell? ⟨g, k, Option.none⟩ = some (f (xs.getD k d)) ∧ w.frozen? ⟨g, k, Option.none⟩ = false := by
  obtain ⟨a', n', cap', he, hn, -, hel⟩ := h.shape
  injection he with e1 e2 e3
  subst e1; subst e2; subst e3
  obtain ⟨g, h1, h2, h3, h4, h5⟩ := hel k (by omega)
  have hk' : k < xs.length := by omega
  exact ⟨g, h1, h2, h3, by simpa [hk'] using h4, h5⟩
end Go.Proofs.YtnndaboaeijbkaaDoor
