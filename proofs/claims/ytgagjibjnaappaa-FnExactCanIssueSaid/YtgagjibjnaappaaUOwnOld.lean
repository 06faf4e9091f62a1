/- Proved: an append of one slice that lies elsewhere. -/
import Derived.Test.YtgagjibjnaappaaUOwnRows
import Derived.Test.YtgagjibjnaappaaUExt
namespace Go.Proofs.Ytgagjibjnaappaa
open Go.ChangeShapes Go.WideShapes Go.ChangeAt Go.RowKit
set_option linter.unusedVariables false

section
variable {α : Type} {b : Bool} {A A0 : Nat → Prop} {E : Repr α} {e : TypeId} {B : Nat} {w w' : World} {v : Value} {xs : List α}
theorem run_appendOld {P : Program} (hE : Stable E) (t ty : TypeId) (ht : P.underlying t = some (.slice e)) (hinfo : (P.info? e).map (fun i => (i.zero, i.size, i.bytes)) = some (some (.slice Option.none 0 0), 1, 24))
    (hA : ∀ k, k < w.heap.size → A0 k → A k) (hown : OwnA b A0 E e B w v xs) {u : Option Addr × Nat × Nat} {y : α} {Y : Zone} (hu : E Y w (slV u) y) (hyo : b = true → Y.own = true)
    (hz : ∀ k, Y.Has k → A k ∧ k < w.heap.size ∧ v.ownBlock ≠ some k ∧ (b = true → ¬ A0 k)) {g : Nat} (hg : w.heap.size = g) (hn : xs.length + 1 ≤ 1099511627776) (hB : B ≤ w.heap.size) :
    ∃ v' w', (Builtin.append_ #[t, t] ty #[v, .slice (some ⟨g, 0, Option.none⟩) 1 1]).run P (w.alloc (.cells #[slV u] e)) = .ok v' w' ∧
      (OwnA b A E e B w' v' (xs ++ [y]) ∧ Below B w w' ∧ w.grownBy w' v.ownBlock ∧ ∀ k, v'.ownBlock = some k → v.ownBlock = some k ∨ w.heap.size ≤ k) := by
  subst hg
  have hbk := hown.block
  have hb : Below w.heap.size w (w.alloc (.cells #[slV u] e)) := (Below.refl _ _).alloc (Nat.le_refl _) _
  obtain ⟨v', w', hr, ho, hgr, hat⟩ := run_appendRowsY (P := P) (w := w.alloc (.cells #[slV u] e)) (ad := ⟨w.heap.size, 0, Option.none⟩) (cap := 1) (ys := [y]) hE t ty ht hinfo hA hown hb (fun _ => Y) (fun _ _ => hyo)
    (fun _ _ k hk => ⟨(hz k hk).1, by have := (hz k hk).2.1; simp; omega, (hz k hk).2.2.1⟩) (fun hb _ _ k hk _ => (hz k hk).2.2.2 hb) (fun _ i j hij hj => by simp at hj; omega)
    (fun j hj => by
      have : j = 0 := by simpa using hj
      subst this
      exact ⟨u, by rw [Addr.add_lit]; simp, fun _ => hE.below hu hb⟩) (by simp) (by unfold maxLen; omega) (by simpa using hn) hB
  have hg' : w.grownBy w' v.ownBlock := grownBy_trans (World.grownBy_alloc w _ _) hgr
  refine ⟨v', w', hr, ho, (Below.refl B w).grown hg' hB (fun k hk => (hbk k hk).1), hg', fun k hk => ?_⟩
  rcases hat with hat | hat
  · exact .inl (hat ▸ hk)
  · right; rw [hat] at hk; injection hk with hk; simp at hk; omega
end
end Go.Proofs.Ytgagjibjnaappaa
