/- Proved: a search of the program before its first step. -/
import Derived.Test.YthgmojggpjnckaaGreatUGoAll
namespace Go.Proofs.YthgmojggpjnckaaGreat
open Go.ChangeShapes Go.WideShapes Go.ChangeAt Go.RowKit
set_option linter.unusedVariables false

/-- a search of the program before its first step -/
theorem goAt_new {σ : Type} {w : World} {mk : MK} {v : Value} {limit : Int} {Fv : FuncId} {caps : Array Value} {Inv : (Nat → Prop) → σ → World → Prop} {G : Nat → Prop} {s : σ} {ty : TypeId}
    (hI : Inv G s (w.alloc (.cells #[.int .i64 mk.c, .int .i64 mk.d, .int .i64 mk.s, .int .i64 mk.m, .int .i64 mk.l, v, .int .i64 limit, .int .i64 0, .bool false, .func (.func Fv) #[] caps] ty))) (hG : ∀ k, G k → k < w.heap.size) :
    GoAt w.heap.size mk v limit Fv caps Inv (fun k => G k ∨ k = w.heap.size) ⟨0, false, s⟩ (w.alloc (.cells #[.int .i64 mk.c, .int .i64 mk.d, .int .i64 mk.s, .int .i64 mk.m, .int .i64 mk.l, v, .int .i64 limit, .int .i64 0, .bool false, .func (.func Fv) #[] caps] ty)) := by
  have hg := heap_alloc_new w (.cells #[.int .i64 mk.c, .int .i64 mk.d, .int .i64 mk.s, .int .i64 mk.m, .int .i64 mk.l, v, .int .i64 limit, .int .i64 0, .bool false, .func (.func Fv) #[] caps] ty)
  refine ⟨⟨?_, ?_, ?_, ?_, ?_, ?_⟩, ?_, ?_, ?_, ?_, frozen_of_row _ _ _ _ _ hg, frozen_of_row _ _ _ _ _ hg, .inr rfl, fun k hk => ?_, G, hI, fun k hk => ⟨.inl hk, by have := hG k hk; omega⟩⟩
  any_goals (rw [cell_of_row _ _ _ _ _ (0, 0) hg]; rfl)
  rw [World.size_alloc]
  rcases hk with hk | hk
  · have := hG k hk; omega
  · omega
end Go.Proofs.YthgmojggpjnckaaGreat
