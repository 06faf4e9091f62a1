/- Proved: the program's search in memory, over any visit of designs. -/
import Derived.Test.YthgmojggpjnckaaGreatChecked
import Derived.Test.YthgmojggpjnckaaGreatUSearchV
import Derived.Test.YthgmojggpjnckaaGreatUEachKept
import Derived.Test.YthgmojggpjnckaaGreatUPkB
import Derived.Test.YthgmojggpjnckaaGreatUPkE
namespace Go.Proofs.YthgmojggpjnckaaGreat
open Go.ChangeShapes Go.WideShapes Go.ChangeAt Go.RowKit
set_option linter.unusedVariables false

/-- a visit of designs: a state whose invariant hangs on the blocks F alone -/
structure VisitD {σ : Type} (Fv : FuncId) (caps : Array Value) (w0 : World) (F0 : Nat → Prop) (Inv : (Nat → Prop) → σ → World → Prop) (step : σ → List (List Int) → σ) (more : σ → List (List Int) → Bool) (msz : σ → Nat) (Ok : List (List Int) → Prop) : Prop where
  goes : Goes Tryz.prog Fv
  size : ∀ s x, msz (step s x) ≤ msz s + 1
  keep : ∀ {F s w w'}, Inv F s w → (∀ k, F k → w'.heap[k]? = w.heap[k]?) → w.heap.size ≤ w'.heap.size → Inv F s w'
  fresh : ∀ {F s w}, Inv F s w → ∀ k, F k → k < w.heap.size
  call : ∀ {F s} (w : World) (u : Value) (z : Zone) (x : List (List Int)), Inv F s w → (∀ k, F k → F0 k ∨ w0.heap.size ≤ k) → Kept F0 w0 w → RowsR z w u x → Ok x → msz s < 4000 → Calls Tryz.prog Fv (#[u] ++ caps) w (fun e w' => e = .returned (.bool (more s x)) ∧ ∃ F', Inv F' (step s x) w' ∧ (∀ k, F' k → F k ∨ w.heap.size ≤ k) ∧ Frame F w w')
/-- block g holds the program's search -/
structure GoAt {σ : Type} (g : Nat) (mk : MK) (v : Value) (limit : Int) (Fv : FuncId) (caps : Array Value) (Inv : (Nat → Prop) → σ → World → Prop) (F : Nat → Prop) (s : GS σ) (w : World) : Prop where
  sys : SysAt w g mk v
  c6 : w.cell? ⟨g, 6, none⟩ = some (.int .i64 limit)
  c7 : w.cell? ⟨g, 7, none⟩ = some (.int .i64 s.tries)
  c8 : w.cell? ⟨g, 8, none⟩ = some (.bool s.over)
  c9 : w.cell? ⟨g, 9, none⟩ = some (.func (.func Fv) #[] caps)
  f7 : w.frozen? ⟨g, 7, none⟩ = false
  f8 : w.frozen? ⟨g, 8, none⟩ = false
  box : F g
  lt : ∀ k, F k → k < w.heap.size
  val : ∃ G, Inv G s.val w ∧ ∀ k, G k → F k ∧ k ≠ g
section
variable {σ : Type} {g : Nat} {mk : MK} {v : Value} {limit : Int} {Fv : FuncId} {caps : Array Value} {w0 : World} {F0 : Nat → Prop} {Inv : (Nat → Prop) → σ → World → Prop} {step : σ → List (List Int) → σ} {more : σ → List (List Int) → Bool} {msz : σ → Nat} {Ok : List (List Int) → Prop} {F : Nat → Prop} {s : GS σ} {w w' : World}
theorem GoAt.keep (V : VisitD Fv caps w0 F0 Inv step more msz Ok) (h : GoAt g mk v limit Fv caps Inv F s w) (hb : ∀ k, F k → w'.heap[k]? = w.heap[k]?) (hs : w.heap.size ≤ w'.heap.size) : GoAt g mk v limit Fv caps Inv F s w' := by
  have hg := hb g h.box
  obtain ⟨G, h1, h2⟩ := h.val
  exact ⟨h.sys.of hg, (World.cell?_of_block hg).trans h.c6, (World.cell?_of_block hg).trans h.c7, (World.cell?_of_block hg).trans h.c8, (World.cell?_of_block hg).trans h.c9, (World.frozen?_of_block hg).trans h.f7, (World.frozen?_of_block hg).trans h.f8, h.box,
    fun k hk => Nat.lt_of_lt_of_le (h.lt k hk) hs, G, V.keep h1 (fun k hk => hb k (h2 k hk).1) hs, h2⟩
theorem GoAt.ext (V : VisitD Fv caps w0 F0 Inv step more msz Ok) (h : GoAt g mk v limit Fv caps Inv F s w) (e : Ext w w') : GoAt g mk v limit Fv caps Inv F s w' := h.keep V (fun k hk => Below.block e k (h.lt k hk)) e.size
theorem go_other {i : Nat} {u : Value} {k : Nat} (hk : k ≠ g) : (w.setCell ⟨g, i, none⟩ u).heap[k]? = w.heap[k]? := Below.heap_setCell _ _ _ _ hk
theorem go_size {i : Nat} {u : Value} : (w.setCell ⟨g, i, none⟩ u).heap.size = w.heap.size := by simp [World.setCell]
theorem GoAt.tries (V : VisitD Fv caps w0 F0 Inv step more msz Ok) (h : GoAt g mk v limit Fv caps Inv F s w) (x : Int) : GoAt g mk v limit Fv caps Inv F ⟨x, s.over, s.val⟩ (w.setCell ⟨g, 7, none⟩ (.int .i64 x)) := by
  obtain ⟨⟨s0, s1, s2, s3, s4, s5⟩, c6, c7, c8, c9, f7, f8, bx, lt, G, g1, g2⟩ := h
  refine ⟨⟨?_, ?_, ?_, ?_, ?_, ?_⟩, ?_, World.cell?_setCell_same _ _ _ c7, ?_, ?_, by rw [World.frozen?_setCell]; exact f7, by rw [World.frozen?_setCell]; exact f8, bx, fun k hk => by rw [go_size]; exact lt k hk, G, V.keep g1 (fun k hk => go_other (g2 k hk).2) (by rw [go_size]; exact Nat.le_refl _), g2⟩
  all_goals (rw [World.cell?_setCell_other _ _ _ _ (by simp)]; assumption)
theorem GoAt.broken (V : VisitD Fv caps w0 F0 Inv step more msz Ok) (h : GoAt g mk v limit Fv caps Inv F s w) (x : Bool) : GoAt g mk v limit Fv caps Inv F ⟨s.tries, x, s.val⟩ (w.setCell ⟨g, 8, none⟩ (.bool x)) := by
  obtain ⟨⟨s0, s1, s2, s3, s4, s5⟩, c6, c7, c8, c9, f7, f8, bx, lt, G, g1, g2⟩ := h
  refine ⟨⟨?_, ?_, ?_, ?_, ?_, ?_⟩, ?_, ?_, World.cell?_setCell_same _ _ _ c8, ?_, by rw [World.frozen?_setCell]; exact f7, by rw [World.frozen?_setCell]; exact f8, bx, fun k hk => by rw [go_size]; exact lt k hk, G, V.keep g1 (fun k hk => go_other (g2 k hk).2) (by rw [go_size]; exact Nat.le_refl _), g2⟩
  all_goals (rw [World.cell?_setCell_other _ _ _ _ (by simp)]; assumption)
end
end Go.Proofs.YthgmojggpjnckaaGreat
