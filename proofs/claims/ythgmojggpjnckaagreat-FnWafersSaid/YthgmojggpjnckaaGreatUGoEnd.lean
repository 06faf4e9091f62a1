/- Proved: the program's search with the flag of one row: what a key leaves. -/
import Derived.Test.YthgmojggpjnckaaGreatUGoMem
import Derived.Test.YthgmojggpjnckaaGreatUGoOn
namespace Go.Proofs.YthgmojggpjnckaaGreat
open Go.ChangeShapes Go.WideShapes Go.ChangeAt Go.RowKit
set_option linter.unusedVariables false

/-- the search and the flag 'more' of one row in block bm -/
structure InvG {σ : Type} (g : Nat) (mk : MK) (v : Value) (limit : Int) (Fv : FuncId) (caps : Array Value) (Inv : (Nat → Prop) → σ → World → Prop) (bm : Nat) (F : Nat → Prop) (p : GS σ × Bool) (w : World) : Prop where
  val : ∃ G, GoAt g mk v limit Fv caps Inv G p.1 w ∧ ∀ k, G k → F k ∧ k ≠ bm
  flag : w.cell? ⟨bm, 0, none⟩ = some (.bool p.2)
  free : w.frozen? ⟨bm, 0, none⟩ = false
  box : F bm
  lt : ∀ k, F k → k < w.heap.size
section
variable {σ : Type} {g : Nat} {mk : MK} {v : Value} {limit : Int} {Fv : FuncId} {caps : Array Value} {w0 : World} {F0 : Nat → Prop} {Inv : (Nat → Prop) → σ → World → Prop} {step : σ → List (List Int) → σ} {more : σ → List (List Int) → Bool} {msz : σ → Nat} {Ok : List (List Int) → Prop} {bm : Nat} {F : Nat → Prop} {p : GS σ × Bool} {w w' : World}
theorem InvG.keep (V : VisitD Fv caps w0 F0 Inv step more msz Ok) (h : InvG g mk v limit Fv caps Inv bm F p w) (hb : ∀ k, F k → w'.heap[k]? = w.heap[k]?) (hs : w.heap.size ≤ w'.heap.size) : InvG g mk v limit Fv caps Inv bm F p w' := by
  obtain ⟨G, h1, h2⟩ := h.val
  have hm := hb bm h.box
  exact ⟨⟨G, h1.keep V (fun k hk => hb k (h2 k hk).1) hs, h2⟩, (World.cell?_of_block (a := ⟨bm, 0, none⟩) hm).trans h.flag, (World.frozen?_of_block (a := ⟨bm, 0, none⟩) hm).trans h.free, h.box, fun k hk => Nat.lt_of_lt_of_le (h.lt k hk) hs⟩
theorem InvG.ext (V : VisitD Fv caps w0 F0 Inv step more msz Ok) (h : InvG g mk v limit Fv caps Inv bm F p w) (e : Ext w w') : InvG g mk v limit Fv caps Inv bm F p w' := h.keep V (fun k hk => Below.block e k (h.lt k hk)) e.size
theorem InvG.ne (h : InvG g mk v limit Fv caps Inv bm F p w) : g ≠ bm ∧ F g := by
  obtain ⟨G, h1, h2⟩ := h.val
  exact ⟨(h2 g h1.box).2, (h2 g h1.box).1⟩
theorem go_cellF {a : Addr} {i : Nat} {u : Value} (hne : a.block ≠ g) : (w.setCell ⟨g, i, none⟩ u).cell? a = w.cell? a := World.cell?_of_block (go_other hne)
theorem go_frozenF {a : Addr} {i : Nat} {u : Value} (hne : a.block ≠ g) : (w.setCell ⟨g, i, none⟩ u).frozen? a = w.frozen? a := World.frozen?_of_block (go_other hne)
/-- the flag is set -/
theorem InvG.setFlag (V : VisitD Fv caps w0 F0 Inv step more msz Ok) (h : InvG g mk v limit Fv caps Inv bm F p w) (b : Bool) : InvG g mk v limit Fv caps Inv bm F (p.1, b) (w.setCell ⟨bm, 0, none⟩ (.bool b)) := by
  obtain ⟨G, h1, h2⟩ := h.val
  exact ⟨⟨G, h1.keep V (fun k hk => go_other (h2 k hk).2) (by rw [go_size]; exact Nat.le_refl _), h2⟩, World.cell?_setCell_same _ _ _ h.flag, by rw [World.frozen?_setCell]; exact h.free, h.box, fun k hk => by rw [go_size]; exact h.lt k hk⟩
theorem InvG.setTries (V : VisitD Fv caps w0 F0 Inv step more msz Ok) (h : InvG g mk v limit Fv caps Inv bm F p w) (x : Int) : InvG g mk v limit Fv caps Inv bm F (⟨x, p.1.over, p.1.val⟩, p.2) (w.setCell ⟨g, 7, none⟩ (.int .i64 x)) := by
  have hn := h.ne.1
  obtain ⟨G, h1, h2⟩ := h.val
  exact ⟨⟨G, h1.tries V x, h2⟩, (go_cellF (a := ⟨bm, 0, none⟩) (fun e => hn e.symm)).trans h.flag, (go_frozenF (a := ⟨bm, 0, none⟩) (fun e => hn e.symm)).trans h.free, h.box, fun k hk => by rw [go_size]; exact h.lt k hk⟩
theorem InvG.setOver (V : VisitD Fv caps w0 F0 Inv step more msz Ok) (h : InvG g mk v limit Fv caps Inv bm F p w) (x : Bool) : InvG g mk v limit Fv caps Inv bm F (⟨p.1.tries, x, p.1.val⟩, p.2) (w.setCell ⟨g, 8, none⟩ (.bool x)) := by
  have hn := h.ne.1
  obtain ⟨G, h1, h2⟩ := h.val
  exact ⟨⟨G, h1.broken V x, h2⟩, (go_cellF (a := ⟨bm, 0, none⟩) (fun e => hn e.symm)).trans h.flag, (go_frozenF (a := ⟨bm, 0, none⟩) (fun e => hn e.symm)).trans h.free, h.box, fun k hk => by rw [go_size]; exact h.lt k hk⟩
theorem frame_set {k i : Nat} {u : Value} (hk : F k) : Frame F w (w.setCell ⟨k, i, none⟩ u) :=
  ⟨rfl, rfl, rfl, by rw [go_size]; exact Nat.le_refl _, fun j _ hn => go_other (fun e => hn (e ▸ hk))⟩
/-- what the search below has left, with the flag -/
theorem InvG.below (V : VisitD Fv caps w0 F0 Inv step more msz Ok) (hv : w'.cell? ⟨bm, 0, none⟩ = w.cell? ⟨bm, 0, none⟩) (hz : w'.frozen? ⟨bm, 0, none⟩ = w.frozen? ⟨bm, 0, none⟩) {b : Bool} (hf : w.cell? ⟨bm, 0, none⟩ = some (.bool b)) (hfr : w.frozen? ⟨bm, 0, none⟩ = false) (hbm : F bm) (hlt : ∀ k, F k → k < w.heap.size) {G G' : Nat → Prop} (hG : ∀ k, G k → F k ∧ k ≠ bm) {s : GS σ} (i' : GoAt g mk v limit Fv caps Inv G' s w') (g' : ∀ k, G' k → G k ∨ w.heap.size ≤ k) (f' : Frame G w w') :
    InvG g mk v limit Fv caps Inv bm (fun k => F k ∨ G' k) (s, b) w' ∧ (∀ k, F k ∨ G' k → F k ∨ w.heap.size ≤ k) ∧ Frame F w w' := by
  have hs := f'.size
  refine ⟨⟨⟨G', i', fun k hk => ⟨.inr hk, fun e => ?_⟩⟩, hv.trans hf, hz.trans hfr, .inl hbm, fun k hk => ?_⟩, fun k hk => ?_, ?_⟩
  · subst e
    rcases g' k hk with q | q
    · exact (hG k q).2 rfl
    · have := hlt k hbm; omega
  · rcases hk with hk | hk
    · have := hlt k hk; omega
    · exact i'.lt k hk
  · rcases hk with hk | hk
    · exact .inl hk
    · rcases g' k hk with q | q
      · exact .inl (hG k q).1
      · exact .inr q
  · exact ⟨f'.os, f'.tape, f'.output, hs, fun k hk hn => f'.block k hk (fun q => hn (hG k q).1)⟩
end
end Go.Proofs.YthgmojggpjnckaaGreat
