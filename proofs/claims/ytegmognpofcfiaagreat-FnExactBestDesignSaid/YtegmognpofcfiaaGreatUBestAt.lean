/- Proved: the best design so far, in memory. -/
import Derived.Test.YtegmognpofcfiaaGreatUBestLaw
import Derived.Test.YtegmognpofcfiaaGreatUGoAll
import Derived.Test.YtegmognpofcfiaaGreatURowsBox
import Derived.Test.YtegmognpofcfiaaGreatUPkE
namespace Go.Proofs.YtegmognpofcfiaaGreat
open Go.ChangeShapes Go.WideShapes Go.ChangeAt Go.RowKit
set_option linter.unusedVariables false

def leastD (f : List (List Int) → Int) (s : Option (List (List Int))) : Int := match s with
  | none => 0
  | some b => f b
/-- the best design so far and its wafers -/
structure BestAt (f : List (List Int) → Int) (bb bl : Nat) (F : Nat → Prop) (s : Option (List (List Int))) (w : World) (v : Value) : Prop where
  rows : RowsBox bb (fun k => F k ∧ k ≠ bl) (s.getD []) w v
  nil : s = none → v = .slice none 0 0
  full : ∀ b, s = some b → ∃ ad n c, v = .slice (some ad) n c
  least : w.cell? ⟨bl, 0, none⟩ = some (.int .i64 (leastD f s))
  lfree : w.frozen? ⟨bl, 0, none⟩ = false
  box : F bl
  lt : ∀ k, F k → k < w.heap.size
def BestInv (f : List (List Int) → Int) (bb bl : Nat) (F : Nat → Prop) (s : Option (List (List Int))) (w : World) : Prop := ∃ v, BestAt f bb bl F s w v
section
variable {f : List (List Int) → Int} {bb bl : Nat} {F : Nat → Prop} {s : Option (List (List Int))} {w w' : World} {v : Value}
theorem BestAt.keep (h : BestAt f bb bl F s w v) (hb : ∀ k, F k → w'.heap[k]? = w.heap[k]?) (hs : w.heap.size ≤ w'.heap.size) : BestAt f bb bl F s w' v :=
  ⟨h.rows.keep (fun k hk => hb k hk.1) hs, h.nil, h.full, (World.cell?_of_block (a := ⟨bl, 0, none⟩) (hb bl h.box)).trans h.least, (World.frozen?_of_block (a := ⟨bl, 0, none⟩) (hb bl h.box)).trans h.lfree, h.box, fun k hk => Nat.lt_of_lt_of_le (h.lt k hk) hs⟩
theorem BestAt.set {w2 : World} {v8 : Value} {x : List (List Int)} (h : BestAt f bb bl F s w v) (e : Ext w w2) (ho : OwnR true w.heap.size IntsR 29 w.heap.size w2 v8 x) (hn : ∃ ad n c, v8 = .slice (some ad) n c) :
    BestAt f bb bl (fun k => F k ∨ (w.heap.size ≤ k ∧ k < w2.heap.size)) (some x) ((w2.setCell ⟨bb, 0, none⟩ v8).setCell ⟨bl, 0, none⟩ (.int .i64 (f x))) v8 ∧ Frame F w ((w2.setCell ⟨bb, 0, none⟩ v8).setCell ⟨bl, 0, none⟩ (.int .i64 (f x))) := by
  obtain ⟨hR, -, -, hL, hLf, h2, hlt⟩ := h
  obtain ⟨h1, h3⟩ := hR.box
  have q1 := hlt bb h1
  have q2 := hlt bl h2
  have q3 := e.size
  have hb1 : w2.heap[bb]? = w.heap[bb]? := Below.block e bb q1
  have hb2 : w2.heap[bl]? = w.heap[bl]? := Below.block e bl q2
  have hset : ∀ k, k ≠ bb → k ≠ bl → ((w2.setCell ⟨bb, 0, none⟩ v8).setCell ⟨bl, 0, none⟩ (.int .i64 (f x))).heap[k]? = w2.heap[k]? := fun k g1 g2 => (Below.heap_setCell _ _ _ _ g2).trans (Below.heap_setCell _ _ _ _ g1)
  have hsz : ((w2.setCell ⟨bb, 0, none⟩ v8).setCell ⟨bl, 0, none⟩ (.int .i64 (f x))).heap.size = w2.heap.size := by rw [setCell_size, setCell_size]
  have hrow : ∀ k, v8.ownBlock = some k → w.heap.size ≤ k ∧ k < w2.heap.size := ho.block
  have c1 : w2.cell? ⟨bb, 0, none⟩ = some v := (World.cell?_of_block (a := ⟨bb, 0, none⟩) hb1).trans hR.cell
  have c2 : w2.cell? ⟨bl, 0, none⟩ = some (.int .i64 (leastD f s)) := (World.cell?_of_block (a := ⟨bl, 0, none⟩) hb2).trans hL
  have f1 : w2.frozen? ⟨bb, 0, none⟩ = false := (World.frozen?_of_block (a := ⟨bb, 0, none⟩) hb1).trans hR.free
  have f2 : w2.frozen? ⟨bl, 0, none⟩ = false := (World.frozen?_of_block (a := ⟨bl, 0, none⟩) hb2).trans hLf
  have ne1 : (⟨bl, 0, none⟩ : Addr) ≠ ⟨bb, 0, none⟩ := fun q => h3 (by injection q with q _ _; exact q.symm)
  have hF : ∀ k, (F k ∨ (w.heap.size ≤ k ∧ k < w2.heap.size)) → k < w2.heap.size := fun k hk => by
    rcases hk with hk | hk
    · have := hlt k hk; omega
    · exact hk.2
  refine ⟨⟨⟨?_, ?_, ?_, fun k hk => ?_, ⟨.inl h1, h3⟩, fun k hk => by rw [hsz]; exact hF k hk.1⟩, (fun q => by cases q), (fun _ _ => hn), ?_, ?_, .inl h2, fun k hk => by rw [hsz]; exact hF k hk⟩, ?_⟩
  · rw [World.cell?_setCell_other _ _ _ _ ne1]; exact World.cell?_setCell_same _ _ _ c1
  · rw [World.frozen?_setCell, World.frozen?_setCell]; exact f1
  · have o1 : OwnA true (fun k => ((F k ∨ (w.heap.size ≤ k ∧ k < w2.heap.size)) ∧ k ≠ bl) ∧ k ≠ bb) IntsR 29 w.heap.size w2 v8 x := OwnA.weaken ho (fun k hk ha => ⟨⟨.inr ⟨ha, hk⟩, by omega⟩, by omega⟩)
    have o2 := o1.raise (B' := 0) (fun k _ => Nat.zero_le _)
    exact o2.keepA stable_ints (fun k hk => hset k hk.2 hk.1.2) (fun k hk => by have := hrow k hk; exact hset k (by omega) (by omega)) (by omega)
  · have := hrow k hk
    exact ⟨⟨.inr this, by omega⟩, by omega⟩
  · exact World.cell?_setCell_same _ _ _ ((World.cell?_setCell_other _ _ _ _ ne1.symm).trans c2)
  · rw [World.frozen?_setCell, World.frozen?_setCell]; exact f2
  · exact ⟨e.os, e.tape, e.output, by omega, fun k hk hn => (hset k (fun q => hn (q ▸ h1)) (fun q => hn (q ▸ h2))).trans (Below.block e k hk)⟩
end
end Go.Proofs.YtegmognpofcfiaaGreat
