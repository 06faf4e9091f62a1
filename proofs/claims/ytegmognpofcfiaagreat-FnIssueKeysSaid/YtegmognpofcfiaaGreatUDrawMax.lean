/- Proved: two lists that a draw fills side by side. -/
import Derived.Test.YtegmognpofcfiaaGreatUDrawDesign
import Derived.Test.YtegmognpofcfiaaGreatUKeysL
import Derived.Test.YtegmognpofcfiaaGreatUPkC
namespace Go.Proofs.YtegmognpofcfiaaGreat
open Go.ChangeShapes Go.WideShapes Go.ChangeAt Go.RowKit
set_option linter.unusedVariables false

theorem OwnA.keepF {α : Type} {b : Bool} {A : Nat → Prop} {E : Repr α} {e : TypeId} {B : Nat} {w w' : World} {v : Value} {xs : List α} (hE : Stable E) (h : OwnA b A E e B w v xs) {F : Nat → Prop} (hf : ∀ k, k < w.heap.size → ¬ F k → w'.heap[k]? = w.heap[k]?) (hs : w.heap.size ≤ w'.heap.size) (hv : ∀ k, v.ownBlock = some k → ¬ F k) (hA : ∀ k, A k → k < w.heap.size → ¬ F k) : OwnA b A E e B w' v xs := by
  obtain ⟨us, Z, hl, ⟨ho1, ho2⟩, h1, h2, h3⟩ := h
  refine ⟨us, Z, hl, ⟨ho1, ?_⟩, fun i hi => ⟨(h1 i hi).1, fun k hk => ⟨((h1 i hi).2 k hk).1, Nat.lt_of_lt_of_le ((h1 i hi).2 k hk).2.1 hs, ((h1 i hi).2 k hk).2.2⟩⟩, h2, fun i hi hi' => hE.keep (h3 i hi hi') (fun k hz hlt => hf k hlt (hA k ((h1 i hi).2 k hz).1 hlt))⟩
  rcases ho2 with h | ⟨g', cap, cur, hv', hb, hgg, r⟩
  · exact .inl h
  · exact .inr ⟨g', cap, cur, hv', hb, by rw [hf g' (Array.getElem?_eq_some_iff.1 hgg).1 (hv g' (by rw [hv']; rfl))]; exact hgg, r⟩
/-- a system by value lies in block b, which may be written -/
def Box6 (b : Nat) (mk : MK) (v : Value) (w : World) : Prop := SysAt w b mk v ∧ ∀ i, w.frozen? ⟨b, i, none⟩ = false
theorem Box6.new (w : World) (mk : MK) (v : Value) (t : TypeId) : Box6 w.heap.size mk v (w.alloc (.cells #[.int .i64 mk.c, .int .i64 mk.d, .int .i64 mk.s, .int .i64 mk.m, .int .i64 mk.l, v] t)) :=
  ⟨(sys_box rfl).2, fun i => frozen_of_row _ _ _ _ t (heap_alloc_new w _)⟩
theorem Box6.of {b : Nat} {mk : MK} {v : Value} {w w' : World} (h : Box6 b mk v w) (hb : w'.heap[b]? = w.heap[b]?) : Box6 b mk v w' :=
  ⟨h.1.of hb, fun i => (World.frozen?_of_block (a := ⟨b, i, none⟩) hb).trans (h.2 i)⟩
theorem Box6.dr {b g : Nat} {mk : MK} {v : Value} {w w' : World} (h : Box6 b mk v w) (hd : Dr g w w') (hb : b ≠ g) : Box6 b mk v w' := h.of (hd.grown.block b h.1.lt (by intro e; injection e with e; omega))
theorem Box6.put5 {b : Nat} {mk : MK} {v : Value} {w : World} (h : Box6 b mk v w) (u : Value) : Box6 b mk u (w.setCell ⟨b, 5, none⟩ u) := by
  obtain ⟨⟨c0, c1, c2, c3, c4, c5⟩, f⟩ := h
  refine ⟨⟨?_, ?_, ?_, ?_, ?_, World.cell?_setCell_same _ _ _ c5⟩, fun i => by rw [World.frozen?_setCell]; exact f i⟩
  all_goals (rw [World.cell?_setCell_other _ _ _ _ (by simp)]; assumption)
theorem Box6.put6 {b : Nat} {mk : MK} {v : Value} {w : World} (h : Box6 b mk v w) (mk' : MK) (u : Value) : Box6 b mk' u ((((((w.setCell ⟨b, 0, none⟩ (.int .i64 mk'.c)).setCell ⟨b, 1, none⟩ (.int .i64 mk'.d)).setCell ⟨b, 2, none⟩ (.int .i64 mk'.s)).setCell ⟨b, 3, none⟩ (.int .i64 mk'.m)).setCell ⟨b, 4, none⟩ (.int .i64 mk'.l)).setCell ⟨b, 5, none⟩ u) := by
  obtain ⟨⟨c0, c1, c2, c3, c4, c5⟩, f⟩ := h
  obtain ⟨-, d0, d1, d2, d3, d4, d5⟩ := setCells6 (w := w) (b := b) (x0 := .int .i64 mk'.c) (x1 := .int .i64 mk'.d) (x2 := .int .i64 mk'.s) (x3 := .int .i64 mk'.m) (x4 := .int .i64 mk'.l) (x5 := u) rfl c0 c1 c2 c3 c4 c5
  exact ⟨⟨d0, d1, d2, d3, d4, d5⟩, fun i => by simp only [World.frozen?_setCell]; exact f i⟩

/-- so many keys, so many rows -/
structure MaxAt (g b K0 K1 B : Nat) (mk : MK) (ka : Option Addr) (kn kk : Nat) (L : List (List Int)) (w0 : World) (s7 vk : Value) (cuts t : List (List Int)) (w : World) : Prop where
  c : OwnA false (fun q => K0 ≤ q ∧ q < K1) IntsR 29 B w s7 cuts
  t : OwnA false (fun q => K1 ≤ q ∧ s7.ownBlock ≠ some q) IntsR 29 B w vk t
  box : Box6 b mk vk w
  keys : RowsR ⟨K0, K1, false⟩ w (.slice ka kn kk) L
  dr : Dr g w0 w
  far7 : ∀ q, s7.ownBlock = some q → (q < K0 ∨ K1 ≤ q) ∧ vk.ownBlock ≠ some q
  fark : ∀ q, vk.ownBlock = some q → q < K0 ∨ K1 ≤ q
  K : K1 ≤ w.heap.size
structure MaxN (g b K0 K1 B : Nat) (w0 : World) : Prop where
  gK : g < w0.heap.size
  gb : b ≠ g
  bB : b < B
  B0 : w0.heap.size ≤ B
  BK : B ≤ K0
  KK : K0 ≤ K1
  b0 : w0.heap.size ≤ b
section
variable {g b K0 K1 B : Nat} {mk : MK} {ka : Option Addr} {kn kk : Nat} {L : List (List Int)} {w0 : World} {s7 vk : Value} {cuts t : List (List Int)} {w w' : World}
theorem MaxAt.step (n : MaxN g b K0 K1 B w0) (h : MaxAt g b K0 K1 B mk ka kn kk L w0 s7 vk cuts t w) (hd : Dr g w w') : MaxAt g b K0 K1 B mk ka kn kk L w0 s7 vk cuts t w' := by
  have h1 := n.gK
  have h2 := n.B0
  have h3 := n.BK
  have hf : ∀ k, k < w.heap.size → ¬ (k = g) → w'.heap[k]? = w.heap[k]? := fun k hk hn => hd.grown.block k hk (by intro e; injection e with e; omega)
  refine ⟨h.c.keepF stable_ints (F := fun k => k = g) hf hd.size (fun k hk => by have := (h.c.block k hk).1; omega) (fun k hk _ => by omega), ?_, h.box.dr hd n.gb, stable_rows.dr h.keys hd (.inl (by show g < K0; omega)), h.dr.trans hd, h.far7, h.fark, Nat.le_trans h.K hd.size⟩
  have h4 := n.KK
  exact h.t.keepF stable_ints (F := fun k => k = g) hf hd.size (fun k hk => by have := (h.t.block k hk).1; omega) (fun k hk _ => by omega)
/-- a key is appended -/
theorem MaxAt.key (n : MaxN g b K0 K1 B w0) (h : MaxAt g b K0 K1 B mk ka kn kk L w0 s7 vk cuts t w) {v8 : Value} {w8 : World} {key : List Int} (ho : OwnA false (fun q => K0 ≤ q ∧ q < K1) IntsR 29 B w8 v8 (cuts ++ [key])) (hg : w.grownBy w8 s7.ownBlock) (hv : ∀ k, v8.ownBlock = some k → s7.ownBlock = some k ∨ w.heap.size ≤ k) : MaxAt g b K0 K1 B mk ka kn kk L w0 v8 vk (cuts ++ [key]) t w8 := by
  have h1 := n.gK
  have h2 := n.B0
  have h3 := n.BK
  have h4 := h.K
  have h5 := n.bB
  have hf : ∀ k, k < w.heap.size → ¬ (s7.ownBlock = some k) → w8.heap[k]? = w.heap[k]? := fun k hk hn => hg.block k hk (fun e => hn e.symm)
  have hvk : ∀ k, vk.ownBlock = some k → k < w.heap.size := fun k hk => (h.t.block k hk).2
  refine ⟨ho, ?_, h.box.of (hf b h.box.1.lt (fun e => by have := (h.c.block b e).1; omega)), stable_rows.keep h.keys (fun k hk hl => hf k hl (fun e => by have := (h.far7 k e).1; have q1 := hk.1; have q2 := hk.2; simp only at q1 q2; omega)), h.dr.own hg (fun k hk => Nat.le_trans h2 (h.c.block k hk).1), fun q hq => ?_, h.fark, Nat.le_trans h4 hg.size⟩
  · have q1 : OwnA false (fun q => K1 ≤ q ∧ s7.ownBlock ≠ some q ∧ v8.ownBlock ≠ some q) IntsR 29 B w vk t := h.t.weaken (fun k hk ha => ⟨ha.1, ha.2, fun e => (hv k e).elim ha.2 (fun q => by omega)⟩)
    exact (q1.keepF stable_ints (F := fun k => s7.ownBlock = some k) hf hg.size (fun k hk e => (h.far7 k e).2 hk) (fun k hk _ => hk.2.1)).weaken (fun k hk ha => ⟨ha.1, ha.2.2⟩)
  · rcases hv q hq with e | e
    · exact ⟨(h.far7 q e).1, (h.far7 q e).2⟩
    · exact ⟨by omega, fun e2 => by have := hvk q e2; omega⟩
/-- a row is appended, and the system's box is written -/
theorem MaxAt.row (n : MaxN g b K0 K1 B w0) (h : MaxAt g b K0 K1 B mk ka kn kk L w0 s7 vk cuts t w) {v8 : Value} {wR w8 : World} {r : List Int} (e : Ext w wR) (ho : OwnA false (fun q => K1 ≤ q ∧ s7.ownBlock ≠ some q) IntsR 29 B w8 v8 (t ++ [r])) (hg : wR.grownBy w8 vk.ownBlock) (hv : ∀ k, v8.ownBlock = some k → vk.ownBlock = some k ∨ wR.heap.size ≤ k) : MaxAt g b K0 K1 B mk ka kn kk L w0 s7 v8 cuts (t ++ [r]) (w8.setCell ⟨b, 5, none⟩ v8) := by
  have h1 := n.gK
  have h2 := n.B0
  have h3 := n.BK
  have h3' := n.KK
  have h4 := h.K
  have h5 := n.bB
  have hs := e.size
  have hf : ∀ k, k < w.heap.size → ¬ (vk.ownBlock = some k) → w8.heap[k]? = w.heap[k]? := fun k hk hn => (hg.block k (by omega) (fun e => hn e.symm)).trans (Below.block e k hk)
  have hz : (w8.setCell ⟨b, 5, none⟩ v8).heap.size = w8.heap.size := by simp [World.setCell]
  have hs8 := hg.size
  have hset : ∀ k, k ≠ b → (w8.setCell ⟨b, 5, none⟩ v8).heap[k]? = w8.heap[k]? := fun k hk => Below.heap_setCell _ _ _ _ hk
  have hvb : ∀ k, vk.ownBlock = some k → B ≤ k := fun k hk => (h.t.block k hk).1
  have h7b : ∀ k, s7.ownBlock = some k → B ≤ k := fun k hk => (h.c.block k hk).1
  refine ⟨?_, ?_, (h.box.of (hf b h.box.1.lt (fun e => by have := hvb b e; omega))).put5 v8, ?_, (h.dr.below e).own hg (fun k hk => Nat.le_trans h2 (hvb k hk)) |>.put (p := ⟨b, 5, none⟩) n.b0 v8, fun q hq => ⟨(h.far7 q hq).1, fun e2 => ?_⟩, fun q hq => ?_, by rw [hz]; omega⟩
  · exact h.c.keepF stable_ints (F := fun k => vk.ownBlock = some k ∨ k = b) (fun k hk hn => (hset k (fun e => hn (.inr e))).trans (hf k hk (fun e => hn (.inl e)))) (by rw [hz]; omega) (fun k hk e => e.elim (fun e => (h.far7 k hk).2 e) (fun e => by have := h7b k hk; omega)) (fun k hk _ e => e.elim (fun e => by have := h.fark k e; omega) (fun e => by omega))
  · exact ho.keepF stable_ints (F := fun k => k = b) (fun k hk hn => hset k hn) (by rw [hz]; omega) (fun k hk e => by have := (ho.block k hk).1; omega) (fun k hk _ e => by omega)
  · refine stable_rows.keep h.keys (fun k hk hl => (hset k (by have := hk.1; simp only at this; omega)).trans (hf k hl (fun e => by have := h.fark k e; have q1 := hk.1; have q2 := hk.2; simp only at q1 q2; omega)))
  · rcases hv q e2 with q1 | q1
    · exact (h.far7 q hq).2 q1
    · have := (h.c.block q hq).2; omega
  · rcases hv q hq with q1 | q1
    · exact h.fark q q1
    · omega
theorem max_new {g b : Nat} {mk mk' : MK} {v : Value} {w0 w2 wk : World} (hb : Box6 b mk v w2) (hd : Dr g w0 w2) (hb0 : w0.heap.size ≤ b)
    (hw : (((((((w2.setCell ⟨b, 0, none⟩ (.int .i64 mk'.c)).setCell ⟨b, 1, none⟩ (.int .i64 mk'.d)).setCell ⟨b, 2, none⟩ (.int .i64 mk'.s)).setCell ⟨b, 3, none⟩ (.int .i64 mk'.m)).setCell ⟨b, 4, none⟩ (.int .i64 mk'.l)).setCell ⟨b, 5, none⟩ (.slice (some ⟨w2.heap.size, 0, none⟩) 0 0)).alloc (.cells #[] 29)).alloc (.cells #[] 29) = wk) :
    Box6 b mk' (.slice (some ⟨w2.heap.size, 0, none⟩) 0 0) wk ∧ Dr g w0 wk ∧ wk.heap.size = w2.heap.size + 2 ∧ (∀ A, OwnA false A IntsR 29 w2.heap.size wk (.slice (some ⟨w2.heap.size, 0, none⟩) 0 0) []) ∧ ∀ A, OwnA false A IntsR 29 w2.heap.size wk (.slice (some ⟨w2.heap.size + 1, 0, none⟩) 0 0) [] := by
  have B := hb.put6 mk' (.slice (some ⟨w2.heap.size, 0, none⟩) 0 0)
  have D := put6 hd hb0 (.int .i64 mk'.c) (.int .i64 mk'.d) (.int .i64 mk'.s) (.int .i64 mk'.m) (.int .i64 mk'.l) (.slice (some ⟨w2.heap.size, 0, none⟩) 0 0)
  have S := put6_size (w := w2) (B := b) (.int .i64 mk'.c) (.int .i64 mk'.d) (.int .i64 mk'.s) (.int .i64 mk'.m) (.int .i64 mk'.l) (.slice (some ⟨w2.heap.size, 0, none⟩) 0 0)
  generalize ((((((w2.setCell ⟨b, 0, none⟩ (.int .i64 mk'.c)).setCell ⟨b, 1, none⟩ (.int .i64 mk'.d)).setCell ⟨b, 2, none⟩ (.int .i64 mk'.s)).setCell ⟨b, 3, none⟩ (.int .i64 mk'.m)).setCell ⟨b, 4, none⟩ (.int .i64 mk'.l)).setCell ⟨b, 5, none⟩ (.slice (some ⟨w2.heap.size, 0, none⟩) 0 0)) = wp at *
  subst hw
  refine ⟨B.of (Below.block ((Ext.alloc _ _).trans (Ext.alloc _ _)) b B.1.lt), (D.alloc _).alloc _, by simp [S], fun A => ?_, fun A => ?_⟩
  · have := OwnA.empty (b := false) (A := A) (E := IntsR) (e := 29) (B := w2.heap.size) (w := wp) (by omega)
    rw [S] at this
    exact OwnA.below stable_ints this (Ext.alloc _ _)
  · have := OwnA.empty (b := false) (A := A) (E := IntsR) (e := 29) (B := w2.heap.size) (w := wp.alloc (.cells #[] 29)) (by simp; omega)
    rw [World.size_alloc, S] at this
    exact this
theorem MaxAt.start {mk' : MK} {w2 wk wk1 : World} (hB : Box6 b mk' (.slice (some ⟨w2.heap.size, 0, none⟩) 0 0) wk) (hD : Dr g w0 wk) (hS : wk.heap.size = w2.heap.size + 2) (h1 : ∀ A, OwnA false A IntsR 29 w2.heap.size wk (.slice (some ⟨w2.heap.size, 0, none⟩) 0 0) []) (h2 : ∀ A, OwnA false A IntsR 29 w2.heap.size wk (.slice (some ⟨w2.heap.size + 1, 0, none⟩) 0 0) []) (e : Ext wk wk1) (hk : RowsR (.new wk wk1) wk1 (.slice ka kn kk) L) :
    MaxAt g b wk.heap.size wk1.heap.size w2.heap.size mk' ka kn kk L w0 (.slice (some ⟨w2.heap.size + 1, 0, none⟩) 0 0) (.slice (some ⟨w2.heap.size, 0, none⟩) 0 0) [] [] wk1 :=
  ⟨OwnA.below stable_ints (h2 _) e, OwnA.below stable_ints (h1 _) e, hB.of (Below.block e b hB.1.lt), stable_rows.sub hk ⟨fun k hk => hk, fun h => by cases h⟩, hD.below e, fun q hq => by
    have : w2.heap.size + 1 = q := by injection hq
    exact ⟨by omega, fun e => by have : w2.heap.size = q := by injection e
                                 omega⟩, fun q hq => by
    have : w2.heap.size = q := by injection hq
    omega, Nat.le_refl _⟩
end
end Go.Proofs.YtegmognpofcfiaaGreat
