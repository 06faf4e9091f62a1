/- Proved: a list of lists that a draw makes: a store of an element. -/
import Derived.Deep.RegionHeld3
import Derived.Test.YtegmognpofcfiaaGreatUDrawKit
namespace Go.Proofs.YtegmognpofcfiaaGreat
open Go.ChangeShapes Go.WideShapes Go.ChangeAt Go.RowKit
set_option linter.unusedVariables false

theorem OwnR.put {α : Type} {E : Repr α} (hE : Stable E) {L B : Nat} {e : TypeId} {w : World} {gb n cap : Nat} {xs : List α} (h : OwnR false L E e B w (.slice (some ⟨gb, 0, Option.none⟩) n cap) xs) (k : Nat) (u : Option Addr × Nat × Nat) (y : α) {Zn : Zone} (hu : E Zn w (slV u) y) (hz : ∀ j, Zn.Has j → L ≤ j ∧ j < w.heap.size ∧ j ≠ gb) :
    OwnR false L E e B (w.setCell ⟨gb, k, Option.none⟩ (slV u)) (.slice (some ⟨gb, 0, Option.none⟩) n cap) (xs.set k y) := by
  obtain ⟨us, Z, hl, ho, h1, h2, h3⟩ := h
  have hset : ∀ j, j ≠ gb → (w.setCell ⟨gb, k, Option.none⟩ (slV u)).heap[j]? = w.heap[j]? := fun j hj => Below.heap_setCell _ _ _ _ hj
  have hsz : (w.setCell ⟨gb, k, Option.none⟩ (slV u)).heap.size = w.heap.size := by simp [World.setCell]
  refine ⟨us.set k u, fun j => if j = k then Zn else Z j, by simp [hl], OwnP.store ho k u, fun i hi => ⟨(fun h => by cases h), fun j hj => ?_⟩, (fun h => by cases h), fun i hi hi' => ?_⟩
  · rw [hsz]
    by_cases e : i = k
    · simp only [e, if_true] at hj
      have := hz j hj
      exact ⟨this.1, this.2.1, fun e => this.2.2 (by injection e with e; exact e.symm)⟩
    · simp only [e, if_false] at hj
      exact (h1 i (by simpa using hi)).2 j hj
  · by_cases e : i = k
    · subst e
      simp only [if_true, List.getElem_set_self]
      exact hE.keep hu (fun j hj _ => hset j (hz j hj).2.2)
    · simp only [e, if_false]
      rw [List.getElem_set_ne (by omega), List.getElem_set_ne (by omega)]
      refine hE.keep (h3 i (by simpa using hi) (by simpa using hi')) (fun j hj _ => hset j (fun e => ?_))
      exact ((h1 i (by simpa using hi)).2 j hj).2.2 (by rw [e]; rfl)
/-- what a store into a block of the call's own leaves -/
theorem Dr.put {g : Nat} {a w : World} (h : Dr g a w) {p : Addr} (hp : a.heap.size ≤ p.block) (u : Value) : Dr g a (w.setCell p u) :=
  h.own (row := some p.block) ⟨rfl, rfl, rfl, by simp [World.setCell], fun k _ hk => Below.heap_setCell _ _ _ _ (fun e => hk (by rw [e]))⟩ (fun j hj => by injection hj with hj; omega)
theorem Dr.cell {g : Nat} {w w' : World} (h : Dr g w w') {p : Addr} {u : Value} (hc : w.cell? p = some u) (hp : p.block ≠ g) : w'.cell? p = some u := by
  rw [World.cell?_of_block (h.grown.block p.block (World.block_lt_of_cell? _ _ hc) (fun e => hp (by injection e)))]; exact hc
theorem Dr.frozen {g : Nat} {w w' : World} (h : Dr g w w') {p : Addr} (hlt : p.block < w.heap.size) (hp : p.block ≠ g) : w'.frozen? p = w.frozen? p :=
  World.frozen?_of_block (h.grown.block p.block hlt (fun e => hp (by injection e)))
theorem OwnR.elem {α : Type} {E : Repr α} {L B : Nat} {e : TypeId} {w : World} {v : Value} {xs : List α} (h : OwnR false L E e B w v xs) {k : Nat} (hk : k < xs.length) :
    ∃ gb n cap u, v = .slice (some ⟨gb, 0, Option.none⟩) n cap ∧ n = xs.length ∧ n ≤ 9223372036854775807 ∧ B ≤ gb ∧ gb < w.heap.size ∧ w.cell? ⟨gb, k, Option.none⟩ = some (slV u) ∧ w.frozen? ⟨gb, k, Option.none⟩ = false := by
  obtain ⟨us, Z, hl, ho, h1, h2, h3⟩ := h
  obtain ⟨a, n, cap, rfl, hn, hm, hel⟩ := ho.shape
  obtain ⟨b, rfl, hb, hlt, hc, hf⟩ := hel k (by omega)
  exact ⟨b, n, cap, _, rfl, by omega, hm, hb, hlt, hc, hf⟩
theorem OwnR.lower {α : Type} {E : Repr α} {L B L' B' : Nat} {e : TypeId} {w : World} {v : Value} {xs : List α} {b : Bool} (h : OwnR b L E e B w v xs) (hL : L' ≤ L) (hB : B' ≤ B) : OwnR b L' E e B' w v xs := by
  obtain ⟨us, Z, hl, ho, h1, h2, h3⟩ := h
  exact ⟨us, Z, hl, ho.lower hB, fun i hi => ⟨(h1 i hi).1, fun k hk => ⟨Nat.le_trans hL ((h1 i hi).2 k hk).1, ((h1 i hi).2 k hk).2⟩⟩, h2, h3⟩
/-- a store elsewhere -/
theorem OwnR.set_far {α : Type} {E : Repr α} (hE : Stable E) {L B : Nat} {e : TypeId} {w : World} {v : Value} {xs : List α} {b : Bool} (h : OwnR b L E e B w v xs) {p : Addr} (hL : p.block < L) (hB : p.block < B) (u : Value) : OwnR b L E e B (w.setCell p u) v xs := by
  have hg : w.grownBy (w.setCell p u) (some p.block) := ⟨rfl, rfl, rfl, by simp [World.setCell], fun k _ hk => Below.heap_setCell _ _ _ _ (fun e => hk (by rw [e]))⟩
  cases hv : v.ownBlock with
  | none => exact OwnA.kept hE h hg (.inl hv) (fun k hk => by injection hk with hk; omega)
  | some k => exact OwnA.kept hE h hg (.inr (by rw [hv]; intro e; injection e with e; have := (OwnA.block h k hv).1; omega)) (fun k hk => by injection hk with hk; omega)
/-- two cells of a block of its own -/
def Box2 (b : Nat) (x y : Value) (w : World) : Prop := w.cell? ⟨b, 0, none⟩ = some x ∧ w.cell? ⟨b, 1, none⟩ = some y ∧ w.frozen? ⟨b, 0, none⟩ = false ∧ w.frozen? ⟨b, 1, none⟩ = false
theorem Box2.new (w : World) (x y : Value) (t : TypeId) : Box2 w.heap.size x y (w.alloc (.cells #[x, y] t)) :=
  ⟨by simp, by simp, frozen_of_row _ _ _ _ t (heap_alloc_new w _), frozen_of_row _ _ _ _ t (heap_alloc_new w _)⟩
theorem Box2.dr {b g : Nat} {x y : Value} {w w' : World} (h : Box2 b x y w) (hd : Dr g w w') (hb : b ≠ g) : Box2 b x y w' := by
  have hlt : b < w.heap.size := World.block_lt_of_cell? w _ h.1
  exact ⟨hd.cell h.1 hb, hd.cell h.2.1 hb, (hd.frozen hlt hb).trans h.2.2.1, (hd.frozen hlt hb).trans h.2.2.2⟩
/-- 'append(s, r)' among draws, with what it writes -/
theorem wpList_drawRowG {α : Type} {E : Repr α} {P : Program} {ops : Array Oper} {rest : List Oper} {o : Oper} {a : Act} {Q : Exit → Act → World → Prop} {w0 w : World} {v : Value} {xs : List α} {B g : Nat} {e : TypeId} (hE : Stable E) (hsl : SlRepr E) (hgd : o.guard = Option.none) (s x : Operand) (t : TypeId)
    (ho : o.op = .call { callee := .builtin .append, args := #[s, x], argTypes := #[t, t] }) (ht : P.underlying t = some (.slice e)) (hinfo : (P.info? e).map (fun i => (i.zero, i.size, i.bytes)) = some (some (.slice Option.none 0 0), 1, 24))
    (hs : a.eval s = v) (hown : OwnR false B E e B w v xs) (u : Option Addr × Nat × Nat) (y : α) {lo : Nat} {q : Bool} (hu : E ⟨lo, w.heap.size, q⟩ w (slV u) y) {gx : Nat} (hgx : w.heap.size = gx) (hx : a.eval x = .slice (some ⟨gx, 0, Option.none⟩) 1 1) (hn : xs.length ≤ 1000000)
    (hlo : B ≤ lo) (hlw : lo ≤ w.heap.size) (hv : ∀ k, v.ownBlock = some k → k < lo) (hd : Dr g w0 w) (hB : w0.heap.size ≤ B)
    (h : ∀ v' w', OwnR false B E e B w' v' (xs ++ [y]) → Dr g w0 w' → w.heap.size ≤ w'.heap.size → w.grownBy w' v.ownBlock → (∀ k, v'.ownBlock = some k → v.ownBlock = some k ∨ w.heap.size ≤ k) → wpList P ops Q rest (a.put o.dst v') w') : wpList P ops Q (o :: rest) a (w.alloc (.cells #[slV u] e)) := by
  subst hgx
  exact wpList_appendRows (b := false) hE hsl hgd s x t ho ht hinfo hs hown ((Below.refl _ _).alloc (Nat.le_refl _) _) hx (SliceR.one hE hu (Nat.le_refl _) (Nat.le_refl _) hlw) (fun h => by cases h)
    (fun k hk => ⟨Nat.le_trans hlo hk.1, by have := hk.2; simpa using this, fun e => by have h1 := hv k e; have h2 : lo ≤ k := hk.1; omega⟩) (fun h => by cases h) (by simp only [List.length_cons, List.length_nil]; omega) (Nat.le_trans hlo hlw)
    (fun v' w' h1 h2 h3 => h v' w' h1 ((hd.alloc _).own h2 (fun k hk => Nat.le_trans hB (OwnA.block hown k hk).1)) (Nat.le_trans (Nat.le_of_lt (by simp)) h2.size) ((World.grownBy_alloc _ _ _).trans h2) (fun k hk => by
      rcases h3 with h3 | h3
      · exact .inl (h3 ▸ hk)
      · rw [h3] at hk; injection hk with hk; right; simp at hk; omega))
end Go.Proofs.YtegmognpofcfiaaGreat
