/- Proved: lists and lists of lists that a draw makes. -/
import Derived.Test.YtegmognpofcfiaaGreatUSource
import Derived.Test.YtegmognpofcfiaaGreatUPkA
namespace Go.Proofs.YtegmognpofcfiaaGreat
open Go.ChangeShapes Go.WideShapes Go.ChangeAt Go.RowKit
set_option linter.unusedVariables false

/-- 'append(s, y)' among draws -/
theorem wpList_drawInt {P : Program} {ops : Array Oper} {rest : List Oper} {o : Oper} {a : Act} {Q : Exit → Act → World → Prop} {w0 w : World} {v : Value} {xs : List Int} {B g : Nat} {e : TypeId} (hgd : o.guard = Option.none) (s x : Operand) (t : TypeId)
    (ho : o.op = .call { callee := .builtin .append, args := #[s, x], argTypes := #[t, t] }) (ht : P.underlying t = some (.slice e)) (hinfo : (P.info? e).map (fun i => (i.zero, i.size, i.bytes)) = some (some (.int .i64 0), 1, 8))
    (hs : a.eval s = v) (hown : OwnP (Value.int .i64) e B w v xs) (y : Int) (hx : a.eval x = .slice (some ⟨w.heap.size, 0, none⟩) 1 1) (hn : xs.length ≤ 1000000) (hd : Dr g w0 w) (hB : w0.heap.size ≤ B) (hBw : B ≤ w.heap.size)
    (h : ∀ v' w', OwnP (Value.int .i64) e B w' v' (xs ++ [y]) → Dr g w0 w' → w.heap.size ≤ w'.heap.size → wpList P ops Q rest (a.put o.dst v') w') : wpList P ops Q (o :: rest) a (w.alloc (.cells #[.int .i64 y] e)) :=
  wpList_append1 (f := Value.int .i64) hgd s x t ho 0 8 ht hinfo rfl (fun _ => rfl) hs hown y hx (by omega) (by omega) hBw (fun v' w' h1 h2 h3 => h v' w' h1 (hd.own h2 (fun k hk => Nat.le_trans hB (hown.block k hk).1)) h2.size)
/-- 'append(s, r)' among draws, r a list that lies from block lo on -/
theorem wpList_drawRow {α : Type} {E : Repr α} {P : Program} {ops : Array Oper} {rest : List Oper} {o : Oper} {a : Act} {Q : Exit → Act → World → Prop} {w0 w : World} {v : Value} {xs : List α} {B g : Nat} {e : TypeId} (hE : Stable E) (hsl : SlRepr E) (hgd : o.guard = Option.none) (s x : Operand) (t : TypeId)
    (ho : o.op = .call { callee := .builtin .append, args := #[s, x], argTypes := #[t, t] }) (ht : P.underlying t = some (.slice e)) (hinfo : (P.info? e).map (fun i => (i.zero, i.size, i.bytes)) = some (some (.slice Option.none 0 0), 1, 24))
    (hs : a.eval s = v) (hown : OwnR false B E e B w v xs) (u : Option Addr × Nat × Nat) (y : α) {lo : Nat} {q : Bool} (hu : E ⟨lo, w.heap.size, q⟩ w (slV u) y) {gx : Nat} (hgx : w.heap.size = gx) (hx : a.eval x = .slice (some ⟨gx, 0, Option.none⟩) 1 1) (hn : xs.length ≤ 1000000)
    (hlo : B ≤ lo) (hlw : lo ≤ w.heap.size) (hv : ∀ k, v.ownBlock = some k → k < lo) (hd : Dr g w0 w) (hB : w0.heap.size ≤ B)
    (h : ∀ v' w', OwnR false B E e B w' v' (xs ++ [y]) → Dr g w0 w' → w.heap.size ≤ w'.heap.size → wpList P ops Q rest (a.put o.dst v') w') : wpList P ops Q (o :: rest) a (w.alloc (.cells #[slV u] e)) := by
  subst hgx
  exact wpList_appendRows (b := false) hE hsl hgd s x t ho ht hinfo hs hown ((Below.refl _ _).alloc (Nat.le_refl _) _) hx (SliceR.one hE hu (Nat.le_refl _) (Nat.le_refl _) hlw) (fun h => by cases h)
    (fun k hk => ⟨Nat.le_trans hlo hk.1, by have := hk.2; simpa using this, fun e => by have h1 := hv k e; have h2 : lo ≤ k := hk.1; omega⟩) (fun h => by cases h) (by simp only [List.length_cons, List.length_nil]; omega) (Nat.le_trans hlo hlw)
    (fun v' w' h1 h2 _ => h v' w' h1 ((hd.alloc _).own h2 (fun k hk => Nat.le_trans hB (OwnA.block hown k hk).1)) (Nat.le_trans (Nat.le_of_lt (by simp)) h2.size))
theorem ints_new {w : World} {v : Value} {xs : List Int} {e : TypeId} {B : Nat} (h : OwnP (Value.int .i64) e B w v xs) (hm : ∀ x ∈ xs, I64 x) : IntsR ⟨B, w.heap.size, true⟩ w v xs := OwnP.ints h hm (Nat.le_refl _)
theorem ints_snoc {l : List Int} {x : Int} (h : ∀ y ∈ l, I64 y) (hx : I64 x) : ∀ y ∈ l ++ [x], I64 y := fun y hy => by
  rcases List.mem_append.1 hy with hy | hy
  · exact h y hy
  · rw [List.mem_singleton.1 hy]; exact hx
theorem OwnR.alloc {α : Type} {E : Repr α} (hE : Stable E) {b : Bool} {L B : Nat} {e : TypeId} {w : World} {v : Value} {xs : List α} (h : OwnR b L E e B w v xs) (o : Obj) : OwnR b L E e B (w.alloc o) v xs := OwnR.below hE h ((Below.refl _ _).alloc (Nat.le_refl _) _)
def drawLen : Value → Nat
  | .slice _ n _ => n
  | _ => 0
end Go.Proofs.YtegmognpofcfiaaGreat
