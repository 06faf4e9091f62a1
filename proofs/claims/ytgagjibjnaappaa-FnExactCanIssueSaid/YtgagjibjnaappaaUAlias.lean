/- Proved: a list of lists that lie elsewhere. -/
import Derived.Test.YtgagjibjnaappaaUOwnOld
namespace Go.Proofs.Ytgagjibjnaappaa
open Go.ChangeShapes Go.WideShapes Go.ChangeAt Go.RowKit
set_option linter.unusedVariables false

/-- a list of the call's own, of lists that lie elsewhere -/
abbrev AliasR (e : TypeId) (B : Nat) (w : World) (v : Value) (xs : List (List Int)) : Prop := OwnA false (fun _ => True) IntsR e B w v xs
theorem IntsR.free {z : Zone} {w : World} {v : Value} {xs : List Int} (h : IntsR z w v xs) : IntsR ⟨0, w.heap.size, false⟩ w v xs := by
  obtain ⟨a, cap, rfl, h1, h2, h3, h4⟩ := h
  refine ⟨a, cap, rfl, h1, h2, h3, fun ad had hpos => ?_⟩
  obtain ⟨k1, k2, k3, k4, Z, k5, k6, k7⟩ := h4 ad had hpos
  refine ⟨k1, ⟨Nat.zero_le _, k3⟩, k3, (fun h => by cases h), fun _ => ⟨0, 0, false⟩, fun i _ => ⟨fun k hk => absurd hk.2 (Nat.not_lt_zero _), fun h => by cases h⟩, (fun h => by cases h), fun i hi => ?_⟩
  obtain ⟨u, c1, c2⟩ := k7 i hi
  exact ⟨u, c1, c2⟩
theorem wpList_appendAlias {e : TypeId} {B : Nat} {w : World} {v : Value} {xs : List (List Int)} {P : Program} {ops : Array Oper} {rest : List Oper} {o : Oper} {a : Act} {Q : Exit → Act → World → Prop} (hgd : o.guard = Option.none) (s x : Operand) (t : TypeId)
    (ho : o.op = .call { callee := .builtin .append, args := #[s, x], argTypes := #[t, t] }) (ht : P.underlying t = some (.slice e)) (hinfo : (P.info? e).map (fun i => (i.zero, i.size, i.bytes)) = some (some (.slice Option.none 0 0), 1, 24))
    (hs : a.eval s = v) (hown : AliasR e B w v xs) (u : Option Addr × Nat × Nat) (y : List Int) {w0 : World} (hu : IntsR ⟨0, w0.heap.size, false⟩ w (slV u) y) (h0 : w0.heap.size ≤ B) (hx : a.eval x = .slice (some ⟨w.heap.size, 0, Option.none⟩) 1 1)
    (hn : xs.length + 1 ≤ 1099511627776) (hB : B ≤ w.heap.size)
    (h : ∀ v' w', AliasR e B w' v' (xs ++ [y]) → Below B w w' → w.grownBy w' v.ownBlock → (∀ k, v'.ownBlock = some k → v.ownBlock = some k ∨ w.heap.size ≤ k) → wpList P ops Q rest (a.put o.dst v') w') : wpList P ops Q (o :: rest) a (w.alloc (.cells #[slV u] e)) := by
  have hbk := hown.block
  refine wpList_append_of hgd s x t ho hs hx (fun ty => run_appendOld stable_ints t ty ht hinfo (A := fun _ => True) (fun _ _ _ => trivial) hown hu (fun h => by cases h) (fun k hk => ⟨trivial, ?_, fun e => ?_, fun h => by cases h⟩) rfl hn hB) (fun v' w' h' => h v' w' h'.1 h'.2.1 h'.2.2.1 h'.2.2.2)
  · have := hk.2; simp only at this; omega
  · have h1 := (hbk k e).1; have := hk.2; simp only at this; omega
theorem AliasR.rows {e : TypeId} {B : Nat} {w : World} {v : Value} {xs : List (List Int)} (h : AliasR e B w v xs) : RowsR ⟨0, w.heap.size, false⟩ w v xs := OwnA.reads h (fun k _ => Nat.zero_le k) (Nat.zero_le _)
theorem AliasR.ext {e : TypeId} {B : Nat} {w w' : World} {v : Value} {xs : List (List Int)} (h : AliasR e B w v xs) (he : Ext w w') : AliasR e B w' v xs := OwnA.below stable_ints h he
theorem AliasR.empty {e : TypeId} {B : Nat} {w : World} (hB : B ≤ w.heap.size) : AliasR e B (w.alloc (.cells #[] e)) (.slice (some ⟨w.heap.size, 0, Option.none⟩) 0 0) [] := OwnA.empty hB
end Go.Proofs.Ytgagjibjnaappaa
