/- Proved: an append of one element, and where what comes back lies. -/
import Derived.Test.YtnndaboaeijbkaaDoorUOwnRows
import Derived.Test.YtnndaboaeijbkaaDoorUExt
namespace Go.Proofs.YtnndaboaeijbkaaDoor
open Go.ChangeShapes Go.WideShapes Go.ChangeAt Go.RowKit
set_option linter.unusedVariables false

theorem run_append1 {α : Type} {f : α → Value} {e : TypeId} {B : Nat} {w : World} {v : Value} {xs : List α} {P : Program} (t ty : TypeId) (x0 : α) (bytes : Nat) (ht : P.underlying t = some (.slice e)) (hinfo : (P.info? e).map (fun i => (i.zero, i.size, i.bytes)) = some (some (f x0), 1, bytes))
    (hcell : (f x0).cells = #[f x0]) (h1 : ∀ x, (f x).oneCell' = true) (hown : OwnP f e B w v xs) (y : α) {g : Nat} (hg : w.heap.size = g)
    (hn : xs.length + 1 ≤ 1099511627776) (hby : bytes ≤ 64) (hB : B ≤ w.heap.size) :
    ∃ v' w', (Builtin.append_ #[t, t] ty #[v, .slice (some ⟨g, 0, none⟩) 1 1]).run P (w.alloc (.cells #[f y] e)) = .ok v' w' ∧ (OwnP f e B w' v' (xs ++ [y]) ∧ w.grownBy w' v.ownBlock ∧ Below B w w' ∧ ∀ k, v'.ownBlock = some k → v.ownBlock = some k ∨ w.heap.size ≤ k) := by
  subst hg
  obtain ⟨i, hi, hz0, hz1, hz2⟩ := info_parts hinfo
  have hbb : (xs.length + 1) * bytes ≤ 140737488355328 := Nat.le_trans (Nat.mul_le_mul hn hby) (by omega)
  obtain ⟨v', w', hrun, hv', hg, -, hat⟩ := run_append_own_at (P := P) (w := w.alloc (.cells #[f y] e)) B t ty e i (f x0) 1 bytes ht hi hz0 hz1 hz2 (by rw [hcell]; rfl) (by omega) v xs.length (xs.map f) (hown.alloc _) ⟨w.heap.size, 0, none⟩ 1 1 [f y] (by simp)
    (fun j u hu => by
      have hj : j = 0 := by
        rcases Nat.eq_zero_or_pos j with h | h
        · exact h
        · rw [List.getElem?_eq_none (by simp; omega)] at hu; cases hu
      subst hj
      rw [Addr.add_zero']
      simp at hu ⊢
      exact hu)
    (fun u hu => by rw [List.mem_singleton.1 hu]; exact h1 y) (by unfold maxLen; omega) hbb (by simp; omega)
  have hg' : w.grownBy w' v.ownBlock := grownBy_trans (World.grownBy_alloc w _ _) hg
  refine ⟨v', w', hrun, ?_, hg', (Below.refl _ _).grown hg' hB (fun k hk => (hown.block k hk).1), fun k hk => ?_⟩
  · unfold OwnP
    rw [List.length_append, List.map_append]
    exact hv'
  · rcases hat with hat | hat
    · exact .inl (hat ▸ hk)
    · right; rw [hat] at hk; injection hk with hk; simp at hk; omega
theorem wpList_append1X {α : Type} {f : α → Value} {e : TypeId} {B : Nat} {w : World} {v : Value} {xs : List α} {P : Program} {ops : Array Oper} {rest : List Oper} {o : Oper} {a : Act} {Q : Exit → Act → World → Prop} (hgd : o.guard = Option.none) (s x : Operand) (t : TypeId)
    (ho : o.op = .call { callee := .builtin .append, args := #[s, x], argTypes := #[t, t] }) (x0 : α) (bytes : Nat) (ht : P.underlying t = some (.slice e)) (hinfo : (P.info? e).map (fun i => (i.zero, i.size, i.bytes)) = some (some (f x0), 1, bytes))
    (hcell : (f x0).cells = #[f x0]) (h1 : ∀ x, (f x).oneCell' = true) (hs : a.eval s = v) (hown : OwnP f e B w v xs) (y : α) (hx : a.eval x = .slice (some ⟨w.heap.size, 0, none⟩) 1 1)
    (hn : xs.length + 1 ≤ 1099511627776) (hby : bytes ≤ 64) (hB : B ≤ w.heap.size)
    (h : ∀ v' w', OwnP f e B w' v' (xs ++ [y]) → w.grownBy w' v.ownBlock → Below B w w' → (∀ k, v'.ownBlock = some k → v.ownBlock = some k ∨ w.heap.size ≤ k) → wpList P ops Q rest (a.put o.dst v') w') : wpList P ops Q (o :: rest) a (w.alloc (.cells #[f y] e)) :=
  wpList_append_of hgd s x t ho hs hx (fun ty => run_append1 t ty x0 bytes ht hinfo hcell h1 hown y rfl hn hby hB) (fun v' w' h' => h v' w' h'.1 h'.2.1 h'.2.2.1 h'.2.2.2)
end Go.Proofs.YtnndaboaeijbkaaDoor
