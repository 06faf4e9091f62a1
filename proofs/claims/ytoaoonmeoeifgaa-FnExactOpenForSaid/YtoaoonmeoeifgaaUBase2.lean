/- Proved: small laws on lists that a call makes itself. -/
import Derived.Test.YtoaoonmeoeifgaaUInfo
namespace Go.Proofs.Ytoaoonmeoeifgaa
open Go.ChangeShapes Go.WideShapes Go.ChangeAt Go.RowKit
set_option linter.unusedVariables false

theorem grownBy_trans {a b c : World} {row : Option Nat} (h : a.grownBy b row) (k : b.grownBy c row) : a.grownBy c row :=
  ⟨k.os.trans h.os, k.tape.trans h.tape, k.output.trans h.output, Nat.le_trans h.size k.size, fun i hi hr => (k.block i (Nat.lt_of_lt_of_le hi h.size) hr).trans (h.block i hi hr)⟩

/-- 'append(s, y)', s of the call's own -/
theorem wpList_append1 {α : Type} {f : α → Value} {e : TypeId} {B : Nat} {w : World} {v : Value} {xs : List α} {P : Program} {ops : Array Oper} {rest : List Oper} {o : Oper} {a : Act} {Q : Exit → Act → World → Prop} (hgd : o.guard = Option.none) (s x : Operand) (t : TypeId)
    (ho : o.op = .call { callee := .builtin .append, args := #[s, x], argTypes := #[t, t] }) (x0 : α) (bytes : Nat) (ht : P.underlying t = some (.slice e)) (hinfo : (P.info? e).map (fun i => (i.zero, i.size, i.bytes)) = some (some (f x0), 1, bytes))
    (hcell : (f x0).cells = #[f x0]) (h1 : ∀ x, (f x).oneCell' = true) (hs : a.eval s = v) (hown : OwnP f e B w v xs) (y : α) (hx : a.eval x = .slice (some ⟨w.heap.size, 0, none⟩) 1 1)
    (hn : xs.length + 1 ≤ 1099511627776) (hby : bytes ≤ 64) (hB : B ≤ w.heap.size)
    (h : ∀ v' w', OwnP f e B w' v' (xs ++ [y]) → w.grownBy w' v.ownBlock → Below B w w' → wpList P ops Q rest (a.put o.dst v') w') : wpList P ops Q (o :: rest) a (w.alloc (.cells #[f y] e)) := by
  refine wpList_appendP hgd s x t ho e B f x0 bytes ht hinfo hcell h1 v xs hs (hown.alloc _) ⟨w.heap.size, 0, none⟩ 1 1 [y] hx rfl (fun j hj => ?_) hn hby (by simp; omega) (fun v' w' ho' hg => ?_)
  · have : j = 0 := by simpa using hj
    subst this
    rw [Addr.add_zero']
    simp
  · have hg' : w.grownBy w' v.ownBlock := grownBy_trans (World.grownBy_alloc w _ _) hg
    exact h v' w' ho' hg' ((Below.refl _ _).grown hg' hB (fun k hk => (hown.block k hk).1))

/-- the numbers below k that have it -/
def upto (p : Int → Bool) (k : Nat) : List Int := ((List.range k).filter fun (i : Nat) => p (i : Int)).map fun (i : Nat) => (i : Int)
theorem upto_zero (p : Int → Bool) : upto p 0 = [] := rfl
theorem upto_yes {p : Int → Bool} {k : Nat} (h : p k = true) : upto p (k+1) = upto p k ++ [(k : Int)] := by simp [upto, List.range_succ, h]
theorem upto_no {p : Int → Bool} {k : Nat} (h : p k = false) : upto p (k+1) = upto p k := by simp [upto, List.range_succ, h]
theorem upto_length (p : Int → Bool) (k : Nat) : (upto p k).length ≤ k := by
  have := List.length_filter_le (fun (i : Nat) => p (i : Int)) (List.range k)
  simpa [upto] using this
theorem upto_mem {p : Int → Bool} {k : Nat} {x : Int} : x ∈ upto p k ↔ 0 ≤ x ∧ x < k ∧ p x = true := by
  simp only [upto, List.mem_map, List.mem_filter, List.mem_range]
  constructor
  · rintro ⟨i, ⟨h1, h2⟩, rfl⟩; exact ⟨by omega, by omega, h2⟩
  · rintro ⟨h1, h2, h3⟩; exact ⟨x.toNat, ⟨by omega, by rw [show ((x.toNat : Nat) : Int) = x by omega]; exact h3⟩, by omega⟩
theorem upto_i64 {p : Int → Bool} {k : Nat} (hk : k ≤ 9223372036854775807) : ∀ x ∈ upto p k, I64 x := fun x hx => by
  have := upto_mem.1 hx; unfold I64; omega

/-- a list that the call has made, and a code -/
def IntsCode (w : World) (x : List Int × Int) (r : Value) (w' : World) : Prop := ∃ u, r = .tuple #[u, .int .i64 x.2] ∧ IntsR (.new w w') w' u x.1
def RowsCode (w : World) (x : List (List Int) × Int) (r : Value) (w' : World) : Prop := ∃ u, r = .tuple #[u, .int .i64 x.2] ∧ RowsR (.new w w') w' u x.1
theorem IntsCode_nil {w w' : World} {x : List Int × Int} {c : Int} (h : x = ([], c)) : IntsCode w x (.tuple #[.slice none 0 0, .int .i64 c]) w' := by rw [h]; exact ⟨_, rfl, SliceR.nil _ _ _⟩
theorem RowsCode_nil {w w' : World} {x : List (List Int) × Int} {c : Int} (h : x = ([], c)) : RowsCode w x (.tuple #[.slice none 0 0, .int .i64 c]) w' := by rw [h]; exact ⟨_, rfl, SliceR.nil _ _ _⟩
theorem IntsCode_own {w w' : World} {x : List Int × Int} {c : Int} {ys : List Int} {u : Value} {e : TypeId} (h : x = (ys, c)) (ho : OwnP (Value.int .i64) e w.heap.size w' u ys) (hm : ∀ y ∈ ys, I64 y) : IntsCode w x (.tuple #[u, .int .i64 c]) w' := by
  rw [h]; exact ⟨_, rfl, OwnP.ints ho hm (Nat.le_refl _)⟩
theorem IntsCode_mk {w w' : World} {x : List Int × Int} {c : Int} {ys : List Int} {u : Value} (h : x = (ys, c)) (hr : IntsR (.new w w') w' u ys) : IntsCode w x (.tuple #[u, .int .i64 c]) w' := by
  rw [h]; exact ⟨_, rfl, hr⟩
end Go.Proofs.Ytoaoonmeoeifgaa
