/- Proved: small laws on lists that a call makes itself. -/
import Derived.Test.YtnndaboaeijbkaaDoorUInfo
namespace Go.Proofs.YtnndaboaeijbkaaDoor
open Go.ChangeShapes Go.WideShapes Go.ChangeAt Go.RowKit
set_option linter.unusedVariables false

theorem grownBy_trans {a b c : World} {row : Option Nat} (h : a.grownBy b row) (k : b.grownBy c row) : a.grownBy c row :=
  ⟨k.os.trans h.os, k.tape.trans h.tape, k.output.trans h.output, Nat.le_trans h.size k.size, fun i hi hr => (k.block i (Nat.lt_of_lt_of_le hi h.size) hr).trans (h.block i hi hr)⟩

/-- 'append(s, y)', s of the call's own -/
theorem wpList_append1 {α : Type} {f : α → Value} {e : TypeId} {B : Nat} {w : World} {v : Value} {xs : List α} {P : Program} {ops : Array Oper} {rest : List Oper} {o : Oper} {a : Act} {Q : Exit → Act → World → Prop} (hgd : o.guard = Option.none) (s x : Operand) (t : TypeId)
    (ho : o.op = .call { callee := .builtin .append, args := #[s, x], argTypes := #[t, t] }) (x0 : α) (bytes : Nat) (ht : P.underlying t = some (.slice e)) (hinfo : (P.info? e).map (fun i => (i.zero, i.size, i.bytes)) = some (some (f x0), 1, bytes))
    (hcell : (f x0).cells = #[f x0]) (h1 : ∀ x, (f x).oneCell' = true) (hs : a.eval s = v) (hown : OwnP f e B w v xs) (y : α) (hx : a.eval x = .slice (some ⟨w.heap.size, 0, none⟩) 1 1)
    (hn : xs.length + 1 ≤ 1099511627776) (hby : bytes ≤ 64) (hB : B ≤ w.heap.size)
    (h : ∀ v' w', OwnP f e B w' v' (xs ++ [y]) → w.grownBy w' v.ownBlock → Below B w w' → wpList P ops Q rest (a.put o.dst v') w') : wpList P ops Q (o :: rest) a (w.alloc (.cells #[f y] e)) := by
  refine wpList_appendP hgd s x t ho e B f x0 bytes ht hinfo hcell h1 v xs hs (hown.alloc _) ⟨w.heap.size, 0, none⟩ 1 1 [y] hx rfl (fun j hj => ?_) hn hby (by simp; omega) (fun v' w' ho' hg => ?_)
  · have : j = 0 := by simpa using hj
    subst this
    rw [Addr.add_zero']
    simp
  · have hg' : w.grownBy w' v.ownBlock := grownBy_trans (World.grownBy_alloc w _ _) hg
    exact h v' w' ho' hg' ((Below.refl _ _).grown hg' hB (fun k hk => (hown.block k hk).1))

/-- the numbers below k that have it -/
def upto (p : Int → Bool) (k : Nat) : List Int := ((List.range k).filter fun (i : Nat) => p (i : Int)).map fun (i : Nat) => (i : Int)
theorem upto_zero (p : Int → Bool) : upto p 0 = [] := rfl
theorem upto_yes {p : Int → Bool} {k : Nat} (h : p k = true) : upto p (k+1) = upto p k ++ [(k : Int)] := by simp [upto, List.range_succ, h]
theorem upto_no {p : Int → Bool} {k : Nat} (h : p k = false) : upto p (k+1) = upto p k := by simp [upto, List.range_succ, h]
theorem upto_length (p : Int → Bool) (k : Nat) : (upto p k).length ≤ k := by
  have := List.length_filter_le (fun (i : Nat) => p (i : Int)) (List.range k)
  simpa [upto] using this
theorem upto_mem {p : Int → Bool} {k : Nat} {x : Int} : x ∈ upto p k ↔ 0 ≤ x ∧ x < k ∧ p x = true := by
  simp only [upto, List.mem_map, List.mem_filter, List.mem_range]
  constructor
  · rintro ⟨i, ⟨h1, h2⟩, rfl⟩; exact ⟨by omega, by omega, h2⟩
  · rintro ⟨h1, h2, h3⟩; exact ⟨x.toNat, ⟨by omega, by rw [show ((x.toNat : Nat) : Int) = x by omega]; exact h3⟩, by omega⟩
theorem upto_i64 {p : Int → Bool} {k : Nat} (hk : k ≤ 9223372036854775807) : ∀ x ∈ upto p k, I64 x := fun x hx => by
  have := upto_mem.1 hx; unfold I64; omega

/-- a bool and a code -/
def BoolCode (x : Bool × Int) : Value := .tuple #[.bool x.1, .int .i64 x.2]
def IntCode (x : Int × Int) : Value := .tuple #[.int .i64 x.1, .int .i64 x.2]
theorem BoolCode_mk {x : Bool × Int} {a : Bool} {b : Int} (h : x = (a, b)) : (.tuple #[.bool a, .int .i64 b] : Value) = BoolCode x := by rw [h]; rfl
theorem IntCode_mk {x : Int × Int} {a : Int} {b : Int} (h : x = (a, b)) : (.tuple #[.int .i64 a, .int .i64 b] : Value) = IntCode x := by rw [h]; rfl

/-- a list that the call has made, and a code -/
def IntsCode (w : World) (x : List Int × Int) (r : Value) (w' : World) : Prop := ∃ u, r = .tuple #[u, .int .i64 x.2] ∧ IntsR (.new w w') w' u x.1
def RowsCode (w : World) (x : List (List Int) × Int) (r : Value) (w' : World) : Prop := ∃ u, r = .tuple #[u, .int .i64 x.2] ∧ RowsR (.new w w') w' u x.1
theorem IntsCode_nil {w w' : World} {x : List Int × Int} {c : Int} (h : x = ([], c)) : IntsCode w x (.tuple #[.slice none 0 0, .int .i64 c]) w' := by rw [h]; exact ⟨_, rfl, SliceR.nil _ _ _⟩
theorem RowsCode_nil {w w' : World} {x : List (List Int) × Int} {c : Int} (h : x = ([], c)) : RowsCode w x (.tuple #[.slice none 0 0, .int .i64 c]) w' := by rw [h]; exact ⟨_, rfl, SliceR.nil _ _ _⟩
theorem IntsCode_own {w w' : World} {x : List Int × Int} {c : Int} {ys : List Int} {u : Value} {e : TypeId} (h : x = (ys, c)) (ho : OwnP (Value.int .i64) e w.heap.size w' u ys) (hm : ∀ y ∈ ys, I64 y) : IntsCode w x (.tuple #[u, .int .i64 c]) w' := by
  rw [h]; exact ⟨_, rfl, OwnP.ints ho hm (Nat.le_refl _)⟩
theorem IntsCode_mk {w w' : World} {x : List Int × Int} {c : Int} {ys : List Int} {u : Value} (h : x = (ys, c)) (hr : IntsR (.new w w') w' u ys) : IntsCode w x (.tuple #[u, .int .i64 c]) w' := by
  rw [h]; exact ⟨_, rfl, hr⟩

/-- 'append(s, x...)' as one step of a region that draws its order -/
theorem step_appendR {α : Type} {f : α → Value} {e : TypeId} {B : Nat} {w : World} {v : Value} {xs : List α} {P : Program} {ops : Array Oper} {o : Oper} {a : Act} {K : Act → World → Prop} {Q : Exit → Act → World → Prop} {X : Prop} (hgd : o.guard = Option.none) (s x : Operand) (t : TypeId)
    (ho : o.op = .call { callee := .builtin .append, args := #[s, x], argTypes := #[t, t] }) (x0 : α) (bytes : Nat) (ht : P.underlying t = some (.slice e)) (hinfo : (P.info? e).map (fun i => (i.zero, i.size, i.bytes)) = some (some (f x0), 1, bytes))
    (hcell : (f x0).cells = #[f x0]) (h1 : ∀ x, (f x).oneCell' = true) (hs : a.eval s = v) (hown : OwnP f e B w v xs)
    {E : Repr α} (hE : ∀ {z w u x}, E z w u x → u = f x) {z : Zone} {xv : Value} {ys : List α} (hx : a.eval x = xv) (hr : SliceR E z w xv ys)
    (hn : xs.length + ys.length ≤ 1099511627776) (hby : bytes ≤ 64) (hB : B ≤ w.heap.size)
    (h : ∀ v' w', OwnP f e B w' v' (xs ++ ys) → w.grownBy w' v.ownBlock → K (a.put o.dst v') w') : if Region.wanted o (yielded ops a.tmps) = true then Oper.wp P o a w K Q else X := by
  have hw : Region.wanted o (yielded ops a.tmps) = true := by simp [Region.wanted, hgd]
  rw [if_pos hw]
  obtain ⟨i, hi, hz0, hz1, hz2⟩ := info_parts hinfo
  have hbb : (xs.length + ys.length) * bytes ≤ 140737488355328 := Nat.le_trans (Nat.mul_le_mul hn hby) (by omega)
  obtain ⟨ad, n, cap, rfl, hn', -, -, -, hnone, hel⟩ := SliceR.shape hr
  cases ad with
  | some ad =>
    subst hn'
    refine wp_append_own w s x t ho B e i (f x0) 1 bytes ht hi hz0 hz1 hz2 (by rw [hcell]; rfl) (by omega) v xs.length (xs.map f) hs hown ad ys.length cap (ys.map f) hx (by simp) ?_ ?_ (by unfold maxLen; omega) hbb hB ?_
    · intro j u hu
      rw [List.getElem?_map] at hu
      obtain ⟨y, hy, rfl⟩ := Option.map_eq_some_iff.1 hu
      obtain ⟨hj, rfl⟩ := List.getElem?_eq_some_iff.1 hy
      obtain ⟨b, off, he, _, _, _, u', y', hc, _, _, hu'⟩ := hel j hj
      injection he with he
      subst he
      rw [Addr.add_lit, hc, hE hu']
    · intro u hu
      obtain ⟨y, _, rfl⟩ := List.mem_map.1 hu
      exact h1 y
    · intro v' w' hv' hg _
      refine h v' w' ?_ hg
      unfold OwnP
      rw [List.length_append, List.map_append]
      exact hv'
  | none =>
    obtain ⟨rfl, rfl⟩ := hnone rfl
    obtain rfl : ys = [] := List.eq_nil_of_length_eq_zero hn'.symm
    have hrun := run_append_owned_none (P := P) w B t o.type e i 1 ht hi _ _ _ hown
    unfold Oper.wp
    simp [execOp, ho, resolve, invoke, builtin, hs, hx, hrun, Result.andThen]
    exact h v w (by simpa using hown) (World.grownBy.refl _ _)

/-- a slice cut at k: its front and its rest -/
theorem SliceR.front {α : Type} {E : Repr α} {z : Zone} {w : World} {a : Option Addr} {n cap : Nat} {xs : List α} (h : SliceR E z w (.slice a n cap) xs) (k : Nat) (hk : k ≤ n) : SliceR E z w (.slice a k cap) (xs.take k) := by
  obtain ⟨a', cap', he, h1, h2, h3, h4⟩ := h
  injection he with e1 e2 e3
  subst e1; subst e2; subst e3
  have hl : (xs.take k).length = k := by simp; omega
  refine ⟨a, cap, by rw [hl], by omega, h2, fun h => ⟨by rw [(h3 h).1]; simp, (h3 h).2⟩, fun ad had hpos => ?_⟩
  rw [hl] at hpos
  obtain ⟨k1, k2, k3, k4, Z, k5, k6, k7⟩ := h4 ad had (by omega)
  refine ⟨k1, k2, k3, fun ho i hi => k4 ho i (by omega), Z, fun i hi => k5 i (by omega), fun ho => ⟨fun i hi => (k6 ho).1 i (by omega), fun i j hij hj => (k6 ho).2 i j hij (by omega)⟩, fun i hi => ?_⟩
  obtain ⟨u, c1, c2⟩ := k7 i (by omega)
  exact ⟨u, c1, by rw [List.getElem_take]; exact c2⟩
theorem SliceR.rest {α : Type} {E : Repr α} {z : Zone} {w : World} {b off : Nat} {n cap : Nat} {xs : List α} (h : SliceR E z w (.slice (some ⟨b, off, none⟩) n cap) xs) (k : Nat) (hk : k ≤ n) {a : Option Addr} (ha : a = if cap = k then some ⟨b, off, none⟩ else some ⟨b, off + k, none⟩) :
    SliceR E z w (.slice a (n - k) (cap - k)) (xs.drop k) := by
  obtain ⟨a', cap', he, h1, h2, h3, h4⟩ := h
  injection he with e1 e2 e3
  subst e1; subst e2; subst e3
  have hl : (xs.drop k).length = xs.length - k := by simp
  refine ⟨a, cap - k, by rw [hl], by omega, by unfold maxLen at *; omega, (fun h => by rw [ha] at h; split at h <;> cases h), fun ad had hpos => ?_⟩
  rw [hl] at hpos
  have hne : ¬ cap = k := by omega
  rw [ha, if_neg hne] at had
  cases had
  obtain ⟨k1, k2, k3, k4, Z, k5, k6, k7⟩ := h4 _ rfl (by omega)
  refine ⟨rfl, k2, k3, fun ho i hi => ?_, fun i => Z (k + i), fun i hi => k5 (k + i) (by omega), fun ho => ⟨fun i hi => (k6 ho).1 (k + i) (by omega), fun i j hij hj => (k6 ho).2 (k + i) (k + j) (by omega) (by omega)⟩, fun i hi => ?_⟩
  · have := k4 ho (k + i) (by omega)
    show w.frozen? ⟨b, off + k + i, none⟩ = false
    rw [Nat.add_assoc]; exact this
  · obtain ⟨u, c1, c2⟩ := k7 (k + i) (by omega)
    refine ⟨u, ?_, by rw [List.getElem_drop]; exact c2⟩
    show w.cell? ⟨b, off + k + i, none⟩ = some u
    rw [Nat.add_assoc]; exact c1
end Go.Proofs.YtnndaboaeijbkaaDoor
