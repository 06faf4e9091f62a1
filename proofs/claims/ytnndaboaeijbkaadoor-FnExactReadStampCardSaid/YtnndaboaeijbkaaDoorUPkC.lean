/- Proved: the hull of keys, as the reference makes it; an append of one slice that lies elsewhere; a list of lists that lie elsewhere; the locks of a system, as the reference makes them; the locks of all doors, as the reference makes them; slices.Compact at a list of numbers, laid; the sort of a list of numbers, laid; slices.Sort at a list of numbers that the call owns; slices.Compact at a list of numbers that the call owns; the hull of keys, as the program makes it; the locks of all doors, as the program makes them. -/
import Derived.Test.YtnndaboaeijbkaaDoorChecked
import Derived.Shelf.SlicesG.Cells
import Derived.Ground.SlgnProg
import Derived.Shelf.SortM.Plain
import Derived.Shelf.SortM.SortNone
import Derived.Ground.SlgmProg
import Derived.Deep.RegionLaw
import Derived.Test.YtnndaboaeijbkaaDoorUIsSystem
import Derived.Test.YtnndaboaeijbkaaDoorUOwnRows
import Derived.Test.YtnndaboaeijbkaaDoorUAreKeys
import Derived.Test.YtnndaboaeijbkaaDoorUExt
import Derived.Test.YtnndaboaeijbkaaDoorUBase
namespace Go.Proofs.YtnndaboaeijbkaaDoor
open Go.ChangeShapes Go.WideShapes Go.ChangeAt Go.RowKit
set_option linter.unusedVariables false

/-- a lock that the call has made -/
def LockP (l : List (List Int)) (w : World) (r : Value) (w' : World) : Prop := ∃ x, r = .agg #[x] ∧ RowsR (.new w w') w' x l

open Go.ChangeShapes Go.WideShapes Go.ChangeAt Go.RowKit
set_option linter.unusedVariables false

section
variable {α : Type} {b : Bool} {A A0 : Nat → Prop} {E : Repr α} {e : TypeId} {B : Nat} {w w' : World} {v : Value} {xs : List α}
theorem run_appendOld {P : Program} (hE : Stable E) (t ty : TypeId) (ht : P.underlying t = some (.slice e)) (hinfo : (P.info? e).map (fun i => (i.zero, i.size, i.bytes)) = some (some (.slice Option.none 0 0), 1, 24))
    (hA : ∀ k, k < w.heap.size → A0 k → A k) (hown : OwnA b A0 E e B w v xs) {u : Option Addr × Nat × Nat} {y : α} {Y : Zone} (hu : E Y w (slV u) y) (hyo : b = true → Y.own = true)
    (hz : ∀ k, Y.Has k → A k ∧ k < w.heap.size ∧ v.ownBlock ≠ some k ∧ (b = true → ¬ A0 k)) {g : Nat} (hg : w.heap.size = g) (hn : xs.length + 1 ≤ 1099511627776) (hB : B ≤ w.heap.size) :
    ∃ v' w', (Builtin.append_ #[t, t] ty #[v, .slice (some ⟨g, 0, Option.none⟩) 1 1]).run P (w.alloc (.cells #[slV u] e)) = .ok v' w' ∧
      (OwnA b A E e B w' v' (xs ++ [y]) ∧ Below B w w' ∧ w.grownBy w' v.ownBlock ∧ ∀ k, v'.ownBlock = some k → v.ownBlock = some k ∨ w.heap.size ≤ k) := by
  subst hg
  have hbk := hown.block
  have hb : Below w.heap.size w (w.alloc (.cells #[slV u] e)) := (Below.refl _ _).alloc (Nat.le_refl _) _
  obtain ⟨v', w', hr, ho, hgr, hat⟩ := run_appendRowsY (P := P) (w := w.alloc (.cells #[slV u] e)) (ad := ⟨w.heap.size, 0, Option.none⟩) (cap := 1) (ys := [y]) hE t ty ht hinfo hA hown hb (fun _ => Y) (fun _ _ => hyo)
    (fun _ _ k hk => ⟨(hz k hk).1, by have := (hz k hk).2.1; simp; omega, (hz k hk).2.2.1⟩) (fun hb _ _ k hk _ => (hz k hk).2.2.2 hb) (fun _ i j hij hj => by simp at hj; omega)
    (fun j hj => by
      have : j = 0 := by simpa using hj
      subst this
      exact ⟨u, by rw [Addr.add_lit]; simp, fun _ => hE.below hu hb⟩) (by simp) (by unfold maxLen; omega) (by simpa using hn) hB
  have hg' : w.grownBy w' v.ownBlock := grownBy_trans (World.grownBy_alloc w _ _) hgr
  refine ⟨v', w', hr, ho, (Below.refl B w).grown hg' hB (fun k hk => (hbk k hk).1), hg', fun k hk => ?_⟩
  rcases hat with hat | hat
  · exact .inl (hat ▸ hk)
  · right; rw [hat] at hk; injection hk with hk; simp at hk; omega
end

open Go.ChangeShapes Go.WideShapes Go.ChangeAt Go.RowKit
set_option linter.unusedVariables false

/-- a list of the call's own, of lists that lie elsewhere -/
abbrev AliasR (e : TypeId) (B : Nat) (w : World) (v : Value) (xs : List (List Int)) : Prop := OwnA false (fun _ => True) IntsR e B w v xs
theorem IntsR.free {z : Zone} {w : World} {v : Value} {xs : List Int} (h : IntsR z w v xs) : IntsR ⟨0, w.heap.size, false⟩ w v xs := by
  obtain ⟨a, cap, rfl, h1, h2, h3, h4⟩ := h
  refine ⟨a, cap, rfl, h1, h2, h3, fun ad had hpos => ?_⟩
  obtain ⟨k1, k2, k3, k4, Z, k5, k6, k7⟩ := h4 ad had hpos
  refine ⟨k1, ⟨Nat.zero_le _, k3⟩, k3, (fun h => by cases h), fun _ => ⟨0, 0, false⟩, fun i _ => ⟨fun k hk => absurd hk.2 (Nat.not_lt_zero _), fun h => by cases h⟩, (fun h => by cases h), fun i hi => ?_⟩
  obtain ⟨u, c1, c2⟩ := k7 i hi
  exact ⟨u, c1, c2⟩
theorem wpList_appendAlias {e : TypeId} {B : Nat} {w : World} {v : Value} {xs : List (List Int)} {P : Program} {ops : Array Oper} {rest : List Oper} {o : Oper} {a : Act} {Q : Exit → Act → World → Prop} (hgd : o.guard = Option.none) (s x : Operand) (t : TypeId)
    (ho : o.op = .call { callee := .builtin .append, args := #[s, x], argTypes := #[t, t] }) (ht : P.underlying t = some (.slice e)) (hinfo : (P.info? e).map (fun i => (i.zero, i.size, i.bytes)) = some (some (.slice Option.none 0 0), 1, 24))
    (hs : a.eval s = v) (hown : AliasR e B w v xs) (u : Option Addr × Nat × Nat) (y : List Int) {w0 : World} (hu : IntsR ⟨0, w0.heap.size, false⟩ w (slV u) y) (h0 : w0.heap.size ≤ B) (hx : a.eval x = .slice (some ⟨w.heap.size, 0, Option.none⟩) 1 1)
    (hn : xs.length + 1 ≤ 1099511627776) (hB : B ≤ w.heap.size)
    (h : ∀ v' w', AliasR e B w' v' (xs ++ [y]) → Below B w w' → w.grownBy w' v.ownBlock → (∀ k, v'.ownBlock = some k → v.ownBlock = some k ∨ w.heap.size ≤ k) → wpList P ops Q rest (a.put o.dst v') w') : wpList P ops Q (o :: rest) a (w.alloc (.cells #[slV u] e)) := by
  have hbk := hown.block
  refine wpList_append_of hgd s x t ho hs hx (fun ty => run_appendOld stable_ints t ty ht hinfo (A := fun _ => True) (fun _ _ _ => trivial) hown hu (fun h => by cases h) (fun k hk => ⟨trivial, ?_, fun e => ?_, fun h => by cases h⟩) rfl hn hB) (fun v' w' h' => h v' w' h'.1 h'.2.1 h'.2.2.1 h'.2.2.2)
  · have := hk.2; simp only at this; omega
  · have h1 := (hbk k e).1; have := hk.2; simp only at this; omega
theorem AliasR.rows {e : TypeId} {B : Nat} {w : World} {v : Value} {xs : List (List Int)} (h : AliasR e B w v xs) : RowsR ⟨0, w.heap.size, false⟩ w v xs := OwnA.reads h (fun k _ => Nat.zero_le k) (Nat.zero_le _)
theorem AliasR.ext {e : TypeId} {B : Nat} {w w' : World} {v : Value} {xs : List (List Int)} (h : AliasR e B w v xs) (he : Ext w w') : AliasR e B w' v xs := OwnA.below stable_ints h he
theorem AliasR.empty {e : TypeId} {B : Nat} {w : World} (hB : B ≤ w.heap.size) : AliasR e B (w.alloc (.cells #[] e)) (.slice (some ⟨w.heap.size, 0, Option.none⟩) 0 0) [] := OwnA.empty hB

open Go.ChangeShapes Go.WideShapes Go.ChangeAt Go.RowKit
set_option linter.unusedVariables false

open Go.ChangeShapes Go.WideShapes Go.ChangeAt Go.RowKit
set_option linter.unusedVariables false

abbrev LocksR : Repr (List (List (List Int))) := SliceR RowsR
theorem stable_locks : Stable LocksR := stable_slice stable_rows
/-- cuts for the first rows of a system -/
structure PartOk (mk : MK) (t cuts : List (List Int)) : Prop extends SysOk mk t where
  le : cuts.length ≤ t.length
  key : ∀ r ∈ cuts, KeyOk mk r

open Go.ChangeShapes Go.WideShapes Go.ChangeAt Go.RowKit
set_option linter.unusedVariables false
open Go.Shelf

open Go.ChangeShapes Go.WideShapes Go.ChangeAt Go.RowKit
set_option linter.unusedVariables false
open Go.Shelf

open Go.ChangeShapes Go.WideShapes Go.ChangeAt Go.RowKit
set_option linter.unusedVariables false
open Go.Shelf

theorem own_put {α : Type} [Inhabited α] {f : α → Value} {e : TypeId} {B g n cap : Nat} {w : World} {xs ys : List α} (h : OwnP f e B w (.slice (some ⟨g, 0, none⟩) n cap) xs) (hl : ys.length = xs.length) (m : Nat) (os : Array Obj) :
    OwnP f e B (Sort.grow (Sort.putRow f (Sort.ahead w m) g 0 ys.toArray) os) (.slice (some ⟨g, 0, none⟩) n cap) ys ∧ (B ≤ w.heap.size → Below B w (Sort.grow (Sort.putRow f (Sort.ahead w m) g 0 ys.toArray) os)) := by
  rcases h.2 with ⟨h1, h2⟩ | ⟨g', cap', cur, h1, hB, hcur, hn, hm, hs, ht⟩
  · cases h1
  · simp at h1
    obtain ⟨rfl, rfl, rfl⟩ := h1
    have hgl : g < w.heap.size := by
      rcases Nat.lt_or_ge g w.heap.size with h | h
      · exact h
      · rw [Array.getElem?_eq_none h] at hcur; cases hcur
    have hblk : (Sort.grow (Sort.putRow f (Sort.ahead w m) g 0 ys.toArray) os).heap[g]? = some (.cells (Sort.putCells f 0 ys.toArray cur) e (0, 0)) := by
      rw [Sort.heap_grow_old _ _ (by simpa [Sort.putRow, Sort.mapBlock] using hgl)]
      show ((w.heap.modify g (Sort.onCells (Sort.putCells f 0 ys.toArray)))[g]?) = _
      rw [Array.getElem?_modify, if_pos rfl, hcur]; rfl
    constructor
    · refine ⟨by simp, .inr ⟨g, cap, Sort.putCells f 0 ys.toArray cur, by rw [hl], hB, hblk, by omega, hm, by simpa [Sort.putCells] using hs, ?_⟩⟩
      apply List.ext_getElem?
      intro k
      simp only [List.getElem?_take, List.getElem?_map, Sort.putCells, Array.getElem?_toList, Array.getElem?_mapIdx]
      by_cases hk : k < ys.length
      · have hkc : k < cur.size := by omega
        simp [hk, hkc]
      · simp [hk]
    · intro hBw
      refine ⟨rfl, rfl, rfl, by simp [Sort.grow, Sort.putRow, Sort.mapBlock], fun k hk => ?_⟩
      rw [Sort.heap_grow_old _ _ (by simp [Sort.putRow, Sort.mapBlock]; omega)]
      show ((w.heap.modify g (Sort.onCells (Sort.putCells f 0 ys.toArray)))[k]?) = _
      rw [Array.getElem?_modify, if_neg (by omega)]

open Go.ChangeShapes Go.WideShapes Go.ChangeAt Go.RowKit
set_option linter.unusedVariables false
open Go.Shelf

theorem OwnP.front {α : Type} {f : α → Value} {e : TypeId} {B g n cap : Nat} {w : World} {xs : List α} (h : OwnP f e B w (.slice (some ⟨g, 0, Option.none⟩) n cap) xs) (k : Nat) (hk : k ≤ n) : OwnP f e B w (.slice (some ⟨g, 0, Option.none⟩) k cap) (xs.take k) := by
  have hn := h.len
  rcases h.2 with ⟨h1, h2⟩ | ⟨g', cap', cur, h1, hB, hcur, hnc, hm, hs, ht⟩
  · cases h1
  · simp at h1
    obtain ⟨rfl, rfl, rfl⟩ := h1
    have hl : (xs.take k).length = k := by rw [List.length_take]; omega
    refine ⟨by simp, .inr ⟨g, cap, cur, by rw [hl], hB, hcur, by omega, hm, hs, ?_⟩⟩
    rw [hl, Nat.mul_one, List.map_take, ← ht, List.take_take, Nat.mul_one, Nat.min_eq_left (by omega)]

/-! ### what sorting and compacting leaves -/
theorem compact_rise {zs : List Int} (hs : zs.Pairwise (· ≤ ·)) : ∀ m, m ≤ zs.length → (Lib.compactUpTo zs.toArray m).Pairwise (· < ·) ∧ ∀ x, x ∈ Lib.compactUpTo zs.toArray m ↔ ∃ j, j < m ∧ zs.toArray[j]! = x := by
  have hle : ∀ i j, i ≤ j → j < zs.length → zs.toArray[i]! ≤ zs.toArray[j]! := by
    intro i j hij hj
    have e1 : zs.toArray[i]! = zs[i]'(by omega) := by simp [show i < zs.length by omega]
    have e2 : zs.toArray[j]! = zs[j] := by simp [hj]
    rw [e1, e2]
    rcases Nat.lt_or_ge i j with h | h
    · exact List.pairwise_iff_getElem.1 hs i j (by omega) hj h
    · have : i = j := by omega
      subst this; exact Int.le_refl _
  intro m
  induction m with
  | zero => intro _; exact ⟨by simp [Lib.compactUpTo], fun x => by simp [Lib.compactUpTo]⟩
  | succ m ih =>
    intro hm
    obtain ⟨h1, h2⟩ := ih (by omega)
    rw [Lib.compactUpTo_succ]
    cases hk : Lib.keeps zs.toArray m with
    | true =>
      simp only [if_true]
      have hne : m = 0 ∨ zs.toArray[m]! ≠ zs.toArray[m-1]! := of_decide_eq_true hk
      refine ⟨List.pairwise_append.2 ⟨h1, List.pairwise_singleton _ _, fun a ha b hb => ?_⟩, fun x => ?_⟩
      · rw [List.mem_singleton.1 hb]
        obtain ⟨j, hj, rfl⟩ := (h2 a).1 ha
        rcases hne with h0 | hne
        · omega
        · have q1 := hle j (m-1) (by omega) (by omega)
          have q2 := hle (m-1) m (by omega) (by omega)
          omega
      · rw [List.mem_append, h2, List.mem_singleton]
        constructor
        · rintro (⟨j, hj, e⟩ | e)
          · exact ⟨j, by omega, e⟩
          · exact ⟨m, by omega, e.symm⟩
        · rintro ⟨j, hj, e⟩
          by_cases hjm : j = m
          · subst hjm; exact .inr e.symm
          · exact .inl ⟨j, by omega, e⟩
    | false =>
      have hne : ¬ (m = 0 ∨ zs.toArray[m]! ≠ zs.toArray[m-1]!) := of_decide_eq_false hk
      have hm0 : m ≠ 0 := fun h => hne (.inl h)
      have he : zs.toArray[m]! = zs.toArray[m-1]! := Decidable.not_not.1 (fun h => hne (.inr h))
      simp only [Bool.false_eq_true, if_false, List.append_nil]
      refine ⟨h1, fun x => ?_⟩
      rw [h2]
      constructor
      · rintro ⟨j, hj, e⟩; exact ⟨j, by omega, e⟩
      · rintro ⟨j, hj, e⟩
        by_cases hjm : j = m
        · subst hjm; exact ⟨j - 1, by omega, by rw [← he]; exact e⟩
        · exact ⟨j, by omega, e⟩
theorem compact_sort (xs : List Int) : (Lib.compact (xs.mergeSort fun x y => decide (x ≤ y))).Pairwise (· < ·) ∧ ∀ x, x ∈ Lib.compact (xs.mergeSort fun x y => decide (x ≤ y)) ↔ x ∈ xs := by
  have hs : (xs.mergeSort fun x y => decide (x ≤ y)).Pairwise (· ≤ ·) := by
    have := List.pairwise_mergeSort (le := fun (x y : Int) => decide (x ≤ y)) (by intro a b c h1 h2; simp at *; omega) (by intro a b; simp; omega) xs
    exact this.imp (fun h => by simpa using h)
  have hp := List.mergeSort_perm xs (fun (x y : Int) => decide (x ≤ y))
  generalize (xs.mergeSort fun x y => decide (x ≤ y)) = zs at *
  obtain ⟨h1, h2⟩ := compact_rise hs zs.length (Nat.le_refl _)
  refine ⟨h1, fun x => ?_⟩
  unfold Lib.compact
  rw [h2, ← hp.mem_iff]
  constructor
  · rintro ⟨j, hj, rfl⟩
    have e1 : zs.toArray[j]! = zs[j] := by simp [hj]
    rw [e1]; exact List.getElem_mem hj
  · intro hx
    obtain ⟨j, hj, rfl⟩ := List.getElem_of_mem hx
    exact ⟨j, hj, by simp [hj]⟩

open Go.ChangeShapes Go.WideShapes Go.ChangeAt Go.RowKit
set_option linter.unusedVariables false

/-- the cuts of the first keys in chamber i -/
def colAt (keys : List (List Int)) (i n : Nat) : List Int := (keys.take n).map fun r => r.getD i 0
theorem colAt_succ {keys : List (List Int)} (i : Nat) {n : Nat} (h : n < keys.length) : colAt keys i (n+1) = colAt keys i n ++ [(keys.getD n []).getD i 0] := by
  unfold colAt
  rw [List.take_add_one, List.getElem?_eq_getElem h, List.map_append]
  simp [h]
theorem colAt_len (keys : List (List Int)) (i n : Nat) : (colAt keys i n).length ≤ n := by unfold colAt; rw [List.length_map, List.length_take]; omega
theorem colAt_all (keys : List (List Int)) (i : Nat) {n : Nat} (h : n = keys.length) : colAt keys i n = keys.map fun r => r.getD i 0 := by
  unfold colAt; rw [h, List.take_length]
theorem setAt_sort {keys : List (List Int)} {i D : Nat} (h : ∀ r ∈ keys, 0 ≤ r.getD i 0 ∧ r.getD i 0 < D) : Lib.compact ((keys.map fun r => r.getD i 0).mergeSort fun x y => decide (x ≤ y)) = setAt keys i D := by
  obtain ⟨h1, h2⟩ := compact_sort (keys.map fun r => r.getD i 0)
  refine rise_eq h1 (setAt_sorted keys i D) (fun x => ?_)
  rw [h2, setAt_mem, List.mem_map]
  constructor
  · rintro ⟨r, hr, rfl⟩; exact ⟨h r hr, r, hr, rfl⟩
  · rintro ⟨-, r, hr, e⟩; exact ⟨r, hr, e⟩

open Go.ChangeShapes Go.WideShapes Go.ChangeAt Go.RowKit
set_option linter.unusedVariables false

theorem rowsAt_front (t : List (List Int)) (d n : Nat) : ∀ T, n ≤ T → (rowsAt t d T).filter (fun k => decide (k < n)) = rowsAt t d n := by
  intro T
  induction T with
  | zero => intro h; obtain rfl : n = 0 := by omega
            rfl
  | succ T ih =>
    intro h
    by_cases e : n = T + 1
    · subst e
      rw [List.filter_eq_self]
      intro k hk
      exact decide_eq_true (rowsAt_lt hk)
    · rw [rowsAt_succ, List.filter_append, ih (by omega)]
      split
      · rw [List.filter_cons, decide_eq_false (by omega)]
        simp
      · simp
/-- the cuts of the first j of the rows that open a door -/
def keysTo (rs : List Nat) (cuts : List (List Int)) (j : Nat) : List (List Int) := ((rs.take j).filter fun k => decide (k < cuts.length)).map fun k => cuts.getD k []
theorem keysTo_succ {rs : List Nat} {cuts : List (List Int)} {j : Nat} (h : j < rs.length) : keysTo rs cuts (j+1) = keysTo rs cuts j ++ if rs.getD j 0 < cuts.length then [cuts.getD (rs.getD j 0) []] else [] := by
  unfold keysTo
  rw [List.take_add_one, List.getElem?_eq_getElem h, List.filter_append, List.map_append]
  have e : rs.getD j 0 = rs[j] := by simp [h]
  rw [e]
  congr 1
  by_cases hc : rs[j] < cuts.length
  · simp [hc]
  · simp [hc]
theorem keysTo_len (rs : List Nat) (cuts : List (List Int)) (j : Nat) : (keysTo rs cuts j).length ≤ j := by
  unfold keysTo
  rw [List.length_map]
  have := List.length_filter_le (fun k => decide (k < cuts.length)) (rs.take j)
  rw [List.length_take] at this
  omega
theorem keysTo_all {t cuts : List (List Int)} {d : Nat} (h : cuts.length ≤ t.length) : keysTo (rowsAt t d t.length) cuts (rowsAt t d t.length).length = keysAt t cuts d cuts.length := by
  unfold keysTo keysAt
  rw [List.take_length, rowsAt_front t d _ _ h]
end Go.Proofs.YtnndaboaeijbkaaDoor
