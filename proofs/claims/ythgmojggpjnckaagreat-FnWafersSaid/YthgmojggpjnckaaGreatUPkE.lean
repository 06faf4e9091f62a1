/- Proved: a list of integers that lies in a row of its own; a row of a list of rows of the call's own is written anew, in place; slices.Clone of a list of integers: a copy of the call's own; copies of lists of lists, program and reference; copyLists of the program: each copy lies in a row of its own; a system that a function hands back: its cell, and an append of what is read; a system made of a copy, in a box of its own; slices.Delete from a list of integers that the caller has made; slices.Delete from a list of integers in a row of the caller's own: only that row turns. -/
import Derived.Test.YthgmojggpjnckaaGreatChecked
import Derived.Deep.RegionLaw
import Derived.Test.YthgmojggpjnckaaGreatUPkA
import Derived.Test.YthgmojggpjnckaaGreatUPkD
import Derived.Test.YthgmojggpjnckaaGreatUPkB
namespace Go.Proofs.YthgmojggpjnckaaGreat
open Go.ChangeShapes Go.WideShapes Go.ChangeAt Go.RowKit
set_option linter.unusedVariables false

/-- a list that lies in a row of its own, inside the zone -/
def IntsO : Repr (List Int) := fun z w v xs => (∀ x ∈ xs, I64 x) ∧ OwnP (Value.int .i64) 2 0 w v xs ∧ ∀ k, v.ownBlock = some k → z.Has k
theorem OwnP.raise {α : Type} {f : α → Value} {e : TypeId} {B B' : Nat} {w : World} {v : Value} {xs : List α} (h : OwnP f e B w v xs) (hB : ∀ k, v.ownBlock = some k → B' ≤ k) : OwnP f e B' w v xs := by
  obtain ⟨h1, h2⟩ := h
  refine ⟨h1, ?_⟩
  rcases h2 with h2 | ⟨g, cap, cur, hv, hb, r⟩
  · exact .inl h2
  · exact .inr ⟨g, cap, cur, hv, hB g (by rw [hv]; rfl), r⟩
theorem stable_into : Stable IntsO := by
  constructor
  · rintro z w w' v xs ⟨hm, ⟨h1, h2⟩, hz⟩ hs
    refine ⟨hm, ⟨h1, ?_⟩, hz⟩
    rcases h2 with h2 | ⟨g, cap, cur, hv, hb, hg, r⟩
    · exact .inl h2
    · exact .inr ⟨g, cap, cur, hv, hb, by rw [hs g (hz g (by rw [hv]; rfl)) (Array.getElem?_eq_some_iff.1 hg).1]; exact hg, r⟩
  · rintro y z w v xs ⟨hm, ho, hz⟩ hs
    exact ⟨hm, ho, fun k hk => hs.1 k (hz k hk)⟩
theorem IntsO.own {z : Zone} {w : World} {v : Value} {xs : List Int} (h : IntsO z w v xs) : OwnP (Value.int .i64) 2 z.lo w v xs := h.2.1.raise (fun k hk => (h.2.2 k hk).1)
theorem IntsO.ints {z : Zone} {w : World} {v : Value} {xs : List Int} (h : IntsO z w v xs) : IntsR z w v xs := by
  obtain ⟨hm, ⟨h1, h2⟩, hz⟩ := h
  rcases h2 with ⟨rfl, h0⟩ | ⟨g, cap, cur, rfl, hb, hg, hnc, hcm, hcs, htake⟩
  · obtain rfl : xs = [] := List.eq_nil_of_length_eq_zero h0
    exact SliceR.nil _ _ _
  · have hgl : g < w.heap.size := (Array.getElem?_eq_some_iff.1 hg).1
    refine ⟨some ⟨g, 0, none⟩, cap, rfl, hnc, hcm, (fun h => by cases h), fun ad had _ => ?_⟩
    cases had
    refine ⟨rfl, hz g rfl, hgl, fun _ i _ => frozen_of_row w g _ cur _ hg, fun _ => ⟨0, 0, true⟩, fun i _ => ⟨fun k hk => absurd hk.2 (Nat.not_lt_zero _), fun _ => rfl⟩, fun _ => ⟨fun i _ hk => absurd hk.2 (Nat.not_lt_zero _), fun i j _ _ k hk => absurd hk.2 (Nat.not_lt_zero _)⟩, fun i hi' => ?_⟩
    refine ⟨.int .i64 xs[i], ?_, rfl, hm _ (List.getElem_mem _)⟩
    show w.cell? ⟨g, 0 + i, none⟩ = _
    rw [Nat.zero_add, cell_of_row w g i cur _ (0, 0) hg]
    have : (cur.toList.take (xs.length * 1))[i]? = (xs.map (Value.int .i64))[i]? := by rw [htake]
    rw [List.getElem?_take, if_pos (by omega)] at this
    simpa [hi'] using this
theorem OwnP.into {B : Nat} {w : World} {v : Value} {xs : List Int} (h : OwnP (Value.int .i64) 2 B w v xs) (hm : ∀ x ∈ xs, I64 x) {lo hi : Nat} {q : Bool} (hlo : lo ≤ B) (hhi : w.heap.size ≤ hi) : IntsO ⟨lo, hi, q⟩ w v xs :=
  ⟨hm, h.raise (fun k _ => Nat.zero_le k), fun k hk => ⟨Nat.le_trans hlo (h.block k hk).1, Nat.lt_of_lt_of_le (h.block k hk).2 hhi⟩⟩
theorem slRepr_into : SlRepr IntsO := by
  rintro z w u x ⟨_, ho, _⟩
  obtain ⟨a, n, cap, rfl, -⟩ := ho.shape
  exact ⟨(a, n, cap), rfl⟩
abbrev RowsO : Repr (List (List Int)) := SliceR IntsO
theorem stable_rowso : Stable RowsO := stable_slice stable_into
theorem IntsO.nil (z : Zone) (w : World) : IntsO z w (.slice none 0 0) [] := ⟨fun x hx => by simp at hx, OwnP.none, fun k hk => by cases hk⟩

open Go.ChangeShapes Go.WideShapes Go.ChangeAt Go.RowKit
set_option linter.unusedVariables false

/-- element i of a list in an own zone may be replaced by what lies in its own zone or in new memory -/
theorem SliceR.replace {α : Type} {E : Repr α} (hE : Stable E) {z : Zone} {w : World} {b off n cap : Nat} {xs : List α} (h : SliceR E z w (.slice (some ⟨b, off, none⟩) n cap) xs) (ho : z.own = true) (hz : z.hi ≤ w.heap.size) (i : Nat) (hi : i < n) :
    ∃ (u : Value) (Y : Zone) (hi' : i < xs.length), w.cell? ⟨b, off + i, none⟩ = some u ∧ w.frozen? ⟨b, off + i, none⟩ = false ∧ z.Has b ∧ E Y w u xs[i] ∧ Y.Sub z ∧ Y.own = true ∧ ¬ Y.Has b ∧
      ∀ (w1 : World) (u' : Value) (x' : α) (Y' : Zone) (H : Nat), z.hi ≤ H → w.heap.size ≤ w1.heap.size → (∀ k, k < w.heap.size → ¬ Y.Has k → w1.heap[k]? = w.heap[k]?) → E Y' w1 u' x' → Y'.own = true → (∀ k, Y'.Has k → k < H ∧ (Y.Has k ∨ w.heap.size ≤ k)) →
        SliceR E ⟨z.lo, H, true⟩ (w1.setCell ⟨b, off + i, none⟩ u') (.slice (some ⟨b, off, none⟩) n cap) (xs.set i x') := by
  obtain ⟨a, cap', he, h1, h2, h3, h4⟩ := h
  injection he with ha hn hc
  subst ha; subst hc; subst hn
  obtain ⟨k1, k2, k3, k4, Z, k5, k6, k7⟩ := h4 _ rfl (by omega)
  simp only at k2 k3 k4 k7
  have k6' := k6 ho
  obtain ⟨u, c1, c2⟩ := k7 i hi
  refine ⟨u, Z i, hi, c1, k4 ho i hi, k2, c2, k5 i hi, (k5 i hi).2 ho, k6'.1 i hi, fun w1 u' x' Y' H hH hsz hb hu hyo hy => ?_⟩
  have hbb : w1.heap[b]? = w.heap[b]? := hb b k3 (k6'.1 i hi)
  have hset : ∀ k, k ≠ b → (w1.setCell ⟨b, off + i, none⟩ u').heap[k]? = w1.heap[k]? := fun k hk => Below.heap_setCell _ _ _ _ hk
  refine ⟨some ⟨b, off, none⟩, cap, by simp, by simpa using h1, h2, (fun h => by cases h), fun ad had _ => ?_⟩
  cases had
  refine ⟨k1, ⟨k2.1, by have := k2.2; show b < H; omega⟩, by simp only [World.setCell, Array.size_modify]; omega, fun _ j hj => ?_, fun j => if j = i then Y' else Z j, fun j hj => ?_, fun _ => ⟨fun j hj => ?_, fun j l hjl hl => ?_⟩, fun j hj => ?_⟩
  · rw [World.frozen?_setCell, World.frozen?_of_block (w := w) (a := ⟨b, off + j, none⟩) hbb]; exact k4 ho j (by simpa using hj)
  · by_cases e : j = i
    · simp only [e, if_true]
      refine ⟨fun k hk => ?_, fun _ => hyo⟩
      obtain ⟨q1, q2⟩ := hy k hk
      refine ⟨?_, q1⟩
      have hlo : z.lo ≤ w.heap.size := by have := k2.1; omega
      rcases q2 with q2 | q2
      · exact ((k5 i hi).1 k q2).1
      · show z.lo ≤ k; omega
    · simp only [e, if_false]
      have hs := k5 j (by simpa using hj)
      exact ⟨fun k hk => ⟨(hs.1 k hk).1, by have := (hs.1 k hk).2; show k < H; omega⟩, fun _ => hs.2 ho⟩
  · by_cases e : j = i
    · simp only [e, if_true]; intro hk
      rcases (hy _ hk).2 with q | q
      · exact k6'.1 i hi q
      · omega
    · simp only [e, if_false]; exact k6'.1 j (by simpa using hj)
  · have hl' : l < xs.length := by simpa using hl
    have hj' : j < xs.length := by omega
    intro k ha hc
    by_cases e1 : j = i
    · have e2 : l ≠ i := by omega
      simp only [e1, e2, if_true, if_false] at ha hc
      rcases (hy _ ha).2 with q | q
      · exact k6'.2 i l (by omega) hl' k q hc
      · have := ((k5 l hl').1 k hc).2; omega
    · by_cases e2 : l = i
      · simp only [e1, e2, if_true, if_false] at ha hc
        rcases (hy _ hc).2 with q | q
        · exact k6'.2 j i (by omega) hi k ha q
        · have := ((k5 j hj').1 k ha).2; omega
      · simp only [e1, e2, if_false] at ha hc
        exact k6'.2 j l hjl hl' k ha hc
  · have hj' : j < xs.length := by simpa using hj
    obtain ⟨v, d1, d2⟩ := k7 j hj'
    have d1' : w1.cell? ⟨b, off + j, none⟩ = some v := by rw [World.cell?_of_block (w := w) (a := ⟨b, off + j, none⟩) hbb]; exact d1
    by_cases e : j = i
    · subst e
      refine ⟨u', World.cell?_setCell_same _ _ _ d1', ?_⟩
      simp only [if_true, List.getElem_set_self]
      refine hE.keep hu (fun k hk _ => hset k ?_)
      intro e
      subst e
      rcases (hy _ hk).2 with q | q
      · exact k6'.1 j hi q
      · omega
    · refine ⟨v, ?_, ?_⟩
      · rw [World.cell?_setCell_other _ _ _ _ (by intro h; injection h with _ h _; simp only at h; omega)]; exact d1'
      · simp only [e, if_false]
        rw [List.getElem_set_ne (by omega)]
        refine hE.keep (hE.keep d2 (fun k hk hlt => hb k hlt (fun q => ?_))) (fun k hk _ => hset k (fun e => k6'.1 j hj' (e ▸ hk)))
        rcases Nat.lt_or_gt_of_ne e with hlt | hgt
        · exact k6'.2 j i hlt hi k hk q
        · exact k6'.2 i j hgt hj' k q hk

theorem SliceR.conv {α β : Type} {E : Repr α} {F : Repr β} {z : Zone} {w : World} {v : Value} {xs : List α} {ys : List β} (h : SliceR E z w v xs) (hl : ys.length = xs.length) (hc : ∀ i (h : i < xs.length) (h' : i < ys.length) y u, E y w u xs[i] → F y w u ys[i]) : SliceR F z w v ys := by
  obtain ⟨a, cap, rfl, h1, h2, h3, h4⟩ := h
  refine ⟨a, cap, by rw [hl], by omega, h2, fun e => ⟨List.eq_nil_of_length_eq_zero (by rw [hl, (h3 e).1]; rfl), (h3 e).2⟩, fun ad had hp => ?_⟩
  obtain ⟨k1, k2, k3, k4, Z, k5, k6, k7⟩ := h4 ad had (by omega)
  refine ⟨k1, k2, k3, fun ho i hi => k4 ho i (by omega), Z, fun i hi => k5 i (by omega), fun ho => ⟨fun i hi => (k6 ho).1 i (by omega), fun i j hij hj => (k6 ho).2 i j hij (by omega)⟩, fun i hi => ?_⟩
  obtain ⟨u, c1, c2⟩ := k7 i (by omega)
  exact ⟨u, c1, hc i (by omega) hi _ _ c2⟩

/-- rows of which some are done: these are read alone, the others lie in rows of their own -/
def MixR : Repr (Bool × List Int) := fun z w v p => (p.1 = true → IntsR z w v p.2) ∧ (p.1 = false → IntsO z w v p.2)
theorem stable_mix : Stable MixR := ⟨fun h hs => ⟨fun e => stable_ints.keep (h.1 e) hs, fun e => stable_into.keep (h.2 e) hs⟩, fun h hs => ⟨fun e => stable_ints.sub (h.1 e) hs, fun e => stable_into.sub (h.2 e) hs⟩⟩
def mixL (f : Nat → List Int → List Int) (rows : List (List Int)) (k : Nat) : List (Bool × List Int) := (List.range rows.length).map fun j => if j < k then (true, f j (rows.getD j [])) else (false, rows.getD j [])
theorem mixL_len (f : Nat → List Int → List Int) (rows : List (List Int)) (k : Nat) : (mixL f rows k).length = rows.length := by simp [mixL]
theorem mixL_set (f : Nat → List Int → List Int) (rows : List (List Int)) (k : Nat) : (mixL f rows k).set k (true, f k (rows.getD k [])) = mixL f rows (k + 1) := by
  refine List.ext_getElem (by simp [mixL]) (fun i h1 h2 => ?_)
  rw [List.getElem_set]
  by_cases e : k = i
  · subst e; simp [mixL]
  · rw [if_neg e]
    by_cases e2 : i < k
    · simp [mixL, e2, show i < k + 1 by omega]
    · simp [mixL, e2, show ¬ i < k + 1 by omega]
theorem mixL_at (f : Nat → List Int → List Int) (rows : List (List Int)) (k : Nat) (h : k < (mixL f rows k).length) : (mixL f rows k)[k] = (false, rows.getD k []) := by simp [mixL]
def mapI (f : Nat → List Int → List Int) (rows : List (List Int)) (n : Nat) : List (List Int) := (List.range n).map fun j => f j (rows.getD j [])
theorem mapI_succ (f : Nat → List Int → List Int) (rows : List (List Int)) (n : Nat) : mapI f rows (n + 1) = mapI f rows n ++ [f n (rows.getD n [])] := by simp [mapI, List.range_succ]
theorem mapI_len (f : Nat → List Int → List Int) (rows : List (List Int)) (n : Nat) : (mapI f rows n).length = n := by simp [mapI]
theorem mapI_at (f : Nat → List Int → List Int) (rows : List (List Int)) {n k : Nat} (h : k < n) : (mapI f rows n).getD k [] = f k (rows.getD k []) := by simp [mapI, h]
theorem mix_start {f : Nat → List Int → List Int} {rows : List (List Int)} {z : Zone} {w : World} {v : Value} (h : RowsO z w v rows) : SliceR MixR z w v (mixL f rows 0) := by
  refine SliceR.conv h (mixL_len _ _ _) (fun i h1 h2 y u hu => ?_)
  have : (mixL f rows 0)[i] = (false, rows[i]) := by simp [mixL, h1]
  rw [this]
  exact ⟨fun e => (by cases e), fun _ => hu⟩
theorem mix_end {f : Nat → List Int → List Int} {rows : List (List Int)} {z : Zone} {w : World} {v : Value} (h : SliceR MixR z w v (mixL f rows rows.length)) : RowsR z w v (mapI f rows rows.length) := by
  refine SliceR.conv h (by rw [mixL_len, mapI_len]) (fun i h1 h2 y u hu => ?_)
  have hi : i < rows.length := by rw [mixL_len] at h1; exact h1
  have e1 : (mixL f rows rows.length)[i] = (true, f i (rows.getD i [])) := by simp [mixL, hi]
  have e2 : (mapI f rows rows.length)[i] = f i (rows.getD i []) := by simp [mapI]
  rw [e1] at hu
  rw [e2]
  exact hu.1 rfl

open Go.ChangeShapes Go.WideShapes Go.ChangeAt Go.RowKit
set_option linter.unusedVariables false

set_option maxHeartbeats 400000 in
theorem Clone_c (w : World) (v : Value) (z : Zone) (xs : List Int) (h : IntsR z w v xs) (hn : xs.length ≤ 1099511627776) :
    Calls Tryz.prog 112 #[v] w (Ret w fun r w' => OwnP (Value.int .i64) 2 w.heap.size w' r xs) := by
  obtain ⟨a, n, cap, rfl, hn', -, -, -, hnone, -⟩ := SliceR.shape h
  have hq := fun (wq : World) => Lib.run_eql_slice_nil (P := Tryz.prog) wq 41 2 a n cap 0 0 Tryz.underlying41
  have Hn := Lib.hid hn'; clear hn'
  cases a with
  | none =>
    obtain ⟨rfl, rfl⟩ := hnone rfl
    have hx : xs = [] := List.eq_nil_of_length_eq_zero Hn.out.symm
    subst hx
    clear Hn
    go_enter Tryz.func112, Tryz.ntmps112
    go_wp2_with fail
    go_ret
    exact ⟨_, rfl, OwnP.none, Below.refl _ _⟩
  | some ad =>
    clear hnone
    go_enter Tryz.func112, Tryz.ntmps112
    go_wp2_with (at_builtin; (refine wpList_appendR (f := Value.int .i64) (e := 2) (B := w.heap.size) (xs := []) (ys := xs) rfl _ _ 41 rfl 0 8 Tryz.underlying41 Tryz.infoI64 rfl (fun _ => rfl) rfl (OwnP.empty (Nat.le_refl _)) (E := IntR) (fun h => h.1) rfl (stable_ints.below h ((Below.refl _ _).alloc (Nat.le_refl _) _)) (by simpa using hn) (by omega) (by simp) ?_); intro v4 w4 hown4 hg4)
    go_ret
    exact ⟨_, rfl, by simpa using hown4, ((Below.refl _ _).alloc (Nat.le_refl _) _).grown hg4 (by simp) (fun j hj => ((OwnP.empty (f := Value.int .i64) (e := 2) (Nat.le_refl w.heap.size)).block j hj).1)⟩

set_option maxHeartbeats 400000 in
theorem l01Own_c (w : World) (v : Value) (z : Zone) (xs : List Int) (h : IntsR z w v xs) (hn : xs.length ≤ 1099511627776) :
    Calls Tryz.prog 78 #[v] w (Ret w fun r w' => OwnP (Value.int .i64) 2 w.heap.size w' r xs) := by
  obtain ⟨a, n, cap, rfl, hn', -, -, -, hnone, -⟩ := SliceR.shape h
  have Hn := Lib.hid hn'; clear hn' hnone
  go_enter Tryz.func78, Tryz.ntmps78
  go_wp2_with (at_builtin; (refine wpList_appendR (f := Value.int .i64) (e := 2) (B := w.heap.size) (xs := []) (ys := xs) rfl _ _ 41 rfl 0 8 Tryz.underlying41 Tryz.infoI64 rfl (fun _ => rfl) rfl (OwnP.empty (Nat.le_refl _)) (E := IntR) (fun h => h.1) rfl (stable_ints.below h ((Below.refl _ _).alloc (Nat.le_refl _) _)) (by simpa using hn) (by omega) (by simp) ?_); intro v4 w4 hown4 hg4)
  go_ret
  exact ⟨_, rfl, by simpa using hown4, ((Below.refl _ _).alloc (Nat.le_refl _) _).grown hg4 (by simp) (fun j hj => ((OwnP.empty (f := Value.int .i64) (e := 2) (Nat.le_refl w.heap.size)).block j hj).1)⟩

open Go.ChangeShapes Go.WideShapes Go.ChangeAt Go.RowKit
set_option linter.unusedVariables false

theorem take_next {α : Type} {xs : List (List α)} {k : Nat} (h : k < xs.length) : xs.take (k+1) = xs.take k ++ [xs.getD k []] := by
  rw [List.take_add_one, List.getElem?_eq_getElem h]; simp [h]

set_option maxRecDepth 20000 in
set_option maxHeartbeats 1000000 in
theorem copyLists_c (w : World) (v : Value) (z : Zone) (xss : List (List Int)) (h : RowsR z w v xss) (hl : xss.length ≤ 1000) (hr : ∀ k, k < xss.length → (xss.getD k []).length ≤ 1000) :
    Calls Tryz.prog 70 #[v] w (Ret w fun r w' => OwnR true w.heap.size IntsR 41 w.heap.size w' r xss) := by
  obtain ⟨a, n, cap, rfl, hn, hmax, -⟩ := SliceR.shape h
  have HT := Lib.hid (fun (k : Nat) (hk : k < n) => rows_at h hk)
  rw [← hn] at hl
  have HR : Hid (∀ k, k < n → (xss.getD k []).length ≤ 1000) := fun k hk => hr k (by omega)
  have HK : Hid (∀ k, k < n → xss.take (k+1) = xss.take k ++ [xss.getD k []]) := fun k hk => take_next (by omega)
  have HL : Hid (∀ k, (xss.take k).length ≤ k) := fun k => by rw [List.length_take]; omega
  have Hn : Hid (xss.take n = xss) := by show _ = _; rw [hn, List.take_length]
  clear hn h hr
  go_enter Tryz.func70, Tryz.ntmps70
  go_wp2_with fail
  generalize hw1 : World.alloc _ _ = w1
  obtain ⟨e1, o1⟩ : Ext w w1 ∧ OwnR true w.heap.size IntsR 41 w.heap.size w1 (.slice (some ⟨w.heap.size, 0, none⟩) 0 0) [] := by
    subst hw1
    exact ⟨Ext.alloc _ _, OwnR.empty (Nat.le_refl _)⟩
  clear hw1
  go_loopw [3, 5, 9] (fun o _ s wr => ∃ k : Nat, k ≤ n ∧ s = .int .i64 k ∧ OwnR true w.heap.size IntsR 41 w.heap.size wr o (xss.take k) ∧ Ext w wr) (fun _ _ s _ => n - (intOf s).toNat)
  case atStart => exact ⟨0, Nat.zero_le _, rfl, o1, e1⟩
  case round =>
    obtain ⟨k, hk, rfl, own, ew⟩ := hrel
    have hsz := ew.size
    by_cases hlt : k < n
    · obtain ⟨b, off, rfl, a1, n1, k1, hn1, hm1, -, hc, ⟨y, -, hy⟩, -⟩ := HT.out k hlt
      replace hc := hc wr ew
      have hy' := hy wr ew
      have HM := Lib.hid (IntsR.mem hy')
      have hcall := Clone_c wr _ y _ hy' (Nat.le_trans (HR.out k hlt) (by decide))
      have hlen := HL.out k
      have HSk := Lib.hid (HK.out k hlt)
      generalize xss.getD k [] = row at *
      generalize xss.take k = us at *
      clear hy hy' hn1
      go_wp2_with fail
      refine Calls.mono hcall ?_
      rintro e w2 hr
      obtain ⟨r, rfl, hx, e2⟩ := ret_ext hr
      clear hr hcall
      have hx' : IntsR (.new wr w2) w2 r row := hx.ints HM.out (Nat.le_refl _)
      obtain ⟨xa, xn, xc, rfl, -⟩ := SliceR.shape hx'
      clear hx
      go_wp2_with (at_builtin; (refine wpList_appendRow (E := IntsR) (L := w.heap.size) (B := w.heap.size) (xs := us) stable_ints slRepr_slice rfl _ _ 30 rfl Tryz.underlying30 Tryz.infoInts rfl own e2 (xa, xn, xc) row hx' rfl (by omega) (by omega) (by omega) ?_); intro v6 w6 hown6 hb6 hs6 hg6 hat6)
      go_roundw
      case rel => exact ⟨k + 1, by omega, by go_num, by rw [HSk.out]; exact hown6, Below.trans ew hb6⟩
      case measure => simp [intOf]; omega
    · have hkn : k = n := by omega
      have HH : Hid (xss.take k = xss) := by show _ = _; rw [hkn]; exact Hn.out
      go_wp2_with fail
      go_ret
      exact ⟨_, rfl, by rw [← HH.out]; simpa using own, ew⟩

set_option maxRecDepth 20000 in
set_option maxHeartbeats 1000000 in
theorem l15Lists_c (w : World) (v : Value) (z : Zone) (xss : List (List Int)) (h : RowsR z w v xss) (hl : xss.length ≤ 1000) (hr : ∀ k, k < xss.length → (xss.getD k []).length ≤ 1000) :
    Calls Tryz.prog 170 #[v] w (Ret w fun r w' => OwnR true w.heap.size IntsR 41 w.heap.size w' r xss) := by
  obtain ⟨a, n, cap, rfl, hn, hmax, -⟩ := SliceR.shape h
  have HT := Lib.hid (fun (k : Nat) (hk : k < n) => rows_at h hk)
  rw [← hn] at hl
  have HR : Hid (∀ k, k < n → (xss.getD k []).length ≤ 1000) := fun k hk => hr k (by omega)
  have HK : Hid (∀ k, k < n → xss.take (k+1) = xss.take k ++ [xss.getD k []]) := fun k hk => take_next (by omega)
  have HL : Hid (∀ k, (xss.take k).length ≤ k) := fun k => by rw [List.length_take]; omega
  have Hn : Hid (xss.take n = xss) := by show _ = _; rw [hn, List.take_length]
  clear hn h hr
  go_enter Tryz.func170, Tryz.ntmps170
  go_wp2_with fail
  generalize hw1 : World.alloc _ _ = w1
  obtain ⟨e1, o1⟩ : Ext w w1 ∧ OwnR true w.heap.size IntsR 41 w.heap.size w1 (.slice (some ⟨w.heap.size, 0, none⟩) 0 0) [] := by
    subst hw1
    exact ⟨Ext.alloc _ _, OwnR.empty (Nat.le_refl _)⟩
  clear hw1
  go_loopw [3, 4] (fun o s wr => ∃ k : Nat, k ≤ n ∧ s = .int .i64 k ∧ OwnR true w.heap.size IntsR 41 w.heap.size wr o (xss.take k) ∧ Ext w wr) (fun _ s _ => n - (intOf s).toNat)
  case atStart => exact ⟨0, Nat.zero_le _, rfl, o1, e1⟩
  case round =>
    obtain ⟨k, hk, rfl, own, ew⟩ := hrel
    have hsz := ew.size
    by_cases hlt : k < n
    · obtain ⟨b, off, rfl, a1, n1, k1, hn1, hm1, -, hc, ⟨y, -, hy⟩, -⟩ := HT.out k hlt
      replace hc := hc wr ew
      have hy' := hy wr ew
      have HM := Lib.hid (IntsR.mem hy')
      have hcall := l01Own_c wr _ y _ hy' (Nat.le_trans (HR.out k hlt) (by decide))
      have hlen := HL.out k
      have HSk := Lib.hid (HK.out k hlt)
      generalize xss.getD k [] = row at *
      generalize xss.take k = us at *
      clear hy hy' hn1
      go_wp2_with fail
      refine Calls.mono hcall ?_
      rintro e w2 hr
      obtain ⟨r, rfl, hx, e2⟩ := ret_ext hr
      clear hr hcall
      have hx' : IntsR (.new wr w2) w2 r row := hx.ints HM.out (Nat.le_refl _)
      obtain ⟨xa, xn, xc, rfl, -⟩ := SliceR.shape hx'
      clear hx
      go_wp2_with (at_builtin; (refine wpList_appendRow (E := IntsR) (L := w.heap.size) (B := w.heap.size) (xs := us) stable_ints slRepr_slice rfl _ _ 30 rfl Tryz.underlying30 Tryz.infoInts rfl own e2 (xa, xn, xc) row hx' rfl (by omega) (by omega) (by omega) ?_); intro v6 w6 hown6 hb6 hs6 hg6 hat6)
      go_roundw
      case rel => exact ⟨k + 1, by omega, by go_num, by rw [HSk.out]; exact hown6, Below.trans ew hb6⟩
      case measure => simp [intOf]; omega
    · have hkn : k = n := by omega
      have HH : Hid (xss.take k = xss) := by show _ = _; rw [hkn]; exact Hn.out
      go_wp2_with fail
      go_ret
      exact ⟨_, rfl, by rw [← HH.out]; simpa using own, ew⟩

open Go.ChangeShapes Go.WideShapes Go.ChangeAt Go.RowKit
set_option linter.unusedVariables false

theorem OwnA.conv {α : Type} {E F : Repr α} {b : Bool} {A : Nat → Prop} {e : TypeId} {B : Nat} {w : World} {v : Value} {xs : List α} (h : OwnA b A E e B w v xs) (hc : ∀ {z w u x}, E z w u x → F z w u x) : OwnA b A F e B w v xs := by
  obtain ⟨us, Z, hl, ho, h1, h2, h3⟩ := h
  exact ⟨us, Z, hl, ho, h1, h2, fun i hi hi' => hc (h3 i hi hi')⟩

set_option maxRecDepth 20000 in
set_option maxHeartbeats 1000000 in
theorem copyListsO_c (w : World) (v : Value) (z : Zone) (xss : List (List Int)) (h : RowsR z w v xss) (hl : xss.length ≤ 1000) (hr : ∀ k, k < xss.length → (xss.getD k []).length ≤ 1000) :
    Calls Tryz.prog 70 #[v] w (Ret w fun r w' => OwnR true w.heap.size IntsO 41 w.heap.size w' r xss) := by
  obtain ⟨a, n, cap, rfl, hn, hmax, -⟩ := SliceR.shape h
  have HT := Lib.hid (fun (k : Nat) (hk : k < n) => rows_at h hk)
  rw [← hn] at hl
  have HR : Hid (∀ k, k < n → (xss.getD k []).length ≤ 1000) := fun k hk => hr k (by omega)
  have HK : Hid (∀ k, k < n → xss.take (k+1) = xss.take k ++ [xss.getD k []]) := fun k hk => take_next (by omega)
  have HL : Hid (∀ k, (xss.take k).length ≤ k) := fun k => by rw [List.length_take]; omega
  have Hn : Hid (xss.take n = xss) := by show _ = _; rw [hn, List.take_length]
  clear hn h hr
  go_enter Tryz.func70, Tryz.ntmps70
  go_wp2_with fail
  generalize hw1 : World.alloc _ _ = w1
  obtain ⟨e1, o1⟩ : Ext w w1 ∧ OwnR true w.heap.size IntsO 41 w.heap.size w1 (.slice (some ⟨w.heap.size, 0, none⟩) 0 0) [] := by
    subst hw1
    exact ⟨Ext.alloc _ _, OwnR.empty (Nat.le_refl _)⟩
  clear hw1
  go_loopw [3, 5, 9] (fun o _ s wr => ∃ k : Nat, k ≤ n ∧ s = .int .i64 k ∧ OwnR true w.heap.size IntsO 41 w.heap.size wr o (xss.take k) ∧ Ext w wr) (fun _ _ s _ => n - (intOf s).toNat)
  case atStart => exact ⟨0, Nat.zero_le _, rfl, o1, e1⟩
  case round =>
    obtain ⟨k, hk, rfl, own, ew⟩ := hrel
    have hsz := ew.size
    by_cases hlt : k < n
    · obtain ⟨b, off, rfl, a1, n1, k1, hn1, hm1, -, hc, ⟨y, -, hy⟩, -⟩ := HT.out k hlt
      replace hc := hc wr ew
      have hy' := hy wr ew
      have HM := Lib.hid (IntsR.mem hy')
      have hcall := Clone_c wr _ y _ hy' (Nat.le_trans (HR.out k hlt) (by decide))
      have hlen := HL.out k
      have HSk := Lib.hid (HK.out k hlt)
      generalize xss.getD k [] = row at *
      generalize xss.take k = us at *
      clear hy hy' hn1
      go_wp2_with fail
      refine Calls.mono hcall ?_
      rintro e w2 hr
      obtain ⟨r, rfl, hx, e2⟩ := ret_ext hr
      clear hr hcall
      have hx' : IntsO (.new wr w2) w2 r row := hx.into HM.out (Nat.le_refl _) (Nat.le_refl _)
      obtain ⟨xa, xn, xc, rfl, -⟩ := OwnP.shape hx
      clear hx
      go_wp2_with (at_builtin; (refine wpList_appendRow (E := IntsO) (L := w.heap.size) (B := w.heap.size) (xs := us) stable_into slRepr_into rfl _ _ 30 rfl Tryz.underlying30 Tryz.infoInts rfl own e2 (xa, xn, xc) row hx' rfl (by omega) (by omega) (by omega) ?_); intro v6 w6 hown6 hb6 hs6 hg6 hat6)
      go_roundw
      case rel => exact ⟨k + 1, by omega, by go_num, by rw [HSk.out]; exact hown6, Below.trans ew hb6⟩
      case measure => simp [intOf]; omega
    · have hkn : k = n := by omega
      have HH : Hid (xss.take k = xss) := by show _ = _; rw [hkn]; exact Hn.out
      go_wp2_with fail
      go_ret
      exact ⟨_, rfl, by rw [← HH.out]; simpa using own, ew⟩

open Go.ChangeShapes Go.WideShapes Go.ChangeAt Go.RowKit
set_option linter.unusedVariables false

def noSys : MK := ⟨0, 0, 0, 0, 0⟩
/-- a result's cell for a system, still empty -/
structure ResAt (w : World) (b : Nat) : Prop where
  c0 : w.cell? ⟨b, 0, none⟩ = some (.int .i64 0)
  c1 : w.cell? ⟨b, 1, none⟩ = some (.int .i64 0)
  c2 : w.cell? ⟨b, 2, none⟩ = some (.int .i64 0)
  c3 : w.cell? ⟨b, 3, none⟩ = some (.int .i64 0)
  c4 : w.cell? ⟨b, 4, none⟩ = some (.int .i64 0)
  c5 : w.cell? ⟨b, 5, none⟩ = some (.slice none 0 0)
  f0 : w.frozen? ⟨b, 0, none⟩ = false
  f1 : w.frozen? ⟨b, 1, none⟩ = false
  f2 : w.frozen? ⟨b, 2, none⟩ = false
  f3 : w.frozen? ⟨b, 3, none⟩ = false
  f4 : w.frozen? ⟨b, 4, none⟩ = false
  f5 : w.frozen? ⟨b, 5, none⟩ = false
theorem ResAt.lt {w : World} {b : Nat} (h : ResAt w b) : b < w.heap.size := World.block_lt_of_cell? _ _ h.c0
theorem ResAt.of {w w' : World} {b : Nat} (h : ResAt w b) (hb : w'.heap[b]? = w.heap[b]?) : ResAt w' b :=
  ⟨(World.cell?_of_block hb).trans h.c0, (World.cell?_of_block hb).trans h.c1, (World.cell?_of_block hb).trans h.c2, (World.cell?_of_block hb).trans h.c3, (World.cell?_of_block hb).trans h.c4, (World.cell?_of_block hb).trans h.c5,
   (World.frozen?_of_block hb).trans h.f0, (World.frozen?_of_block hb).trans h.f1, (World.frozen?_of_block hb).trans h.f2, (World.frozen?_of_block hb).trans h.f3, (World.frozen?_of_block hb).trans h.f4, (World.frozen?_of_block hb).trans h.f5⟩
theorem ResAt.ext {w w' : World} {b : Nat} (h : ResAt w b) (e : Ext w w') : ResAt w' b := h.of (Below.block e b h.lt)
theorem SysAt.of {w w' : World} {b : Nat} {mk : MK} {u : Value} (h : SysAt w b mk u) (hb : w'.heap[b]? = w.heap[b]?) : SysAt w' b mk u :=
  ⟨(World.cell?_of_block hb).trans h.c0, (World.cell?_of_block hb).trans h.c1, (World.cell?_of_block hb).trans h.c2, (World.cell?_of_block hb).trans h.c3, (World.cell?_of_block hb).trans h.c4, (World.cell?_of_block hb).trans h.c5⟩
theorem res_new (w : World) (t : TypeId) : ResAt (w.alloc (.cells #[.int .i64 0, .int .i64 0, .int .i64 0, .int .i64 0, .int .i64 0, .slice none 0 0] t)) w.heap.size :=
  ⟨by simp, by simp, by simp, by simp, by simp, by simp, by simp, by simp, by simp, by simp, by simp, by simp⟩
/-- the box of a system and the result's cell -/
theorem two_box {w w1 : World} {mk : MK} {u : Value} {t t' : TypeId} (h : (w.alloc (.cells #[.int .i64 mk.c, .int .i64 mk.d, .int .i64 mk.s, .int .i64 mk.m, .int .i64 mk.l, u] t)).alloc (.cells #[.int .i64 0, .int .i64 0, .int .i64 0, .int .i64 0, .int .i64 0, .slice none 0 0] t') = w1) :
    Ext w w1 ∧ SysAt w1 w.heap.size mk u ∧ ResAt w1 (w.heap.size + 1) ∧ w1.heap.size = w.heap.size + 2 := by
  subst h
  obtain ⟨e0, s0⟩ := sys_box (w := w) (mk := mk) (u := u) (t := t) rfl
  refine ⟨e0.trans (Ext.alloc _ _), s0.ext (Ext.alloc _ _), ?_, by simp⟩
  have := res_new (w.alloc (.cells #[.int .i64 mk.c, .int .i64 mk.d, .int .i64 mk.s, .int .i64 mk.m, .int .i64 mk.l, u] t)) t'
  rwa [World.size_alloc] at this
theorem setCells6 {w w' : World} {b : Nat} {d0 d1 d2 d3 d4 d5 x0 x1 x2 x3 x4 x5 : Value}
    (h : (((((w.setCell ⟨b, 0, none⟩ x0).setCell ⟨b, 1, none⟩ x1).setCell ⟨b, 2, none⟩ x2).setCell ⟨b, 3, none⟩ x3).setCell ⟨b, 4, none⟩ x4).setCell ⟨b, 5, none⟩ x5 = w')
    (c0 : w.cell? ⟨b, 0, none⟩ = some d0) (c1 : w.cell? ⟨b, 1, none⟩ = some d1) (c2 : w.cell? ⟨b, 2, none⟩ = some d2) (c3 : w.cell? ⟨b, 3, none⟩ = some d3) (c4 : w.cell? ⟨b, 4, none⟩ = some d4) (c5 : w.cell? ⟨b, 5, none⟩ = some d5) :
    Within ⟨b, b + 1, true⟩ w w' ∧ w'.cell? ⟨b, 0, none⟩ = some x0 ∧ w'.cell? ⟨b, 1, none⟩ = some x1 ∧ w'.cell? ⟨b, 2, none⟩ = some x2 ∧ w'.cell? ⟨b, 3, none⟩ = some x3 ∧ w'.cell? ⟨b, 4, none⟩ = some x4 ∧ w'.cell? ⟨b, 5, none⟩ = some x5 := by
  subst h
  refine ⟨?_, ?_, ?_, ?_, ?_, ?_, ?_⟩
  · exact ((((((Within.refl _ w).setCell ⟨Nat.le_refl _, Nat.lt_succ_self _⟩ _).setCell ⟨Nat.le_refl _, Nat.lt_succ_self _⟩ _).setCell ⟨Nat.le_refl _, Nat.lt_succ_self _⟩ _).setCell ⟨Nat.le_refl _, Nat.lt_succ_self _⟩ _).setCell ⟨Nat.le_refl _, Nat.lt_succ_self _⟩ _).setCell ⟨Nat.le_refl _, Nat.lt_succ_self _⟩ _
  all_goals go_simp
theorem setCells6g {w w' : World} {b : Nat} {d0 d1 d2 d3 d4 d5 x0 x1 x2 x3 x4 x5 : Value}
    (h : (((((w.setCell ⟨b, 0, none⟩ x0).setCell ⟨b, 1, none⟩ x1).setCell ⟨b, 2, none⟩ x2).setCell ⟨b, 3, none⟩ x3).setCell ⟨b, 4, none⟩ x4).setCell ⟨b, 5, none⟩ x5 = w')
    (c0 : w.cell? ⟨b, 0, none⟩ = some d0) (c1 : w.cell? ⟨b, 1, none⟩ = some d1) (c2 : w.cell? ⟨b, 2, none⟩ = some d2) (c3 : w.cell? ⟨b, 3, none⟩ = some d3) (c4 : w.cell? ⟨b, 4, none⟩ = some d4) (c5 : w.cell? ⟨b, 5, none⟩ = some d5) {a : World} (ha : a.heap.size ≤ b) (hb : Ext a w) : Ext a w' :=
  Below.trans hb ((setCells6 h c0 c1 c2 c3 c4 c5).1.below (by simpa using ha))
/-- what a function hands back: a system and a code -/
def SysRes (w : World) (x : (MK × List (List Int)) × Int) (r : Value) (w' : World) : Prop := ∃ u, r = .tuple #[sysV x.1.1 u, .int .i64 x.2] ∧ RowsR (.new w w') w' u x.1.2
theorem SysRes.bad {w w' : World} {x : (MK × List (List Int)) × Int} {c : Int} (h : x = ((noSys, []), c)) : SysRes w x (.tuple #[sysV noSys (.slice none 0 0), .int .i64 c]) w' := by
  subst h; exact ⟨_, rfl, SliceR.nil _ _ _⟩
/-- 'append(s, x...)', s of the call's own, x any slice that reads as ys -/
theorem run_appendR {α : Type} {f : α → Value} {e : TypeId} {B : Nat} {w : World} {v : Value} {xs : List α} {P : Program} (t ty : TypeId) (x0 : α) (bytes : Nat) (ht : P.underlying t = some (.slice e)) (hinfo : (P.info? e).map (fun i => (i.zero, i.size, i.bytes)) = some (some (f x0), 1, bytes))
    (hcell : (f x0).cells = #[f x0]) (h1 : ∀ x, (f x).oneCell' = true) (hown : OwnP f e B w v xs)
    {E : Repr α} (hE : ∀ {z w u x}, E z w u x → u = f x) {z : Zone} {xv : Value} {ys : List α} (hr : SliceR E z w xv ys)
    (hn : xs.length + ys.length ≤ 1099511627776) (hby : bytes ≤ 64) (hB : B ≤ w.heap.size) :
    ∃ v' w', (Builtin.append_ #[t, t] ty #[v, xv]).run P w = .ok v' w' ∧ (OwnP f e B w' v' (xs ++ ys) ∧ w.grownBy w' v.ownBlock ∧ Below B w w' ∧ ∀ k, v'.ownBlock = some k → v.ownBlock = some k ∨ w.heap.size ≤ k) := by
  obtain ⟨i, hi, hz0, hz1, hz2⟩ := info_parts hinfo
  obtain ⟨ad, n, cap, rfl, hn', -, hcap, hmax, hnone, hel⟩ := SliceR.shape hr
  cases ad with
  | none =>
    obtain ⟨rfl, rfl⟩ := hnone rfl
    obtain rfl : ys = [] := List.eq_nil_of_length_eq_zero hn'.symm
    have hrun := run_append_owned_none (P := P) w B t ty e i 1 ht hi _ _ _ hown
    exact ⟨v, w, hrun, by simpa using hown, World.grownBy.refl _ _, Below.refl _ _, fun k hk => .inl hk⟩
  | some ad =>
    subst hn'
    have hbb : (xs.length + ys.length) * bytes ≤ 140737488355328 := Nat.le_trans (Nat.mul_le_mul hn hby) (by omega)
    obtain ⟨v', w', hrun, hv', hg, -, hat⟩ := run_append_own_at (P := P) (w := w) B t ty e i (f x0) 1 bytes ht hi hz0 hz1 hz2 (by rw [hcell]; rfl) (by omega) v xs.length (xs.map f) hown ad ys.length cap (ys.map f) (by simp)
      (fun j u hu => by
        rw [List.getElem?_map] at hu
        obtain ⟨y, hy, rfl⟩ := Option.map_eq_some_iff.1 hu
        obtain ⟨hj, rfl⟩ := List.getElem?_eq_some_iff.1 hy
        obtain ⟨b, off, he, _, _, _, u, y, hc, _, _, hu⟩ := hel j hj
        injection he with he
        subst he
        rw [Addr.add_lit, hc, hE hu])
      (fun u hu => by
        obtain ⟨y, _, rfl⟩ := List.mem_map.1 hu
        exact h1 y) (by unfold maxLen; omega) hbb hB
    refine ⟨v', w', hrun, ?_, hg, (Below.refl _ _).grown hg hB (fun k hk => (hown.block k hk).1), fun k hk => ?_⟩
    · unfold OwnP
      rw [List.length_append, List.map_append]
      exact hv'
    · rcases hat with hat | hat
      · exact .inl (hat ▸ hk)
      · right; rw [hat] at hk; injection hk with hk; omega
/-- 'append(out, row)', both of the call's own -/
theorem run_rowA {P : Program} {e e2 : TypeId} {B L : Nat} {wr w : World} {v : Value} {us : List (List Int)} (t ty : TypeId) (ht : P.underlying t = some (.slice e)) (hinfo : (P.info? e).map (fun i => (i.zero, i.size, i.bytes)) = some (some (.slice Option.none 0 0), 1, 24))
    (hown : OwnR true L IntsR e B wr v us) (hb : Ext wr w) {a : Option Addr} {n c : Nat} {row : List Int} (o : OwnP (Value.int .i64) e2 wr.heap.size w (.slice a n c) row) (hm : ∀ x ∈ row, I64 x) {g : Nat} (hg : w.heap.size = g)
    (hn : us.length + 1 ≤ 1099511627776) (hL : L ≤ wr.heap.size) (hB : B ≤ wr.heap.size) :
    ∃ v' w', (Builtin.append_ #[t, t] ty #[v, .slice (some ⟨g, 0, Option.none⟩) 1 1]).run P (w.alloc (.cells #[.slice a n c] e)) = .ok v' w' ∧ (OwnR true L IntsR e B w' v' (us ++ [row]) ∧ Below B wr w' ∧ ∃ a2 n2 c2, v' = .slice a2 n2 c2 ∧ n2 = us.length + 1) := by
  obtain ⟨v', w', hr, h1, h2, h3, h4, h5⟩ := run_appendRowA (P := P) (ty := ty) stable_ints slRepr_slice t ht hinfo hown hb (u := (a, n, c)) (y := row) (OwnP.ints o hm (Nat.le_refl _)) hg hn (fun k hk => Nat.le_trans hL hk) hB
  obtain ⟨a2, n2, c2, rfl, hl, -⟩ := h1.shape
  exact ⟨_, w', hr, h1, h2, a2, n2, c2, rfl, by simpa using hl⟩
theorem ResAt.fill {w w' : World} {b : Nat} {x0 x1 x2 x3 x4 x5 : Value} (R : ResAt w b)
    (h : (((((w.setCell ⟨b, 0, none⟩ x0).setCell ⟨b, 1, none⟩ x1).setCell ⟨b, 2, none⟩ x2).setCell ⟨b, 3, none⟩ x3).setCell ⟨b, 4, none⟩ x4).setCell ⟨b, 5, none⟩ x5 = w') :
    Within ⟨b, b + 1, true⟩ w w' ∧ w'.cell? ⟨b, 0, none⟩ = some x0 ∧ w'.cell? ⟨b, 1, none⟩ = some x1 ∧ w'.cell? ⟨b, 2, none⟩ = some x2 ∧ w'.cell? ⟨b, 3, none⟩ = some x3 ∧ w'.cell? ⟨b, 4, none⟩ = some x4 ∧ w'.cell? ⟨b, 5, none⟩ = some x5 := setCells6 h R.c0 R.c1 R.c2 R.c3 R.c4 R.c5
theorem ResAt.drewN {w : World} {b : Nat} (R : ResAt w b) (n : Nat) : ResAt (w.drewN n) b := R.ext (Ext.drewN _ _)
theorem Within.above {a w w' : World} {b : Nat} (h : Within ⟨b, b + 1, true⟩ w w') (ha : a.heap.size ≤ b) (e : Ext a w) : Ext a w' := Below.trans e (h.below ha)

open Go.ChangeShapes Go.WideShapes Go.ChangeAt Go.RowKit
set_option linter.unusedVariables false

theorem keep_storeR {w W : World} {p : Addr} {u : Value} (h : Ext w W) (hp : w.heap.size ≤ p.block) : Ext w (W.setCell p u) := Below.setCell h hp u
theorem afterR {w W : World} {t : TypeId} (e : Ext (w.alloc (.cells #[.int .i64 0, .int .i64 0, .int .i64 0, .int .i64 0, .int .i64 0, .slice none 0 0] t)).drew W) : ResAt W w.heap.size := (res_new w t).ext (Ext.trans (Ext.drew _) e)
/-- a box at X that holds a system whose table is the call's own -/
def BoxP {α : Type} (E : Repr α) (w3 wB : World) (X : Nat) (mk : MK) (v : Value) (t : List α) : Prop :=
  ∃ L H, w3.heap.size ≤ L ∧ H ≤ wB.heap.size ∧ (X < L ∨ H ≤ X) ∧ w3.heap.size ≤ X ∧ SliceR E ⟨L, H, true⟩ wB v t ∧ SysAt wB X mk v ∧ Ext w3 wB
theorem boxA {α : Type} {E : Repr α} (hE : Stable E) {w3 w7 wB : World} {mk : MK} {v : Value} {e2 ty : TypeId} {t : List α} (e : Ext (w3.alloc (.cells #[.int .i64 0, .int .i64 0, .int .i64 0, .int .i64 0, .int .i64 0, .slice none 0 0] ty)).drew w7)
    (o : OwnR true (w3.alloc (.cells #[.int .i64 0, .int .i64 0, .int .i64 0, .int .i64 0, .int .i64 0, .slice none 0 0] ty)).drew.heap.size E e2 (w3.alloc (.cells #[.int .i64 0, .int .i64 0, .int .i64 0, .int .i64 0, .int .i64 0, .slice none 0 0] ty)).drew.heap.size w7 v t)
    (h : (((((w7.setCell ⟨w3.heap.size, 0, none⟩ (.int .i64 mk.c)).setCell ⟨w3.heap.size, 1, none⟩ (.int .i64 mk.d)).setCell ⟨w3.heap.size, 2, none⟩ (.int .i64 mk.s)).setCell ⟨w3.heap.size, 3, none⟩ (.int .i64 mk.m)).setCell ⟨w3.heap.size, 4, none⟩ (.int .i64 mk.l)).setCell ⟨w3.heap.size, 5, none⟩ v = wB) :
    BoxP E w3 wB w3.heap.size mk v t := by
  obtain ⟨wi, y0, y1, y2, y3, y4, y5⟩ := ResAt.fill (afterR e) h
  have hs := e.size
  have hs2 := wi.size
  have hr := OwnR.reads o (Nat.le_refl _)
  have h0 : (w3.alloc (.cells #[.int .i64 0, .int .i64 0, .int .i64 0, .int .i64 0, .int .i64 0, .slice none 0 0] ty)).drew.heap.size = w3.heap.size + 1 := World.size_alloc _ _
  rw [h0] at hr hs
  refine ⟨w3.heap.size + 1, w7.heap.size, by omega, by omega, .inl (by omega), Nat.le_refl _, (stable_slice hE).within hr wi (fun k h1 h2 => by have q1 := h1.1; have q2 := h2.2; simp only at q1 q2; omega), ⟨y0, y1, y2, y3, y4, y5⟩, ?_⟩
  exact wi.above (Nat.le_refl _) (((Ext.alloc _ _).trans (Ext.drew _)).trans e)
theorem boxB {α : Type} {E : Repr α} (hE : Stable E) {w3 w7 wB : World} {mk : MK} {v : Value} {e2 ty : TypeId} {t : List α} (e : Ext w3.drew w7) (o : OwnR true w3.drew.heap.size E e2 w3.drew.heap.size w7 v t)
    (h : w7.alloc (.cells #[.int .i64 mk.c, .int .i64 mk.d, .int .i64 mk.s, .int .i64 mk.m, .int .i64 mk.l, v] ty) = wB) :
    BoxP E w3 wB w7.heap.size mk v t := by
  obtain ⟨eB, sB⟩ := sys_box h
  have hs := eB.size
  have hs2 : w3.heap.size ≤ w7.heap.size := e.size
  exact ⟨w3.heap.size, w7.heap.size, Nat.le_refl _, hs, .inr (Nat.le_refl _), hs2, (stable_slice hE).ext (OwnR.reads o (Nat.le_refl _)) eB, sB, ((Ext.drew _).trans e).trans eB⟩
theorem boxStore {α : Type} {E : Repr α} (hE : Stable E) {w3 w8 wB : World} {mk : MK} {v : Value} {t : List α} {X L H : Nat} (R : ResAt w8 X) (hr : SliceR E ⟨L, H, true⟩ w8 v t) (hL : w3.heap.size ≤ L) (hH : H ≤ w8.heap.size) (hX : X < L ∨ H ≤ X) (hX0 : w3.heap.size ≤ X) (e : Ext w3 w8)
    (h : (((((w8.setCell ⟨X, 0, none⟩ (.int .i64 mk.c)).setCell ⟨X, 1, none⟩ (.int .i64 mk.d)).setCell ⟨X, 2, none⟩ (.int .i64 mk.s)).setCell ⟨X, 3, none⟩ (.int .i64 mk.m)).setCell ⟨X, 4, none⟩ (.int .i64 mk.l)).setCell ⟨X, 5, none⟩ v = wB) :
    BoxP E w3 wB X mk v t := by
  obtain ⟨wi, y0, y1, y2, y3, y4, y5⟩ := ResAt.fill R h
  have hs2 := wi.size
  refine ⟨L, H, hL, by omega, hX, hX0, (stable_slice hE).within hr wi (fun k h1 h2 => by have q1 := h1.1; have q2 := h1.2; have q3 := h2.1; have q4 := h2.2; simp only at q1 q2 q3 q4; omega), ⟨y0, y1, y2, y3, y4, y5⟩, wi.above hX0 e⟩
theorem boxAlloc {α : Type} {E : Repr α} (hE : Stable E) {w3 w8 wB : World} {mk : MK} {v : Value} {ty : TypeId} {t : List α} {L H : Nat} (hr : SliceR E ⟨L, H, true⟩ w8 v t) (hL : w3.heap.size ≤ L) (hH : H ≤ w8.heap.size) (e : Ext w3 w8)
    (h : w8.alloc (.cells #[.int .i64 mk.c, .int .i64 mk.d, .int .i64 mk.s, .int .i64 mk.m, .int .i64 mk.l, v] ty) = wB) :
    BoxP E w3 wB w8.heap.size mk v t := by
  obtain ⟨eB, sB⟩ := sys_box h
  have hs := eB.size
  exact ⟨L, H, hL, by omega, .inr hH, e.size, (stable_slice hE).ext hr eB, sB, e.trans eB⟩
theorem delExt {w3 wa w7 W w8 : World} (hw : Within ⟨wa.heap.size, w7.heap.size, true⟩ W w8) (e : Ext w3 W) (ha : Ext w3 wa) : Ext w3 w8 := Below.trans e (hw.below ha.size)
theorem delResA {w3 w7 W w8 : World} {t : TypeId} (e7 : Ext (w3.alloc (.cells #[.int .i64 0, .int .i64 0, .int .i64 0, .int .i64 0, .int .i64 0, .slice none 0 0] t)).drew w7) (e : Ext w7 W)
    (hw : Within ⟨(w3.alloc (.cells #[.int .i64 0, .int .i64 0, .int .i64 0, .int .i64 0, .int .i64 0, .slice none 0 0] t)).drew.heap.size, w7.heap.size, true⟩ W w8) : ResAt w8 w3.heap.size := by
  have h0 : (w3.alloc (.cells #[.int .i64 0, .int .i64 0, .int .i64 0, .int .i64 0, .int .i64 0, .slice none 0 0] t)).drew.heap.size = w3.heap.size + 1 := World.size_alloc _ _
  exact ((afterR e7).ext e).of (hw.block _ (fun h => by have q := h.1; simp only at q; omega))
theorem delResB {w7 W w8 : World} {t : TypeId} {L : Nat} (e : Ext (w7.alloc (.cells #[.int .i64 0, .int .i64 0, .int .i64 0, .int .i64 0, .int .i64 0, .slice none 0 0] t)) W)
    (hw : Within ⟨L, w7.heap.size, true⟩ W w8) : ResAt w8 w7.heap.size :=
  ((res_new w7 t).ext e).of (hw.block _ (fun h => by have q := h.2; simp only at q; omega))
theorem lowOf {α : Type} {E : Repr α} {e : TypeId} {w3 wa w7 : World} {v : Value} {t : List α} (_ : OwnR true wa.heap.size E e wa.heap.size w7 v t) (h : Ext w3 wa) : w3.heap.size ≤ wa.heap.size := h.size

open Go.ChangeShapes Go.WideShapes Go.ChangeAt Go.RowKit
set_option linter.unusedVariables false

def DelPost (B : Nat) (w : World) (ys : List Int) (e : Ending) (w' : World) : Prop := ∃ r, e = .returned r ∧ IntsR ⟨B, w'.heap.size, true⟩ w' r ys ∧ Below B w w'

theorem intsR_mk {z : Zone} {w : World} (b o n cap : Nat) (xs : List Int) (hn : n = xs.length) (h1 : n ≤ cap) (h2 : cap ≤ maxLen) (hz : z.Has b) (hb : b < w.heap.size) (hf : ∀ i, i < n → w.frozen? ⟨b, o + i, none⟩ = false) (hc : ∀ i, i < n → w.cell? ⟨b, o + i, none⟩ = some (.int .i64 (xs.getD i 0))) (hm : ∀ x ∈ xs, I64 x) :
    IntsR z w (.slice (some ⟨b, o, none⟩) n cap) xs := by
  subst hn
  refine ⟨some ⟨b, o, none⟩, cap, rfl, h1, h2, (fun h => by cases h), fun ad had _ => ?_⟩
  cases had
  refine ⟨rfl, hz, hb, fun _ i hi => hf i hi, fun _ => ⟨0, 0, z.own⟩, fun i _ => ⟨fun k hk => absurd hk.2 (Nat.not_lt_zero _), fun h => h⟩, fun _ => ⟨fun i _ hk => absurd hk.2 (Nat.not_lt_zero _), fun i j _ _ k hk => absurd hk.2 (Nat.not_lt_zero _)⟩, fun i hi => ?_⟩
  exact ⟨_, hc i hi, by simp [hi], hm _ (List.getElem_mem hi)⟩

theorem within_setCells (b : Nat) : ∀ (vs : List Value) (o : Nat) (w : World), Within ⟨b, b + 1, true⟩ w (w.setCells b o vs)
  | [], _, w => Within.refl _ w
  | v :: r, o, w => by
    have h1 : Within ⟨b, b + 1, true⟩ w (w.setCell ⟨b, o, none⟩ v) := (Within.refl _ _).setCell ⟨Nat.le_refl _, Nat.lt_succ_self _⟩ _
    exact h1.trans (within_setCells b r (o + 1) _)
theorem frozen_setCells (b : Nat) : ∀ (vs : List Value) (o : Nat) (w : World) (x : Addr), (w.setCells b o vs).frozen? x = w.frozen? x
  | [], _, _, _ => rfl
  | v :: r, o, w, x => by
    show ((w.setCell ⟨b, o, none⟩ v).setCells b (o + 1) r).frozen? x = _
    rw [frozen_setCells b r (o + 1), World.frozen?_setCell]
theorem cell_setCells_in (b : Nat) : ∀ (vs : List Value) (o : Nat) (w : World) (i : Nat) (hi : i < vs.length), (w.cell? ⟨b, o + i, none⟩).isSome = true → (w.setCells b o vs).cell? ⟨b, o + i, none⟩ = some vs[i]
  | v :: r, o, w, 0, _, h => by
    show ((w.setCell ⟨b, o, none⟩ v).setCells b (o + 1) r).cell? _ = _
    rw [World.cell?_setCells_out b r (o + 1) _ _ (fun _ _ => .inl (by simp))]
    obtain ⟨u, hu⟩ := Option.isSome_iff_exists.1 h
    exact World.cell?_setCell_same _ _ _ hu
  | v :: r, o, w, i + 1, hi, h => by
    show ((w.setCell ⟨b, o, none⟩ v).setCells b (o + 1) r).cell? _ = _
    have := cell_setCells_in b r (o + 1) (w.setCell ⟨b, o, none⟩ v) i (by simpa using hi) (by
      rw [World.cell?_setCell_other _ _ _ _ (by intro h; injection h with _ h _; omega), show o + 1 + i = o + (i + 1) by omega]; exact h)
    rw [show o + (i + 1) = o + 1 + i by omega, this]
    simp

theorem Tryz.zeroI64 : ∀ w, (zeroValue 2).run Tryz.prog w = .ok (.int .i64 0) w := fun _ => by kernel_rfl

set_option maxRecDepth 20000 in
set_option maxHeartbeats 2000000 in
theorem Delete_c (w : World) (B : Nat) (v : Value) (xs : List Int) (h : OwnP (Value.int .i64) 2 B w v xs) (hm : ∀ x ∈ xs, I64 x) (i j : Nat) (hij : i < j) (hj : j ≤ xs.length) :
    Calls Tryz.prog 80 #[v, .int .i64 i, .int .i64 j] w (DelPost B w (xs.take i ++ xs.drop j)) := by
  obtain ⟨i0, hi0, hz0, hz1, hz2⟩ := info_parts Tryz.infoI64
  rcases h.2 with ⟨-, h0⟩ | ⟨g, cap, cur, rfl, hb, hg, hnc, hcm, hcs, htake⟩
  · omega
  · have hn : ∃ n, n = xs.length := ⟨_, rfl⟩
    obtain ⟨n, hn⟩ := hn
    rw [← hn] at hnc h hj htake ⊢
    have hcm' := hcm
    unfold maxLen at hcm'
    have hgl : g < w.heap.size := (Array.getElem?_eq_some_iff.1 hg).1
    -- every cell below n
    have hcell : ∀ t, t < n → w.cell? ⟨g, t, none⟩ = some (.int .i64 (xs.getD t 0)) := fun t ht => by
      obtain ⟨h1, h2, -⟩ := h.at ht
      rw [h2]; simp [h1]
    have hfree : ∀ t, w.frozen? ⟨g, t, none⟩ = false := fun t => frozen_of_row w g t cur 2 hg
    obtain ⟨news, hnews⟩ : ∃ news, news = (xs.drop j).map (Value.int .i64) := ⟨_, rfl⟩
    have hlen : news.length = n - j := by rw [hnews]; simp; omega
    have hget : ∀ t, t < n - j → news[t]? = some (.int .i64 (xs.getD (j + t) 0)) := fun t ht => by
      rw [hnews, List.getElem?_map, List.getElem?_drop]; simp [show j + t < xs.length by omega]
    obtain ⟨A, hA, hsrc⟩ : ∃ A : Addr, (if cap = j then some (⟨g, 0, none⟩ : Addr) else some ⟨g, j, none⟩) = some A ∧ Hid (∀ t u, news[t]? = some u → w.drew.cell? (A.add t) = some u) := by
      by_cases h : cap = j
      · refine ⟨⟨g, 0, none⟩, by simp [h], fun t u hu => ?_⟩
        have h0 : news.length = 0 := by rw [hlen]; omega
        rw [List.length_eq_zero_iff.1 h0] at hu
        simp at hu
      · refine ⟨⟨g, j, none⟩, by simp [h], fun t u hu => ?_⟩
        have ht : t < n - j := by
          have := (List.getElem?_eq_some_iff.1 hu).1
          rwa [hlen] at this
        rw [hget t ht] at hu
        rw [Addr.add_lit]
        exact (hcell (j + t) (by omega)).trans hu
    have s1 : Hid (news.length = (n - j) * 1) := by rw [Nat.mul_one]; exact hlen
    have s2 : Hid (∀ u ∈ news, u.oneCell' = true) := by
      intro u hu
      rw [hnews] at hu
      obtain ⟨x, _, rfl⟩ := List.mem_map.1 hu
      rfl
    have s3 : Hid (∀ t, t < news.length → (w.drew.cell? ⟨g, 0 + i * 1 + t, none⟩).isSome = true ∧ w.drew.frozen? ⟨g, 0 + i * 1 + t, none⟩ = false) := by
      intro t ht
      rw [hlen] at ht
      rw [Nat.mul_one, Nat.zero_add]
      exact ⟨by show (w.cell? _).isSome = true; rw [hcell (i + t) (by omega)]; rfl, hfree _⟩
    obtain ⟨W1, hW1⟩ : ∃ W1, W1 = w.drew.setCells g (0 + i * 1) news := ⟨_, rfl⟩
    have hW1' : Within ⟨g, g + 1, true⟩ w W1 := by
      rw [hW1]; exact (⟨rfl, rfl, rfl, rfl, fun _ _ => rfl⟩ : Within _ w w.drew).trans (within_setCells g _ _ _)
    have hc1 : ∀ t, t < i → W1.cell? ⟨g, t, none⟩ = some (.int .i64 (xs.getD t 0)) := fun t ht => by
      rw [hW1, World.cell?_setCells_out g _ _ _ _ (fun _ _ => .inl (by simp; omega))]
      exact hcell t (by omega)
    have hc2 : ∀ t, t < n - j → W1.cell? ⟨g, i + t, none⟩ = some (.int .i64 (xs.getD (j + t) 0)) := fun t ht => by
      have := cell_setCells_in g news (0 + i * 1) w.drew t (by omega) ((s3.out t (by omega)).1)
      rw [Nat.mul_one, Nat.zero_add] at this hW1
      rw [hW1, this]
      have h2 := hget t ht
      rwa [List.getElem?_eq_getElem (by omega)] at h2
    have hc3 : ∀ t, t < n → (W1.cell? ⟨g, t, none⟩).isSome = true := fun t ht => by
      by_cases h1 : t < i
      · rw [hc1 t h1]; rfl
      · by_cases h2 : t < i + (n - j)
        · have := hc2 (t - i) (by omega)
          rw [show i + (t - i) = t by omega] at this
          rw [this]; rfl
        · rw [hW1, World.cell?_setCells_out g _ _ _ _ (fun _ _ => .inr (by simp; omega))]
          show (w.cell? _).isSome = true
          rw [hcell t ht]; rfl
    have hfr1 : ∀ t, W1.frozen? ⟨g, t, none⟩ = false := fun t => by rw [hW1, frozen_setCells]; exact hfree t
    obtain ⟨W2, hW2⟩ : ∃ W2, W2 = W1.setCells g (i + (n - j)) (List.replicate (n - (i + (n - j))) (Value.int .i64 0)) := ⟨_, rfl⟩
    have hcl : ∀ ty, (Builtin.clear_ #[41] ty #[.slice (some ⟨g, i + (n - j), none⟩) (n - (i + (n - j))) (cap - (i + (n - j)))]).run Tryz.prog W1 = .ok (.tuple #[]) W2 :=
      fun ty => by
        rw [hW2]
        exact Lib.run_clear_slice W1 _ _ ty _ Tryz.underlying41 Tryz.zeroI64 rfl rfl g (i + (n - j)) _ _ (by omega) (fun t ht => by
          have := hc3 (i + (n - j) + t) (by omega)
          exact this) (fun t ht => hfr1 _)
    have hW2' : Within ⟨g, g + 1, true⟩ w W2 := by rw [hW2]; exact hW1'.trans (within_setCells g _ _ _)
    have hr1 : Hid (∀ t, t < i → W2.cell? ⟨g, t, none⟩ = some (.int .i64 (xs.getD t 0))) := fun t ht => by
      rw [hW2, World.cell?_setCells_out g _ _ _ _ (fun _ _ => .inl (by simp; omega))]; exact hc1 t ht
    have hr2 : Hid (∀ t, t < n - j → W2.cell? ⟨g, i + t, none⟩ = some (.int .i64 (xs.getD (j + t) 0))) := fun t ht => by
      rw [hW2, World.cell?_setCells_out g _ _ _ _ (fun _ _ => .inl (by simp; omega))]; exact hc2 t ht
    have hr3 : Hid (∀ t, W2.frozen? ⟨g, t, none⟩ = false) := fun t => by rw [hW2, frozen_setCells]; exact hfr1 t
    have hW : Hid (W1 = w.drew.setCells g (0 + i * 1) news) := hW1
    have HW2 := Lib.hid hW2'
    have HX : Hid (n = xs.length ∧ (∀ x ∈ xs, I64 x)) := ⟨hn, hm⟩
    have hic : i ≤ cap := by omega
    have hjc : j ≤ cap := by omega
    clear hW1 hW2 hW1' hW2' hc1 hc2 hc3 hfr1 hget hnews hlen hcell hfree hn hm htake hcs hg
    go_enter Tryz.func80, Tryz.ntmps80
    go_wp2_with fail
    go_region_law (refine step_append_room rfl (.tmp 22) (.tmp 25) 41 rfl 2 i0 1 Tryz.underlying41 hi0 hz1 g 0 i cap (by simp [Act.eval, Act.put]) A (n - j) (cap - j) news (by simp [Act.eval, Act.put]) s1.out hsrc.out s2.out (by omega) s3.out ?_; rw [← hW.out])
    go_wp2
    go_ret
    obtain ⟨hn, hm⟩ := HX.out
    have hl : (xs.take i ++ xs.drop j).length = i + (n - j) := by simp; omega
    refine ⟨_, rfl, ?_, HW2.out.below hb⟩
    have hsz := HW2.out.size
    refine intsR_mk g 0 (i + (n - j)) cap _ hl.symm (by omega) hcm ⟨hb, by show g < W2.heap.size; omega⟩ (by omega) (fun t ht => by rw [Nat.zero_add]; exact hr3.out t) (fun t ht => ?_) (fun x hx => ?_)
    · rw [Nat.zero_add]
      by_cases h1 : t < i
      · rw [hr1.out t h1]
        have h2 : (xs.take i ++ xs.drop j)[t]? = xs[t]? := by rw [List.getElem?_append_left (by simp; omega), List.getElem?_take, if_pos h1]
        rw [List.getD_eq_getElem?_getD, List.getD_eq_getElem?_getD, h2]
      · have h0 := hr2.out (t - i) (by omega)
        rw [show i + (t - i) = t by omega] at h0
        rw [h0]
        have h2 : (xs.take i ++ xs.drop j)[t]? = xs[j + (t - i)]? := by rw [List.getElem?_append_right (by simp; omega), List.getElem?_drop]; congr 1; simp; omega
        rw [List.getD_eq_getElem?_getD, List.getD_eq_getElem?_getD, h2]
    · rcases List.mem_append.1 hx with hx | hx
      · exact hm x (List.mem_of_mem_take hx)
      · exact hm x (List.mem_of_mem_drop hx)

open Go.ChangeShapes Go.WideShapes Go.ChangeAt Go.RowKit
set_option linter.unusedVariables false

def DelIn (v : Value) (w : World) (ys : List Int) (e : Ending) (w' : World) : Prop := ∃ r g, e = .returned r ∧ v.ownBlock = some g ∧ IntsR ⟨g, g + 1, true⟩ w' r ys ∧ Within ⟨g, g + 1, true⟩ w w'

set_option maxRecDepth 20000 in
set_option maxHeartbeats 2000000 in
theorem DeleteIn_c (w : World) (B : Nat) (v : Value) (xs : List Int) (h : OwnP (Value.int .i64) 2 B w v xs) (hm : ∀ x ∈ xs, I64 x) (i j : Nat) (hij : i < j) (hj : j ≤ xs.length) :
    Calls Tryz.prog 80 #[v, .int .i64 i, .int .i64 j] w (DelIn v w (xs.take i ++ xs.drop j)) := by
  obtain ⟨i0, hi0, hz0, hz1, hz2⟩ := info_parts Tryz.infoI64
  rcases h.2 with ⟨-, h0⟩ | ⟨g, cap, cur, rfl, hb, hg, hnc, hcm, hcs, htake⟩
  · omega
  · have hn : ∃ n, n = xs.length := ⟨_, rfl⟩
    obtain ⟨n, hn⟩ := hn
    rw [← hn] at hnc h hj htake ⊢
    have hcm' := hcm
    unfold maxLen at hcm'
    have hgl : g < w.heap.size := (Array.getElem?_eq_some_iff.1 hg).1
    -- every cell below n
    have hcell : ∀ t, t < n → w.cell? ⟨g, t, none⟩ = some (.int .i64 (xs.getD t 0)) := fun t ht => by
      obtain ⟨h1, h2, -⟩ := h.at ht
      rw [h2]; simp [h1]
    have hfree : ∀ t, w.frozen? ⟨g, t, none⟩ = false := fun t => frozen_of_row w g t cur 2 hg
    obtain ⟨news, hnews⟩ : ∃ news, news = (xs.drop j).map (Value.int .i64) := ⟨_, rfl⟩
    have hlen : news.length = n - j := by rw [hnews]; simp; omega
    have hget : ∀ t, t < n - j → news[t]? = some (.int .i64 (xs.getD (j + t) 0)) := fun t ht => by
      rw [hnews, List.getElem?_map, List.getElem?_drop]; simp [show j + t < xs.length by omega]
    obtain ⟨A, hA, hsrc⟩ : ∃ A : Addr, (if cap = j then some (⟨g, 0, none⟩ : Addr) else some ⟨g, j, none⟩) = some A ∧ Hid (∀ t u, news[t]? = some u → w.drew.cell? (A.add t) = some u) := by
      by_cases h : cap = j
      · refine ⟨⟨g, 0, none⟩, by simp [h], fun t u hu => ?_⟩
        have h0 : news.length = 0 := by rw [hlen]; omega
        rw [List.length_eq_zero_iff.1 h0] at hu
        simp at hu
      · refine ⟨⟨g, j, none⟩, by simp [h], fun t u hu => ?_⟩
        have ht : t < n - j := by
          have := (List.getElem?_eq_some_iff.1 hu).1
          rwa [hlen] at this
        rw [hget t ht] at hu
        rw [Addr.add_lit]
        exact (hcell (j + t) (by omega)).trans hu
    have s1 : Hid (news.length = (n - j) * 1) := by rw [Nat.mul_one]; exact hlen
    have s2 : Hid (∀ u ∈ news, u.oneCell' = true) := by
      intro u hu
      rw [hnews] at hu
      obtain ⟨x, _, rfl⟩ := List.mem_map.1 hu
      rfl
    have s3 : Hid (∀ t, t < news.length → (w.drew.cell? ⟨g, 0 + i * 1 + t, none⟩).isSome = true ∧ w.drew.frozen? ⟨g, 0 + i * 1 + t, none⟩ = false) := by
      intro t ht
      rw [hlen] at ht
      rw [Nat.mul_one, Nat.zero_add]
      exact ⟨by show (w.cell? _).isSome = true; rw [hcell (i + t) (by omega)]; rfl, hfree _⟩
    obtain ⟨W1, hW1⟩ : ∃ W1, W1 = w.drew.setCells g (0 + i * 1) news := ⟨_, rfl⟩
    have hW1' : Within ⟨g, g + 1, true⟩ w W1 := by
      rw [hW1]; exact (⟨rfl, rfl, rfl, rfl, fun _ _ => rfl⟩ : Within _ w w.drew).trans (within_setCells g _ _ _)
    have hc1 : ∀ t, t < i → W1.cell? ⟨g, t, none⟩ = some (.int .i64 (xs.getD t 0)) := fun t ht => by
      rw [hW1, World.cell?_setCells_out g _ _ _ _ (fun _ _ => .inl (by simp; omega))]
      exact hcell t (by omega)
    have hc2 : ∀ t, t < n - j → W1.cell? ⟨g, i + t, none⟩ = some (.int .i64 (xs.getD (j + t) 0)) := fun t ht => by
      have := cell_setCells_in g news (0 + i * 1) w.drew t (by omega) ((s3.out t (by omega)).1)
      rw [Nat.mul_one, Nat.zero_add] at this hW1
      rw [hW1, this]
      have h2 := hget t ht
      rwa [List.getElem?_eq_getElem (by omega)] at h2
    have hc3 : ∀ t, t < n → (W1.cell? ⟨g, t, none⟩).isSome = true := fun t ht => by
      by_cases h1 : t < i
      · rw [hc1 t h1]; rfl
      · by_cases h2 : t < i + (n - j)
        · have := hc2 (t - i) (by omega)
          rw [show i + (t - i) = t by omega] at this
          rw [this]; rfl
        · rw [hW1, World.cell?_setCells_out g _ _ _ _ (fun _ _ => .inr (by simp; omega))]
          show (w.cell? _).isSome = true
          rw [hcell t ht]; rfl
    have hfr1 : ∀ t, W1.frozen? ⟨g, t, none⟩ = false := fun t => by rw [hW1, frozen_setCells]; exact hfree t
    obtain ⟨W2, hW2⟩ : ∃ W2, W2 = W1.setCells g (i + (n - j)) (List.replicate (n - (i + (n - j))) (Value.int .i64 0)) := ⟨_, rfl⟩
    have hcl : ∀ ty, (Builtin.clear_ #[41] ty #[.slice (some ⟨g, i + (n - j), none⟩) (n - (i + (n - j))) (cap - (i + (n - j)))]).run Tryz.prog W1 = .ok (.tuple #[]) W2 :=
      fun ty => by
        rw [hW2]
        exact Lib.run_clear_slice W1 _ _ ty _ Tryz.underlying41 Tryz.zeroI64 rfl rfl g (i + (n - j)) _ _ (by omega) (fun t ht => by
          have := hc3 (i + (n - j) + t) (by omega)
          exact this) (fun t ht => hfr1 _)
    have hW2' : Within ⟨g, g + 1, true⟩ w W2 := by rw [hW2]; exact hW1'.trans (within_setCells g _ _ _)
    have hr1 : Hid (∀ t, t < i → W2.cell? ⟨g, t, none⟩ = some (.int .i64 (xs.getD t 0))) := fun t ht => by
      rw [hW2, World.cell?_setCells_out g _ _ _ _ (fun _ _ => .inl (by simp; omega))]; exact hc1 t ht
    have hr2 : Hid (∀ t, t < n - j → W2.cell? ⟨g, i + t, none⟩ = some (.int .i64 (xs.getD (j + t) 0))) := fun t ht => by
      rw [hW2, World.cell?_setCells_out g _ _ _ _ (fun _ _ => .inl (by simp; omega))]; exact hc2 t ht
    have hr3 : Hid (∀ t, W2.frozen? ⟨g, t, none⟩ = false) := fun t => by rw [hW2, frozen_setCells]; exact hfr1 t
    have hW : Hid (W1 = w.drew.setCells g (0 + i * 1) news) := hW1
    have HW2 := Lib.hid hW2'
    have HX : Hid (n = xs.length ∧ (∀ x ∈ xs, I64 x)) := ⟨hn, hm⟩
    have hic : i ≤ cap := by omega
    have hjc : j ≤ cap := by omega
    clear hW1 hW2 hW1' hW2' hc1 hc2 hc3 hfr1 hget hnews hlen hcell hfree hn hm htake hcs hg
    go_enter Tryz.func80, Tryz.ntmps80
    go_wp2_with fail
    go_region_law (refine step_append_room rfl (.tmp 22) (.tmp 25) 41 rfl 2 i0 1 Tryz.underlying41 hi0 hz1 g 0 i cap (by simp [Act.eval, Act.put]) A (n - j) (cap - j) news (by simp [Act.eval, Act.put]) s1.out hsrc.out s2.out (by omega) s3.out ?_; rw [← hW.out])
    go_wp2
    go_ret
    obtain ⟨hn, hm⟩ := HX.out
    have hl : (xs.take i ++ xs.drop j).length = i + (n - j) := by simp; omega
    refine ⟨_, g, rfl, rfl, ?_, HW2.out⟩
    have hsz := HW2.out.size
    refine intsR_mk g 0 (i + (n - j)) cap _ hl.symm (by omega) hcm ⟨Nat.le_refl _, Nat.lt_succ_self _⟩ (by omega) (fun t ht => by rw [Nat.zero_add]; exact hr3.out t) (fun t ht => ?_) (fun x hx => ?_)
    · rw [Nat.zero_add]
      by_cases h1 : t < i
      · rw [hr1.out t h1]
        have h2 : (xs.take i ++ xs.drop j)[t]? = xs[t]? := by rw [List.getElem?_append_left (by simp; omega), List.getElem?_take, if_pos h1]
        rw [List.getD_eq_getElem?_getD, List.getD_eq_getElem?_getD, h2]
      · have h0 := hr2.out (t - i) (by omega)
        rw [show i + (t - i) = t by omega] at h0
        rw [h0]
        have h2 : (xs.take i ++ xs.drop j)[t]? = xs[j + (t - i)]? := by rw [List.getElem?_append_right (by simp; omega), List.getElem?_drop]; congr 1; simp; omega
        rw [List.getD_eq_getElem?_getD, List.getD_eq_getElem?_getD, h2]
    · rcases List.mem_append.1 hx with hx | hx
      · exact hm x (List.mem_of_mem_take hx)
      · exact hm x (List.mem_of_mem_drop hx)
end Go.Proofs.YthgmojggpjnckaaGreat
