/- Proved: a row of a list of rows of the call's own is written anew, in place. -/
import Derived.Test.YtnndaboaeijbkaaDoorUOwnInts
import Derived.Test.YtnndaboaeijbkaaDoorUExt
namespace Go.Proofs.YtnndaboaeijbkaaDoor
open Go.ChangeShapes Go.WideShapes Go.ChangeAt Go.RowKit
set_option linter.unusedVariables false

/-- element i of a list in an own zone may be replaced by what lies in its own zone or in new memory -/
theorem SliceR.replace {α : Type} {E : Repr α} (hE : Stable E) {z : Zone} {w : World} {b off n cap : Nat} {xs : List α} (h : SliceR E z w (.slice (some ⟨b, off, none⟩) n cap) xs) (ho : z.own = true) (hz : z.hi ≤ w.heap.size) (i : Nat) (hi : i < n) :
    ∃ (u : Value) (Y : Zone) (hi' : i < xs.length), w.cell? ⟨b, off + i, none⟩ = some u ∧ w.frozen? ⟨b, off + i, none⟩ = false ∧ z.Has b ∧ E Y w u xs[i] ∧ Y.Sub z ∧ Y.own = true ∧ ¬ Y.Has b ∧
      ∀ (w1 : World) (u' : Value) (x' : α) (Y' : Zone) (H : Nat), z.hi ≤ H → w.heap.size ≤ w1.heap.size → (∀ k, k < w.heap.size → ¬ Y.Has k → w1.heap[k]? = w.heap[k]?) → E Y' w1 u' x' → Y'.own = true → (∀ k, Y'.Has k → k < H ∧ (Y.Has k ∨ w.heap.size ≤ k)) →
        SliceR E ⟨z.lo, H, true⟩ (w1.setCell ⟨b, off + i, none⟩ u') (.slice (some ⟨b, off, none⟩) n cap) (xs.set i x') := by
  obtain ⟨a, cap', he, h1, h2, h3, h4⟩ := h
  injection he with ha hn hc
  subst ha; subst hc; subst hn
  obtain ⟨k1, k2, k3, k4, Z, k5, k6, k7⟩ := h4 _ rfl (by omega)
  simp only at k2 k3 k4 k7
  have k6' := k6 ho
  obtain ⟨u, c1, c2⟩ := k7 i hi
  refine ⟨u, Z i, hi, c1, k4 ho i hi, k2, c2, k5 i hi, (k5 i hi).2 ho, k6'.1 i hi, fun w1 u' x' Y' H hH hsz hb hu hyo hy => ?_⟩
  have hbb : w1.heap[b]? = w.heap[b]? := hb b k3 (k6'.1 i hi)
  have hset : ∀ k, k ≠ b → (w1.setCell ⟨b, off + i, none⟩ u').heap[k]? = w1.heap[k]? := fun k hk => Below.heap_setCell _ _ _ _ hk
  refine ⟨some ⟨b, off, none⟩, cap, by simp, by simpa using h1, h2, (fun h => by cases h), fun ad had _ => ?_⟩
  cases had
  refine ⟨k1, ⟨k2.1, by have := k2.2; show b < H; omega⟩, by simp only [World.setCell, Array.size_modify]; omega, fun _ j hj => ?_, fun j => if j = i then Y' else Z j, fun j hj => ?_, fun _ => ⟨fun j hj => ?_, fun j l hjl hl => ?_⟩, fun j hj => ?_⟩
  · rw [World.frozen?_setCell, World.frozen?_of_block (w := w) (a := ⟨b, off + j, none⟩) hbb]; exact k4 ho j (by simpa using hj)
  · by_cases e : j = i
    · simp only [e, if_true]
      refine ⟨fun k hk => ?_, fun _ => hyo⟩
      obtain ⟨q1, q2⟩ := hy k hk
      refine ⟨?_, q1⟩
      have hlo : z.lo ≤ w.heap.size := by have := k2.1; omega
      rcases q2 with q2 | q2
      · exact ((k5 i hi).1 k q2).1
      · show z.lo ≤ k; omega
    · simp only [e, if_false]
      have hs := k5 j (by simpa using hj)
      exact ⟨fun k hk => ⟨(hs.1 k hk).1, by have := (hs.1 k hk).2; show k < H; omega⟩, fun _ => hs.2 ho⟩
  · by_cases e : j = i
    · simp only [e, if_true]; intro hk
      rcases (hy _ hk).2 with q | q
      · exact k6'.1 i hi q
      · omega
    · simp only [e, if_false]; exact k6'.1 j (by simpa using hj)
  · have hl' : l < xs.length := by simpa using hl
    have hj' : j < xs.length := by omega
    intro k ha hc
    by_cases e1 : j = i
    · have e2 : l ≠ i := by omega
      simp only [e1, e2, if_true, if_false] at ha hc
      rcases (hy _ ha).2 with q | q
      · exact k6'.2 i l (by omega) hl' k q hc
      · have := ((k5 l hl').1 k hc).2; omega
    · by_cases e2 : l = i
      · simp only [e1, e2, if_true, if_false] at ha hc
        rcases (hy _ hc).2 with q | q
        · exact k6'.2 j i (by omega) hi k ha q
        · have := ((k5 j hj').1 k ha).2; omega
      · simp only [e1, e2, if_false] at ha hc
        exact k6'.2 j l hjl hl' k ha hc
  · have hj' : j < xs.length := by simpa using hj
    obtain ⟨v, d1, d2⟩ := k7 j hj'
    have d1' : w1.cell? ⟨b, off + j, none⟩ = some v := by rw [World.cell?_of_block (w := w) (a := ⟨b, off + j, none⟩) hbb]; exact d1
    by_cases e : j = i
    · subst e
      refine ⟨u', World.cell?_setCell_same _ _ _ d1', ?_⟩
      simp only [if_true, List.getElem_set_self]
      refine hE.keep hu (fun k hk _ => hset k ?_)
      intro e
      subst e
      rcases (hy _ hk).2 with q | q
      · exact k6'.1 j hi q
      · omega
    · refine ⟨v, ?_, ?_⟩
      · rw [World.cell?_setCell_other _ _ _ _ (by intro h; injection h with _ h _; simp only at h; omega)]; exact d1'
      · simp only [e, if_false]
        rw [List.getElem_set_ne (by omega)]
        refine hE.keep (hE.keep d2 (fun k hk hlt => hb k hlt (fun q => ?_))) (fun k hk _ => hset k (fun e => k6'.1 j hj' (e ▸ hk)))
        rcases Nat.lt_or_gt_of_ne e with hlt | hgt
        · exact k6'.2 j i hlt hi k hk q
        · exact k6'.2 i j hgt hj' k q hk

theorem SliceR.conv {α β : Type} {E : Repr α} {F : Repr β} {z : Zone} {w : World} {v : Value} {xs : List α} {ys : List β} (h : SliceR E z w v xs) (hl : ys.length = xs.length) (hc : ∀ i (h : i < xs.length) (h' : i < ys.length) y u, E y w u xs[i] → F y w u ys[i]) : SliceR F z w v ys := by
  obtain ⟨a, cap, rfl, h1, h2, h3, h4⟩ := h
  refine ⟨a, cap, by rw [hl], by omega, h2, fun e => ⟨List.eq_nil_of_length_eq_zero (by rw [hl, (h3 e).1]; rfl), (h3 e).2⟩, fun ad had hp => ?_⟩
  obtain ⟨k1, k2, k3, k4, Z, k5, k6, k7⟩ := h4 ad had (by omega)
  refine ⟨k1, k2, k3, fun ho i hi => k4 ho i (by omega), Z, fun i hi => k5 i (by omega), fun ho => ⟨fun i hi => (k6 ho).1 i (by omega), fun i j hij hj => (k6 ho).2 i j hij (by omega)⟩, fun i hi => ?_⟩
  obtain ⟨u, c1, c2⟩ := k7 i (by omega)
  exact ⟨u, c1, hc i (by omega) hi _ _ c2⟩

/-- rows of which some are done: these are read alone, the others lie in rows of their own -/
def MixR : Repr (Bool × List Int) := fun z w v p => (p.1 = true → IntsR z w v p.2) ∧ (p.1 = false → IntsO z w v p.2)
theorem stable_mix : Stable MixR := ⟨fun h hs => ⟨fun e => stable_ints.keep (h.1 e) hs, fun e => stable_into.keep (h.2 e) hs⟩, fun h hs => ⟨fun e => stable_ints.sub (h.1 e) hs, fun e => stable_into.sub (h.2 e) hs⟩⟩
def mixL (f : Nat → List Int → List Int) (rows : List (List Int)) (k : Nat) : List (Bool × List Int) := (List.range rows.length).map fun j => if j < k then (true, f j (rows.getD j [])) else (false, rows.getD j [])
theorem mixL_len (f : Nat → List Int → List Int) (rows : List (List Int)) (k : Nat) : (mixL f rows k).length = rows.length := by simp [mixL]
theorem mixL_set (f : Nat → List Int → List Int) (rows : List (List Int)) (k : Nat) : (mixL f rows k).set k (true, f k (rows.getD k [])) = mixL f rows (k + 1) := by
  refine List.ext_getElem (by simp [mixL]) (fun i h1 h2 => ?_)
  rw [List.getElem_set]
  by_cases e : k = i
  · subst e; simp [mixL]
  · rw [if_neg e]
    by_cases e2 : i < k
    · simp [mixL, e2, show i < k + 1 by omega]
    · simp [mixL, e2, show ¬ i < k + 1 by omega]
theorem mixL_at (f : Nat → List Int → List Int) (rows : List (List Int)) (k : Nat) (h : k < (mixL f rows k).length) : (mixL f rows k)[k] = (false, rows.getD k []) := by simp [mixL]
def mapI (f : Nat → List Int → List Int) (rows : List (List Int)) (n : Nat) : List (List Int) := (List.range n).map fun j => f j (rows.getD j [])
theorem mapI_succ (f : Nat → List Int → List Int) (rows : List (List Int)) (n : Nat) : mapI f rows (n + 1) = mapI f rows n ++ [f n (rows.getD n [])] := by simp [mapI, List.range_succ]
theorem mapI_len (f : Nat → List Int → List Int) (rows : List (List Int)) (n : Nat) : (mapI f rows n).length = n := by simp [mapI]
theorem mapI_at (f : Nat → List Int → List Int) (rows : List (List Int)) {n k : Nat} (h : k < n) : (mapI f rows n).getD k [] = f k (rows.getD k []) := by simp [mapI, h]
theorem mix_start {f : Nat → List Int → List Int} {rows : List (List Int)} {z : Zone} {w : World} {v : Value} (h : RowsO z w v rows) : SliceR MixR z w v (mixL f rows 0) := by
  refine SliceR.conv h (mixL_len _ _ _) (fun i h1 h2 y u hu => ?_)
  have : (mixL f rows 0)[i] = (false, rows[i]) := by simp [mixL, h1]
  rw [this]
  exact ⟨fun e => (by cases e), fun _ => hu⟩
theorem mix_end {f : Nat → List Int → List Int} {rows : List (List Int)} {z : Zone} {w : World} {v : Value} (h : SliceR MixR z w v (mixL f rows rows.length)) : RowsR z w v (mapI f rows rows.length) := by
  refine SliceR.conv h (by rw [mixL_len, mapI_len]) (fun i h1 h2 y u hu => ?_)
  have hi : i < rows.length := by rw [mixL_len] at h1; exact h1
  have e1 : (mixL f rows rows.length)[i] = (true, f i (rows.getD i [])) := by simp [mixL, hi]
  have e2 : (mapI f rows rows.length)[i] = f i (rows.getD i []) := by simp [mapI]
  rw [e1] at hu
  rw [e2]
  exact hu.1 rfl
end Go.Proofs.YtnndaboaeijbkaaDoor
