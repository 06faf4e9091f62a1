/- Proved: slices.SortFunc at a list of lists that the call owns, with MinimalHittings' comparison. -/
import Derived.Test.YtaogpbhgoeepbaaChecked
import Derived.Test.YtaogpbhgoeepbaaUSortRowsLay
import Derived.Test.YtaogpbhgoeepbaaUCmpRows
import Derived.Test.YtaogpbhgoeepbaaUOwnRows
import Derived.Test.YtaogpbhgoeepbaaUSortInts
namespace Go.Proofs.Ytaogpbhgoeepbaa
open Go.ChangeShapes Go.WideShapes Go.ChangeAt Go.RowKit
set_option linter.unusedVariables false
open Go.Shelf

def encU (us : List (Option Addr × Nat × Nat)) (k : Nat) : Value := slV (us.getD k (none, 0, 0))
def cfX (xs : List (List Int)) (i j : Nat) : Int := cmpR (xs.getD i []) (xs.getD j [])
theorem ltOf_cfX (xs : List (List Int)) (i j : Nat) : ltOf (cfX xs) i j = lessL (xs.getD i []) (xs.getD j []) := cmpR_less _ _
theorem swo_cfX (xs : List (List Int)) : Sort.SWO (ltOf (cfX xs)) where
  irrefl x := by rw [ltOf_cfX]; exact lessL_irrefl _
  trans x y z h1 h2 := by rw [ltOf_cfX] at *; exact lessL_trans h1 h2
  ntrans x y z h1 h2 := by rw [ltOf_cfX] at *; exact lessL_ntrans h1 h2
theorem Try.goesMin1 : Goes Try.prog 78 := goes_of Try.func78 (by kernel_rfl) (by kernel_rfl)
theorem put_encU (us : List (Option Addr × Nat × Nat)) (w : World) (blk : Nat) (d : Array Nat) : Sort.putRow (encU us) w blk 0 d = Sort.putRow slV w blk 0 (d.toList.map fun k => us.getD k (none, 0, 0)).toArray := by
  unfold Sort.putRow
  refine Sort.mapBlock_congr _ _ _ _ (fun c e fr _ => ?_)
  apply Array.ext_getElem?
  intro k
  simp only [Sort.putCells, Array.getElem?_mapIdx]
  congr 1
  funext x
  by_cases h : k < d.size
  · simp [h, encU]
  · simp [h]
theorem sortWorld_block (us : List (Option Addr × Nat × Nat)) (w : World) (blk m : Nat) (d : Array Nat) (os : Array Obj) {k : Nat} (hk : k < w.heap.size) (hne : k ≠ blk) : (sortWorld (encU us) w blk 0 m d os).heap[k]? = w.heap[k]? := by
  unfold sortWorld
  rw [Sort.heap_grow_old _ _ (by simpa [Sort.putRow, Sort.mapBlock] using hk)]
  show ((w.heap.modify blk _)[k]?) = _
  rw [Array.getElem?_modify, if_neg (Ne.symm hne)]

theorem getD_at {l : List Nat} {i : Nat} (h : i < l.length) : l.getD i 0 = l[i] := by simp [h]

theorem getD_gen {α : Type} {l : List α} {d : α} {k : Nat} (h : k < l.length) : l.getD k d = l[k] := by simp [h]

theorem SortRows_c (w : World) (v : Value) (L B : Nat) (hBw : B ≤ w.heap.size) (xs : List (List Int)) (h : OwnR true L IntsR 25 B w v xs) (hx : xs.length ≤ 1048576) :
    Calls Try.prog 77 #[v, .func (.func 78) #[] #[]] w (fun e w' => e = .returned (.tuple #[]) ∧ ∃ ys : List (List Int), ys.Perm xs ∧ ys.Pairwise (fun a b => lessL b a = false) ∧ OwnR true L IntsR 25 B w' v ys ∧ Below B w w') := by
  obtain ⟨us, Z, hl, ho, h1, h2, h3⟩ := h
  rcases ho.2 with ⟨rfl, h0⟩ | ⟨g, cap, cur, rfl, hB, hcur, hn, hm, hs, ht⟩
  · have hnil : xs = [] := List.eq_nil_of_length_eq_zero (by omega)
    subst hnil
    refine Calls.mono (AnyF.slices_SortFunc_none { Try.sortRows with } none 0 _ w) ?_
    rintro e w' ⟨rfl, rfl⟩
    exact ⟨rfl, [], .refl _, .nil, ⟨us, Z, hl, ho, h1, h2, h3⟩, Below.refl _ _⟩
  · have hgl : g < w.heap.size := (Array.getElem?_eq_some_iff.1 hcur).1
    have hsz : (List.range us.length).toArray.size = us.length := by simp
    have hH : Sort.Holds (encU us) w g 0 (List.range us.length).toArray := fun j hj => by
      have hj' : j < us.length := by simpa using hj
      obtain ⟨hk, hc, hf⟩ := OwnP.at ho hj'
      refine ⟨?_, by simpa using hf⟩
      rw [Nat.zero_add, hc]
      simp [hj', encU]
    have hcmp : CmpLays1 Try.prog 78 #[] (encU us) (cfX xs) g 0 (List.range us.length).toArray.size w := by
      intro m os dk _ x y
      have hr : ∀ k, ∃ Zk, IntsR Zk (sortWorld (encU us) w g 0 m dk os) (encU us k) (xs.getD k []) := fun k => by
        by_cases hk : k < xs.length
        · refine ⟨Z k, ?_⟩
          have e1 : encU us k = slV (us[k]'(by omega)) := by simp [encU, show k < us.length by omega]
          have e2 : xs.getD k [] = xs[k] := by simp [hk]
          rw [e1, e2]
          exact stable_ints.keep (h3 k hk (by omega)) (fun q hq hlt => sortWorld_block us w g m dk os hlt (fun e => ((h1 k hk).2 q hq).2.2 (by rw [e]; rfl)))
        · refine ⟨⟨0, 0, true⟩, ?_⟩
          have e1 : encU us k = .slice none 0 0 := by simp [encU, show ¬ k < us.length by omega, slV]
          have e2 : xs.getD k [] = [] := by simp [hk]
          rw [e1, e2]
          exact SliceR.nil _ _ _
      obtain ⟨Zx, hx'⟩ := hr x
      obtain ⟨Zy, hy'⟩ := hr y
      refine Calls.mono (cmpRows_c _ _ _ _ _ _ _ hx' hy') ?_
      rintro e w' ⟨rfl, q, rfl⟩
      exact ⟨rfl, q, #[], by simp⟩
    have hc := Any.slices_SortFunc Try.sortRows (encU us) (fun _ => rfl) (cfX xs) (swo_cfX xs) 78 #[] g 0 cap (List.range us.length).toArray w Try.goesMin1 hcmp hH hgl (by rw [hsz]; omega)
    rw [hsz] at hc
    refine Calls.mono hc ?_
    rintro e w' ⟨rfl, d', k, os, ⟨p1, -, p3⟩, hso, rfl⟩
    have e1 : d'.extract 0 us.length = d' := by rw [← hsz, ← p1]; exact Array.extract_size
    have e2 : ((List.range us.length).toArray).extract 0 us.length = (List.range us.length).toArray := by
      have := Array.extract_size (xs := (List.range us.length).toArray)
      rwa [hsz] at this
    rw [e1, e2] at p3
    have hp : d'.toList.Perm (List.range us.length) := by simpa using p3
    have hdl : d'.toList.length = us.length := by rw [hp.length_eq]; simp
    have hxs : xs = (List.range us.length).map fun k => xs.getD k [] := by
      refine List.ext_getElem (by simp [hl]) (fun i h1 h2 => by simp [h1])
    have hput := own_put ho (ys := d'.toList.map fun k => us.getD k (none, 0, 0)) (by simp [← hdl]) k os
    have hw : sortWorld (encU us) w g 0 k d' os = Sort.grow (Sort.putRow slV (Sort.ahead w k) g 0 (d'.toList.map fun k => us.getD k (none, 0, 0)).toArray) os := by
      unfold sortWorld; rw [put_encU]
    have hmem : ∀ i (hi : i < d'.toList.length), d'.toList[i] < us.length := fun i hi => List.mem_range.1 (hp.mem_iff.1 (List.getElem_mem hi))
    have hnd : d'.toList.Nodup := (hp.nodup_iff).2 List.nodup_range
    refine ⟨rfl, d'.toList.map fun k => xs.getD k [], ?_, ?_, ⟨d'.toList.map fun k => us.getD k (none, 0, 0), fun i => Z (d'.toList.getD i 0), by simp, by rw [hw]; exact hput.1, fun i hi => ?_, fun _ i j hij hj => ?_, fun i hi hi' => ?_⟩, by rw [hw]; exact hput.2 hBw⟩
    · conv => rhs; rw [hxs]
      exact hp.map _
    · rw [List.pairwise_map, List.pairwise_iff_getElem]
      intro i j hi hj hij
      have := hso i j (Nat.zero_le _) hij (by omega)
      rw [getElem!_pos d' j (by simpa using hj), getElem!_pos d' i (by simpa using hi), ltOf_cfX] at this
      simpa using this
    · have hi2 : i < d'.toList.length := by simpa using hi
      have := hmem i hi2
      have e3 : d'.toList.getD i 0 = d'.toList[i] := getD_at hi2
      simp only [e3]
      obtain ⟨q1, q2⟩ := h1 d'.toList[i] (by omega)
      exact ⟨fun _ => q1 rfl, fun q hq => ⟨(q2 q hq).1, by have := (q2 q hq).2.1; rw [hw]; have := (hput.2 hBw).size; omega, (q2 q hq).2.2⟩⟩
    · have hj2 : j < d'.toList.length := by simpa using hj
      have e3 : d'.toList.getD i 0 = d'.toList[i] := getD_at (by omega)
      have e4 : d'.toList.getD j 0 = d'.toList[j] := getD_at hj2
      simp only [e3, e4]
      have hne : d'.toList[i] ≠ d'.toList[j] := (List.pairwise_iff_getElem.1 hnd) i j (by omega) hj2 hij
      have a1 := hmem i (by omega)
      have a2 := hmem j hj2
      rcases Nat.lt_or_gt_of_ne hne with hlt | hlt
      · exact h2 rfl _ _ hlt (by omega)
      · exact fun q hq1 hq2 => h2 rfl _ _ hlt (by omega) q hq2 hq1
    · have hi2 : i < d'.toList.length := by simpa using hi
      have a1 := hmem i hi2
      have e3 : d'.toList.getD i 0 = d'.toList[i] := getD_at hi2
      simp only [e3]
      have e5 : (d'.toList.map fun k => us.getD k (none, 0, 0))[i] = us[d'.toList[i]] := by rw [List.getElem_map]; exact getD_gen a1
      have e6 : (d'.toList.map fun k => xs.getD k [])[i] = xs[d'.toList[i]]'(by omega) := by rw [List.getElem_map]; exact getD_gen (by omega)
      rw [e5, e6]
      exact stable_ints.keep (h3 _ (by omega) a1) (fun q hq hlt => sortWorld_block us w g k d' os hlt (fun e => ((h1 _ (by omega)).2 q hq).2.2 (by rw [e]; rfl)))
end Go.Proofs.Ytaogpbhgoeepbaa
