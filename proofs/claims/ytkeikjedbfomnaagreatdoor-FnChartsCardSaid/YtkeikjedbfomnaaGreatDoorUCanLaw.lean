/- Proved: when a further key leaves a design a design (plain). -/
import Derived.Test.YtkeikjedbfomnaaGreatDoorURowCode
namespace Go.Proofs.YtkeikjedbfomnaaGreatDoor
open Go.ChangeShapes Go.WideShapes Go.ChangeAt Go.RowKit
set_option linter.unusedVariables false

/-- cuts open a lock that also takes the depths of a further key -/
def opensWith (l : List (List Int)) (key cuts : List Int) : Bool := (List.range cuts.length).all fun i => cuts.getD i 0 == key.getD i 0 || has (l.getD i []) (cuts.getD i 0)
/-- row k of a system, without right to door d, opens it once the last row's key is added -/
def oldBad (mk : MK) (t cuts : List (List Int)) (key : List Int) (d k : Nat) : Bool := (t.getD cuts.length []).getD d 0 == 1 && ((t.getD k []).getD d 0 == 0 && opensWith ((locks mk t cuts).getD d []) key (cuts.getD k []))
def newBad (mk : MK) (t cuts : List (List Int)) (key : List Int) (d : Nat) : Bool := (t.getD cuts.length []).getD d 0 == 0 && opensB ((locks mk t cuts).getD d []) key
def doorGood (mk : MK) (t cuts : List (List Int)) (key : List Int) (d : Nat) : Bool := !newBad mk t cuts key d && (List.range cuts.length).all fun k => !oldBad mk t cuts key d k
/-- the last row of t, whose key comes last, leaves the others as they are -/
def stays (mk : MK) (t cuts : List (List Int)) (key : List Int) : Bool := (List.range (doorsOf t)).all (doorGood mk t cuts key)

theorem has_setAt {ks : List (List Int)} {i n : Nat} {x : Int} : has (setAt ks i n) x = true ↔ (0 ≤ x ∧ x < n) ∧ ∃ r ∈ ks, r.getD i 0 = x := by
  rw [← setAt_mem]; unfold has; simp
theorem getD_last {t : List (List Int)} {r : List Int} : (t ++ [r]).getD t.length [] = r := by simp
theorem getD_front {t : List (List Int)} {r : List Int} {k : Nat} (h : k < t.length) : (t ++ [r]).getD k [] = t.getD k [] := by
  simp [List.getElem?_append_left h]
theorem rowsAt_app {t : List (List Int)} {r : List Int} {d : Nat} : ∀ {n : Nat}, n ≤ t.length → rowsAt (t ++ [r]) d n = rowsAt t d n := by
  intro n hn
  unfold rowsAt
  apply List.filter_congr
  intro k hk
  have := List.mem_range.1 hk
  rw [getD_front (by omega)]
theorem keysAt_front {t cuts : List (List Int)} {r key : List Int} {d : Nat} {n : Nat} (h : n ≤ t.length) (hc : n ≤ cuts.length) : keysAt (t ++ [r]) (cuts ++ [key]) d n = keysAt t cuts d n := by
  unfold keysAt
  rw [rowsAt_app h]
  apply List.map_congr_left
  intro k hk
  have := rowsAt_lt hk
  exact getD_front (by omega)
theorem keysAt_app {t cuts : List (List Int)} {r : List Int} {d : Nat} {n : Nat} (h : n ≤ t.length) : keysAt (t ++ [r]) cuts d n = keysAt t cuts d n := by
  unfold keysAt
  rw [rowsAt_app h]
theorem doorsOf_app {t : List (List Int)} {r : List Int} (h : 0 < t.length) : doorsOf (t ++ [r]) = doorsOf t := by
  unfold doorsOf; rw [getD_front h]
theorem locks_app {mk : MK} {t cuts : List (List Int)} {r : List Int} (h0 : 0 < t.length) (h : cuts.length ≤ t.length) : locks mk (t ++ [r]) cuts = locks mk t cuts := by
  unfold locks locksTo
  rw [doorsOf_app h0]
  apply List.map_congr_left
  intro d _
  rw [keysAt_app h]
theorem lock_at {mk : MK} {t cuts : List (List Int)} {d : Nat} (h : d < doorsOf t) : (locks mk t cuts).getD d [] = hull mk (keysAt t cuts d cuts.length) := by
  unfold locks locksTo; simp [h]
theorem hull_at {mk : MK} {ks : List (List Int)} {i : Nat} (h : i < mk.c.toNat) : (hull mk ks).getD i [] = setAt ks i mk.d.toNat := by
  unfold hull hullTo; simp [h]
theorem opens_more {mk : MK} {ks : List (List Int)} {key x : List Int} (hx : KeyOk mk x) (hk : KeyOk mk key) : opensB (hull mk (ks ++ [key])) x = opensWith (hull mk ks) key x := by
  unfold opensB opensWith
  apply Bool.eq_iff_iff.2
  rw [List.all_eq_true, List.all_eq_true]
  refine forall_congr' fun i => forall_congr' fun hi => ?_
  have hi := List.mem_range.1 hi
  have hl := hx.len
  have hic : i < mk.c.toNat := by omega
  rw [hull_at hic, hull_at hic, Bool.or_eq_true, has_setAt, has_setAt, beq_iff_eq]
  have hcut := hx.cut i hi
  constructor
  · rintro ⟨hr, r, hm, he⟩
    rcases List.mem_append.1 hm with hm | hm
    · exact .inr ⟨hr, r, hm, he⟩
    · rw [List.mem_singleton.1 hm] at he; exact .inl he.symm
  · rintro (he | ⟨hr, r, hm, he⟩)
    · exact ⟨by omega, key, List.mem_append.2 (.inr (List.mem_singleton.2 rfl)), he.symm⟩
    · exact ⟨hr, r, List.mem_append.2 (.inl hm), he⟩
theorem faultRow_zero {mk : MK} {t cuts : List (List Int)} {k n : Nat} : faultRow mk t cuts k n = 0 ↔ ∀ d, d < n → faultAt mk t cuts k d = false := by
  unfold faultRow
  rw [List.length_eq_zero_iff, List.filter_eq_nil_iff]
  simp [List.mem_range]
theorem faultsTo_zero {mk : MK} {t cuts : List (List Int)} : ∀ {n : Nat}, faultsTo mk t cuts n = 0 ↔ ∀ k, k < n → ∀ d, d < doorsOf t → faultAt mk t cuts k d = false := by
  intro n
  induction n with
  | zero => simp [faultsTo]
  | succ n ih =>
    show faultsTo mk t cuts n + _ = 0 ↔ _
    rw [Nat.add_eq_zero_iff, ih, faultRow_zero]
    constructor
    · rintro ⟨h1, h2⟩ k hk d hd
      by_cases e : k = n
      · rw [e]; exact h2 d hd
      · exact h1 k (by omega) d hd
    · intro h
      exact ⟨fun k hk => h k (by omega), h n (by omega)⟩
theorem faults_zero {mk : MK} {t cuts : List (List Int)} : faults mk t cuts = 0 ↔ ∀ k, k < cuts.length → ∀ d, d < doorsOf t → faultAt mk t cuts k d = false := faultsTo_zero
theorem stays_iff {mk : MK} {t cuts : List (List Int)} {key : List Int} : stays mk t cuts key = true ↔ ∀ d, d < doorsOf t → newBad mk t cuts key d = false ∧ ∀ k, k < cuts.length → oldBad mk t cuts key d k = false := by
  unfold stays doorGood
  simp [List.all_eq_true, List.mem_range]

/-- the law: the new system's false openings are none just when the key stays -/
theorem stays_law {mk : MK} {t cuts : List (List Int)} {row key : List Int} (h : DesignOk mk t cuts) (hf : faults mk t cuts = 0) (hk : KeyOk mk key) :
    decide (faults mk (t ++ [row]) (cuts ++ [key]) = 0) = stays mk (t ++ [row]) cuts key := by
  have h0 : 0 < t.length := by have := h.len; omega
  have hn := h.eq
  apply Bool.eq_iff_iff.2
  rw [decide_eq_true_iff, faults_zero, stays_iff]
  rw [doorsOf_app h0]
  rw [faults_zero] at hf
  have hL : ∀ d, d < doorsOf t → (locks mk (t ++ [row]) (cuts ++ [key])).getD d [] = hull mk (keysAt t cuts d cuts.length ++ if row.getD d 0 == 1 then [key] else []) := by
    intro d hd
    rw [lock_at (by rw [doorsOf_app h0]; exact hd), List.length_append]
    show hull mk (keysAt (t ++ [row]) (cuts ++ [key]) d (cuts.length + 1)) = _
    rw [keysAt_succ, keysAt_front (by omega) (Nat.le_refl _)]
    have e1 : (t ++ [row]).getD cuts.length [] = row := by rw [hn]; exact getD_last
    rw [e1, getD_last]
  have hL0 : ∀ d, d < doorsOf t → (locks mk (t ++ [row]) cuts).getD d [] = hull mk (keysAt t cuts d cuts.length) := by
    intro d hd
    rw [locks_app h0 (by omega), lock_at hd]
  have e1 : (t ++ [row]).getD cuts.length [] = row := by rw [hn]; exact getD_last
  have hnew : ∀ d, d < doorsOf t → faultAt mk (t ++ [row]) (cuts ++ [key]) cuts.length d = newBad mk (t ++ [row]) cuts key d := by
    intro d hd
    unfold faultAt newBad
    rw [e1, getD_last, hL d hd, hL0 d hd]
    by_cases hx : row.getD d 0 = 0
    · rw [hx]; simp
    · have : (row.getD d 0 == 0) = false := by simpa using hx
      rw [this, Bool.false_and, Bool.false_and]
  have hold : ∀ k, k < cuts.length → ∀ d, d < doorsOf t → faultAt mk (t ++ [row]) (cuts ++ [key]) k d = oldBad mk (t ++ [row]) cuts key d k := by
    intro k hkl d hd
    have hko : KeyOk mk (cuts.getD k []) := by
      have e : cuts.getD k [] = cuts[k] := by simp [hkl]
      rw [e]; exact h.key _ (List.getElem_mem hkl)
    have hfk := hf k hkl d hd
    unfold faultAt at hfk
    unfold faultAt oldBad
    rw [e1, getD_front (by omega), getD_front hkl, hL d hd, hL0 d hd]
    by_cases hx : row.getD d 0 = 1
    · have : (row.getD d 0 == 1) = true := by simpa using hx
      rw [this, if_pos rfl, opens_more hko hk, Bool.true_and]
    · have : (row.getD d 0 == 1) = false := by simpa using hx
      rw [this, if_neg (by decide), List.append_nil, Bool.false_and]
      rw [lock_at hd] at hfk
      exact hfk
  have hlen : (cuts ++ [key]).length = cuts.length + 1 := by simp
  rw [hlen]
  constructor
  · intro H d hd
    refine ⟨by rw [← hnew d hd]; exact H _ (by omega) d hd, fun k hkl => by rw [← hold k hkl d hd]; exact H k (by omega) d hd⟩
  · intro H k hkl d hd
    by_cases e : k = cuts.length
    · rw [e, hnew d hd]; exact (H d hd).1
    · rw [hold k (by omega) d hd]; exact (H d hd).2 k (by omega)
end Go.Proofs.YtkeikjedbfomnaaGreatDoor
