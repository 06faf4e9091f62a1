/- Proved: the code of a system, a design, a further row and a key, program and reference; when a further key leaves a design a design (plain); the keys with which a system stays open, in order (plain); a system with a further row, program and reference; the code of a system, a design, a further row and a key, as the reference tells it; CanIssue as the reference tells it; the smallest keys with which partial cuts are open, the reference. -/
import Derived.Test.YthgmojggpjnckaaGreatChecked
import Derived.Deep.RegionHeld3
import Derived.Deep.LoopGhost
import Derived.Test.YthgmojggpjnckaaGreatUPkD
import Derived.Test.YthgmojggpjnckaaGreatUPkC
import Derived.Test.YthgmojggpjnckaaGreatUKeyEnum
import Derived.Test.YthgmojggpjnckaaGreatUKeyBegins
import Derived.Test.YthgmojggpjnckaaGreatUKeyFirst
import Derived.Test.YthgmojggpjnckaaGreatUPkB
import Derived.Test.YthgmojggpjnckaaGreatUPkE
namespace Go.Proofs.YthgmojggpjnckaaGreat
open Go.ChangeShapes Go.WideShapes Go.ChangeAt Go.RowKit
set_option linter.unusedVariables false

def rowOk (t : List (List Int)) (row : List Int) : Bool := decide (row.length = doorsOf t) && allB row 0 1
def rowCode (mk : MK) (t cuts : List (List Int)) (row : List Int) (keys : List (List Int)) : Int := if designCode mk t cuts ≠ 0 then designCode mk t cuts else if (rowOk t row && areKeysB mk keys) = false then 2 else if t.length = 10 then 3 else 0
theorem rowCode_bad {mk : MK} {t cuts : List (List Int)} {row : List Int} {keys : List (List Int)} (h : designCode mk t cuts ≠ 0) : rowCode mk t cuts row keys = designCode mk t cuts := by unfold rowCode; rw [if_pos h]
theorem rowCode_range {mk : MK} {t cuts : List (List Int)} {row : List Int} {keys : List (List Int)} (h : designCode mk t cuts = 0) (h2 : (rowOk t row && areKeysB mk keys) = false) : rowCode mk t cuts row keys = 2 := by unfold rowCode; rw [if_neg (by omega), if_pos h2]
theorem rowCode_ok {mk : MK} {t cuts : List (List Int)} {row : List Int} {keys : List (List Int)} (h : designCode mk t cuts = 0) (h2 : (rowOk t row && areKeysB mk keys) = true) : rowCode mk t cuts row keys = if t.length = 10 then 3 else 0 := by unfold rowCode; rw [if_neg (by omega), if_neg (by rw [h2]; decide)]
structure RowCodeOk (mk : MK) (t cuts : List (List Int)) (rr : List Int) (ks : List (List Int)) : Prop extends DesignOk mk t cuts where
  row_len : rr.length = doorsOf t
  row_bit : allB rr 0 1 = true
  row_keys : ∀ r ∈ ks, KeyOk mk r
  lt10 : t.length < 10
theorem rowCode_zero {mk : MK} {t cuts : List (List Int)} {row : List Int} {keys : List (List Int)} (h : rowCode mk t cuts row keys = 0) : RowCodeOk mk t cuts row keys := by
  by_cases h1 : designCode mk t cuts = 0
  · cases h2 : (rowOk t row && areKeysB mk keys) with
    | false => rw [rowCode_range h1 h2] at h; omega
    | true =>
      rw [rowCode_ok h1 h2] at h
      obtain ⟨h3, h4⟩ := Bool.and_eq_true_iff.1 h2
      unfold rowOk at h3
      obtain ⟨h5, h6⟩ := Bool.and_eq_true_iff.1 h3
      have hd := designCode_zero h1
      have := hd.len
      exact ⟨hd, of_decide_eq_true h5, h6, keysOk h4, by split at h <;> omega⟩
  · rw [rowCode_bad h1] at h; exact absurd h h1
/-- one list in a row of its own -/
theorem rows_one {w w1 : World} {z : Zone} {a : Option Addr} {n c : Nat} {xs : List Int} {e : TypeId} (h : IntsR z w (.slice a n c) xs) (hw : w.alloc (.cells #[.slice a n c] e) = w1) : Ext w w1 ∧ RowsR ⟨0, w1.heap.size, false⟩ w1 (.slice (some ⟨w.heap.size, 0, none⟩) 1 1) [xs] := by
  subst hw
  have := SliceR.one (e := e) stable_ints (u := (a, n, c)) (IntsR.free h) (Nat.le_refl _) (Nat.le_refl _) (Nat.zero_le _)
  refine ⟨Ext.alloc _ _, ?_⟩
  simp only [World.size_alloc]
  exact this

open Go.ChangeShapes Go.WideShapes Go.ChangeAt Go.RowKit
set_option linter.unusedVariables false

/-- cuts open a lock that also takes the depths of a further key -/
def opensWith (l : List (List Int)) (key cuts : List Int) : Bool := (List.range cuts.length).all fun i => cuts.getD i 0 == key.getD i 0 || has (l.getD i []) (cuts.getD i 0)
/-- row k of a system, without right to door d, opens it once the last row's key is added -/
def oldBad (mk : MK) (t cuts : List (List Int)) (key : List Int) (d k : Nat) : Bool := (t.getD cuts.length []).getD d 0 == 1 && ((t.getD k []).getD d 0 == 0 && opensWith ((locks mk t cuts).getD d []) key (cuts.getD k []))
def newBad (mk : MK) (t cuts : List (List Int)) (key : List Int) (d : Nat) : Bool := (t.getD cuts.length []).getD d 0 == 0 && opensB ((locks mk t cuts).getD d []) key
def doorGood (mk : MK) (t cuts : List (List Int)) (key : List Int) (d : Nat) : Bool := !newBad mk t cuts key d && (List.range cuts.length).all fun k => !oldBad mk t cuts key d k
/-- the last row of t, whose key comes last, leaves the others as they are -/
def stays (mk : MK) (t cuts : List (List Int)) (key : List Int) : Bool := (List.range (doorsOf t)).all (doorGood mk t cuts key)

theorem has_setAt {ks : List (List Int)} {i n : Nat} {x : Int} : has (setAt ks i n) x = true ↔ (0 ≤ x ∧ x < n) ∧ ∃ r ∈ ks, r.getD i 0 = x := by
  rw [← setAt_mem]; unfold has; simp
theorem getD_last {t : List (List Int)} {r : List Int} : (t ++ [r]).getD t.length [] = r := by simp
theorem getD_front {t : List (List Int)} {r : List Int} {k : Nat} (h : k < t.length) : (t ++ [r]).getD k [] = t.getD k [] := by
  simp [List.getElem?_append_left h]
theorem rowsAt_app {t : List (List Int)} {r : List Int} {d : Nat} : ∀ {n : Nat}, n ≤ t.length → rowsAt (t ++ [r]) d n = rowsAt t d n := by
  intro n hn
  unfold rowsAt
  apply List.filter_congr
  intro k hk
  have := List.mem_range.1 hk
  rw [getD_front (by omega)]
theorem keysAt_front {t cuts : List (List Int)} {r key : List Int} {d : Nat} {n : Nat} (h : n ≤ t.length) (hc : n ≤ cuts.length) : keysAt (t ++ [r]) (cuts ++ [key]) d n = keysAt t cuts d n := by
  unfold keysAt
  rw [rowsAt_app h]
  apply List.map_congr_left
  intro k hk
  have := rowsAt_lt hk
  exact getD_front (by omega)
theorem keysAt_app {t cuts : List (List Int)} {r : List Int} {d : Nat} {n : Nat} (h : n ≤ t.length) : keysAt (t ++ [r]) cuts d n = keysAt t cuts d n := by
  unfold keysAt
  rw [rowsAt_app h]
theorem doorsOf_app {t : List (List Int)} {r : List Int} (h : 0 < t.length) : doorsOf (t ++ [r]) = doorsOf t := by
  unfold doorsOf; rw [getD_front h]
theorem locks_app {mk : MK} {t cuts : List (List Int)} {r : List Int} (h0 : 0 < t.length) (h : cuts.length ≤ t.length) : locks mk (t ++ [r]) cuts = locks mk t cuts := by
  unfold locks locksTo
  rw [doorsOf_app h0]
  apply List.map_congr_left
  intro d _
  rw [keysAt_app h]
theorem lock_at {mk : MK} {t cuts : List (List Int)} {d : Nat} (h : d < doorsOf t) : (locks mk t cuts).getD d [] = hull mk (keysAt t cuts d cuts.length) := by
  unfold locks locksTo; simp [h]
theorem hull_at {mk : MK} {ks : List (List Int)} {i : Nat} (h : i < mk.c.toNat) : (hull mk ks).getD i [] = setAt ks i mk.d.toNat := by
  unfold hull hullTo; simp [h]
theorem opens_more {mk : MK} {ks : List (List Int)} {key x : List Int} (hx : KeyOk mk x) (hk : KeyOk mk key) : opensB (hull mk (ks ++ [key])) x = opensWith (hull mk ks) key x := by
  unfold opensB opensWith
  apply Bool.eq_iff_iff.2
  rw [List.all_eq_true, List.all_eq_true]
  refine forall_congr' fun i => forall_congr' fun hi => ?_
  have hi := List.mem_range.1 hi
  have hl := hx.len
  have hic : i < mk.c.toNat := by omega
  rw [hull_at hic, hull_at hic, Bool.or_eq_true, has_setAt, has_setAt, beq_iff_eq]
  have hcut := hx.cut i hi
  constructor
  · rintro ⟨hr, r, hm, he⟩
    rcases List.mem_append.1 hm with hm | hm
    · exact .inr ⟨hr, r, hm, he⟩
    · rw [List.mem_singleton.1 hm] at he; exact .inl he.symm
  · rintro (he | ⟨hr, r, hm, he⟩)
    · exact ⟨by omega, key, List.mem_append.2 (.inr (List.mem_singleton.2 rfl)), he.symm⟩
    · exact ⟨hr, r, List.mem_append.2 (.inl hm), he⟩
theorem faultRow_zero {mk : MK} {t cuts : List (List Int)} {k n : Nat} : faultRow mk t cuts k n = 0 ↔ ∀ d, d < n → faultAt mk t cuts k d = false := by
  unfold faultRow
  rw [List.length_eq_zero_iff, List.filter_eq_nil_iff]
  simp [List.mem_range]
theorem faultsTo_zero {mk : MK} {t cuts : List (List Int)} : ∀ {n : Nat}, faultsTo mk t cuts n = 0 ↔ ∀ k, k < n → ∀ d, d < doorsOf t → faultAt mk t cuts k d = false := by
  intro n
  induction n with
  | zero => simp [faultsTo]
  | succ n ih =>
    show faultsTo mk t cuts n + _ = 0 ↔ _
    rw [Nat.add_eq_zero_iff, ih, faultRow_zero]
    constructor
    · rintro ⟨h1, h2⟩ k hk d hd
      by_cases e : k = n
      · rw [e]; exact h2 d hd
      · exact h1 k (by omega) d hd
    · intro h
      exact ⟨fun k hk => h k (by omega), h n (by omega)⟩
theorem faults_zero {mk : MK} {t cuts : List (List Int)} : faults mk t cuts = 0 ↔ ∀ k, k < cuts.length → ∀ d, d < doorsOf t → faultAt mk t cuts k d = false := faultsTo_zero
theorem stays_iff {mk : MK} {t cuts : List (List Int)} {key : List Int} : stays mk t cuts key = true ↔ ∀ d, d < doorsOf t → newBad mk t cuts key d = false ∧ ∀ k, k < cuts.length → oldBad mk t cuts key d k = false := by
  unfold stays doorGood
  simp [List.all_eq_true, List.mem_range]

/-- the law: the new system's false openings are none just when the key stays -/
theorem stays_law {mk : MK} {t cuts : List (List Int)} {row key : List Int} (h : DesignOk mk t cuts) (hf : faults mk t cuts = 0) (hk : KeyOk mk key) :
    decide (faults mk (t ++ [row]) (cuts ++ [key]) = 0) = stays mk (t ++ [row]) cuts key := by
  have h0 : 0 < t.length := by have := h.len; omega
  have hn := h.eq
  apply Bool.eq_iff_iff.2
  rw [decide_eq_true_iff, faults_zero, stays_iff]
  rw [doorsOf_app h0]
  rw [faults_zero] at hf
  have hL : ∀ d, d < doorsOf t → (locks mk (t ++ [row]) (cuts ++ [key])).getD d [] = hull mk (keysAt t cuts d cuts.length ++ if row.getD d 0 == 1 then [key] else []) := by
    intro d hd
    rw [lock_at (by rw [doorsOf_app h0]; exact hd), List.length_append]
    show hull mk (keysAt (t ++ [row]) (cuts ++ [key]) d (cuts.length + 1)) = _
    rw [keysAt_succ, keysAt_front (by omega) (Nat.le_refl _)]
    have e1 : (t ++ [row]).getD cuts.length [] = row := by rw [hn]; exact getD_last
    rw [e1, getD_last]
  have hL0 : ∀ d, d < doorsOf t → (locks mk (t ++ [row]) cuts).getD d [] = hull mk (keysAt t cuts d cuts.length) := by
    intro d hd
    rw [locks_app h0 (by omega), lock_at hd]
  have e1 : (t ++ [row]).getD cuts.length [] = row := by rw [hn]; exact getD_last
  have hnew : ∀ d, d < doorsOf t → faultAt mk (t ++ [row]) (cuts ++ [key]) cuts.length d = newBad mk (t ++ [row]) cuts key d := by
    intro d hd
    unfold faultAt newBad
    rw [e1, getD_last, hL d hd, hL0 d hd]
    by_cases hx : row.getD d 0 = 0
    · rw [hx]; simp
    · have : (row.getD d 0 == 0) = false := by simpa using hx
      rw [this, Bool.false_and, Bool.false_and]
  have hold : ∀ k, k < cuts.length → ∀ d, d < doorsOf t → faultAt mk (t ++ [row]) (cuts ++ [key]) k d = oldBad mk (t ++ [row]) cuts key d k := by
    intro k hkl d hd
    have hko : KeyOk mk (cuts.getD k []) := by
      have e : cuts.getD k [] = cuts[k] := by simp [hkl]
      rw [e]; exact h.key _ (List.getElem_mem hkl)
    have hfk := hf k hkl d hd
    unfold faultAt at hfk
    unfold faultAt oldBad
    rw [e1, getD_front (by omega), getD_front hkl, hL d hd, hL0 d hd]
    by_cases hx : row.getD d 0 = 1
    · have : (row.getD d 0 == 1) = true := by simpa using hx
      rw [this, if_pos rfl, opens_more hko hk, Bool.true_and]
    · have : (row.getD d 0 == 1) = false := by simpa using hx
      rw [this, if_neg (by decide), List.append_nil, Bool.false_and]
      rw [lock_at hd] at hfk
      exact hfk
  have hlen : (cuts ++ [key]).length = cuts.length + 1 := by simp
  rw [hlen]
  constructor
  · intro H d hd
    refine ⟨by rw [← hnew d hd]; exact H _ (by omega) d hd, fun k hkl => by rw [← hold k hkl d hd]; exact H k (by omega) d hd⟩
  · intro H k hkl d hd
    by_cases e : k = cuts.length
    · rw [e, hnew d hd]; exact (H d hd).1
    · rw [hold k (by omega) d hd]; exact (H d hd).2 k (by omega)

open Go.ChangeShapes Go.WideShapes Go.ChangeAt Go.RowKit
set_option linter.unusedVariables false

theorem keysR_length {mk : MK} {D : Nat} : ∀ (r : Nat) {pre : List Int}, (keysR mk D r pre).length ≤ D ^ r
  | 0, pre => by
    rw [keysR_zero]
    split
    · split <;> simp
    · simp
  | r + 1, pre => by
    rw [keysR_succ]
    split
    · unfold sweep
      rw [List.drop_zero, List.length_flatMap]
      have : ∀ (l : List Nat), (l.map fun (x : Nat) => (keysR mk D r (pre ++ [(x : Int)])).length).sum ≤ l.length * D ^ r := by
        intro l
        induction l with
        | nil => simp
        | cons a l ih =>
          rw [List.map_cons, List.sum_cons, List.length_cons, Nat.succ_mul]
          have := keysR_length (mk := mk) (D := D) r (pre := pre ++ [(a : Int)])
          omega
      have h := this (List.range D)
      rw [List.length_range] at h
      rw [Nat.pow_succ, Nat.mul_comm]
      exact h
    · simp
theorem allK_length {mk : MK} (ok : MkOk mk) : (allK mk).length ≤ 262144 := by
  have h := keysR_length (mk := mk) (D := mk.d.toNat) mk.c.toNat (pre := [])
  have h8 : mk.d.toNat ≤ 8 := by have := ok.d8; omega
  have h6 : mk.c.toNat ≤ 6 := by have := ok.c6; omega
  have h1 : mk.d.toNat ^ mk.c.toNat ≤ 8 ^ 6 := Nat.le_trans (Nat.pow_le_pow_left h8 _) (Nat.pow_le_pow_right (by decide) h6)
  exact Nat.le_trans h h1
theorem allK_mem {mk : MK} {k : List Int} (h : k ∈ allK mk) : k.length = mk.c.toNat ∧ ∀ x ∈ k, 0 ≤ x ∧ x < mk.d.toNat := by
  obtain ⟨A, B, h⟩ := List.append_of_mem h
  exact (allK_next h).2
theorem allK_key {mk : MK} (ok : MkOk mk) {k : List Int} (h : k ∈ allK mk) : KeyOk mk k := by
  obtain ⟨h1, h2⟩ := allK_mem h
  have hd := ok.d8
  have hc := ok.c6
  refine cutsOk_iff ?_
  unfold cutsOk
  rw [Bool.and_eq_true, decide_eq_true_iff]
  refine ⟨?_, by omega⟩
  unfold allB
  rw [List.all_eq_true]
  intro x hx
  have := h2 x hx
  unfold inB
  rw [Bool.and_eq_true, decide_eq_true_iff, decide_eq_true_iff]
  omega
/-- the first so many of the keys with a property -/
def candL (mk : MK) (p : List Int → Bool) (most : Int) : List (List Int) := ((allK mk).filter p).take most.toNat
theorem candL_done {mk : MK} {p : List Int → Bool} {most : Int} {A : List (List Int)} (h : allK mk = A) (hl : ((A.filter p).length : Int) ≤ most) : candL mk p most = A.filter p := by
  unfold candL; rw [h, List.take_of_length_le (by omega)]
theorem candL_full {mk : MK} {p : List Int → Bool} {most : Int} {A B : List (List Int)} (h : allK mk = A ++ B) (hl : ((A.filter p).length : Int) = most) : candL mk p most = A.filter p := by
  unfold candL; rw [h, List.filter_append, List.take_left' (by omega)]
theorem filter_snoc_yes {p : List Int → Bool} {A : List (List Int)} {k : List Int} (h : p k = true) : (A ++ [k]).filter p = A.filter p ++ [k] := by rw [List.filter_append]; simp [h]
theorem filter_snoc_no {p : List Int → Bool} {A : List (List Int)} {k : List Int} (h : p k = false) : (A ++ [k]).filter p = A.filter p := by rw [List.filter_append]; simp [h]

open Go.ChangeShapes Go.WideShapes Go.ChangeAt Go.RowKit
set_option linter.unusedVariables false

theorem OwnA.drop {α : Type} {A : Nat → Prop} {E : Repr α} {e : TypeId} {B : Nat} {w : World} {v : Value} {xs : List α} (h : OwnA true A E e B w v xs) : OwnA false A E e B w v xs := by
  obtain ⟨us, Z, hl, ho, h1, h2, h3⟩ := h
  exact ⟨us, Z, hl, ho, fun i hi => ⟨(fun h => by cases h), (h1 i hi).2⟩, (fun h => by cases h), h3⟩
/-- a copy of lists and a copy of a list, made one after the other, are joined -/
theorem run_join {P : Program} {e : TypeId} {base wa w7 wb w8 W : World} {v7 : Value} {xs : List (List Int)} {u : Option Addr × Nat × Nat} {y : List Int} (t ty : TypeId) (ht : P.underlying t = some (.slice e)) (hinfo : (P.info? e).map (fun i => (i.zero, i.size, i.bytes)) = some (some (.slice Option.none 0 0), 1, 24))
    (o7 : OwnR true wa.heap.size IntsR e wa.heap.size w7 v7 xs) (o8 : IntsR (.new wb w8) w8 (slV u) y) (hn : xs.length + 1 ≤ 1099511627776) (ha : Ext base wa) (hb : Ext base wb) (ha7 : Ext wa w7) (hb8 : Ext wb w8)
    (hor : (Ext w7 wb ∧ Ext w8 W) ∨ (Ext w8 wa ∧ Ext w7 W)) {g : Nat} (hg : W.cell? ⟨g, 0, Option.none⟩ = some (slV u)) :
    ∃ v' w', (Builtin.append_ #[t, t] ty #[v7, .slice (some ⟨g, 0, Option.none⟩) 1 1]).run P W = .ok v' w' ∧ (∃ a c, v' = .slice a (xs.length + 1) c ∧ RowsR ⟨base.heap.size, w'.heap.size, false⟩ w' v' (xs ++ [y]) ∧ Ext base w') := by
  have k1 := ha.size
  have k2 := hb.size
  have k3 := ha7.size
  have k4 := hb8.size
  have hW : Ext w7 W ∧ Ext w8 W := by
    rcases hor with ⟨h1, h2⟩ | ⟨h1, h2⟩
    · exact ⟨(h1.trans hb8).trans h2, h2⟩
    · exact ⟨h2, (h1.trans ha7).trans h2⟩
  have k5 := hW.1.size
  have k6 := hW.2.size
  have hbk := o7.block
  have hown : OwnA false (fun k => wa.heap.size ≤ k) IntsR e wa.heap.size W v7 xs := (OwnA.below stable_ints o7 hW.1).drop
  obtain ⟨v', w', hr, ho, hgr, -⟩ := run_appendRowsY (P := P) (w := W) (w0 := W) (ad := ⟨g, 0, Option.none⟩) (cap := 1) (ys := [y]) stable_ints t ty ht hinfo (A := fun k => base.heap.size ≤ k) (fun k _ h => Nat.le_trans k1 h) hown (Below.refl _ _) (fun _ => .new wb w8) (fun _ _ h => by cases h)
    (fun _ _ k hk => ⟨by have := hk.1; simp only [Zone.new] at this; omega, by have := hk.2; simp only [Zone.new] at this; omega, fun e => by
      have h1 := hbk k e
      have h2 := hk.1
      have h3 := hk.2
      simp only [Zone.new] at h2 h3
      rcases hor with ⟨h, -⟩ | ⟨h, -⟩
      · have := h.size; omega
      · have := h.size; omega⟩) (fun h => by cases h) (fun h => by cases h)
    (fun j hj => by
      have : j = 0 := by simpa using hj
      subst this
      exact ⟨u, by rw [Addr.add_lit]; exact hg, fun _ => stable_ints.ext o8 hW.2⟩) (by simp) (by unfold maxLen; omega) (by simpa using hn) (by omega)
  have hbe : Below wa.heap.size W w' := (Below.refl _ _).grown hgr (by omega) (fun k hk => (hbk k hk).1)
  obtain ⟨a, n, c, rfl, hl, -⟩ := ho.shape
  rw [List.length_append] at hl
  refine ⟨_, w', hr, a, c, by rw [hl]; rfl, OwnA.reads ho (fun k h => h) k1, ?_⟩
  exact Below.trans ((ha.trans ha7).trans hW.1) (Below.mono hbe k1)

open Go.ChangeShapes Go.WideShapes Go.ChangeAt Go.RowKit
set_option linter.unusedVariables false

set_option maxHeartbeats 400000 in
theorem l24Entries_c (w : World) (v : Value) (z : Zone) (ps : List Int) (m : Nat) (h : IntsR z w v ps) : Calls Tryz.prog 77 #[v, .int .i64 m] w (RetQ w (.bool (decide (ps.length = m) && allB ps 0 1))) := by
  have H1 : Hid (∀ i, i < ps.length → inB (ps.getD i 0) 0 1 = false → (decide (ps.length = m) && allB ps 0 1) = false) := fun i hi h => by rw [allB_bad i hi h, Bool.and_false]
  have H2 : Hid ((∀ i, i < ps.length → inB (ps.getD i 0) 0 1 = true) → (decide (ps.length = m) && allB ps 0 1) = decide (ps.length = m)) := fun h => by rw [allB_good h, Bool.and_true]
  generalize (decide (ps.length = m) && allB ps 0 1) = res at *
  obtain ⟨a, n, cap, rfl, hn, hmax, -⟩ := SliceR.shape h
  have HX := Lib.hid (fun (k : Nat) (hk : k < n) => ints_at h hk)
  have Hn := Lib.hid hn
  clear hn h
  go_enter Tryz.func77, Tryz.ntmps77
  go_wp2_with fail
  go_loopw [5] (fun s5 wr => ∃ k : Nat, k ≤ n ∧ s5 = .int .i64 k ∧ (∀ i, i < k → inB (ps.getD i 0) 0 1 = true) ∧ Drew w wr) (fun s5 _ => n - (intOf s5).toNat)
  case atStart => exact ⟨0, Nat.zero_le _, rfl, by simp, Drew.refl _⟩
  case round =>
    obtain ⟨k, hk, rfl, hall, hd⟩ := hrel
    have Hall := Lib.hid hall
    clear hall
    by_cases hlt : k < n
    · obtain ⟨b, off, rfl, hi, hc⟩ := HX.out k hlt
      replace hc := hc wr (Ext.ofDrew hd)
      have Hno : Hid (inB (ps.getD k 0) 0 1 = false → res = false) := fun h => H1.out k (by rw [← Hn.out]; exact hlt) h
      have Hgo : Hid (inB (ps.getD k 0) 0 1 = true → ∀ i, i < k + 1 → inB (ps.getD i 0) 0 1 = true) := fun h j hj => by
        by_cases e : j = k
        · rw [e]; exact h
        · exact Hall.out j (by omega)
      generalize ps.getD k 0 = x at *
      have hcall := l01In_c wr x 0 1
      generalize inB x 0 1 = q at *
      cases q with
      | true =>
        have HH := Lib.hid (Hgo.out rfl)
        go_wp2_with fail
        refine Calls.mono hcall ?_
        rintro e w2 ⟨rfl, hd2⟩
        clear hcall
        go_wp2_with fail
        go_roundw
        case rel => exact ⟨k+1, by omega, by go_num, HH.out, hd.trans hd2⟩
        case measure => simp [intOf]; omega
      | false =>
        have HH := Lib.hid (Hno.out rfl)
        go_wp2_with fail
        refine Calls.mono hcall ?_
        rintro e w2 ⟨rfl, hd2⟩
        clear hcall
        go_wp2_with fail
        go_ret
        exact ⟨ret_bool' HH.out, hd.trans hd2⟩
    · have HH : Hid (res = ((n : Int) == (m : Int))) := by
        show _ = _
        rw [H2.out (fun i hi => Hall.out i (by have := Hn.out; omega)), ← Hn.out]
        by_cases e : n = m
        · subst e; simp
        · rw [decide_eq_false e]; symm; rw [beq_eq_false_iff_ne]; omega
      go_wp2_with fail
      go_ret
      exact ⟨ret_bool' HH.out, hd⟩

theorem rowCode_key {mk : MK} {t cuts : List (List Int)} {row key : List Int} (h : designCode mk t cuts = 0) : rowCode mk t cuts row [key] = if keyFault mk key = 0 then rowCode mk t cuts row [] else 2 := by
  have e1 : areKeysB mk [key] = isKeyB mk key := by unfold areKeysB; simp
  have e2 : areKeysB mk [] = true := rfl
  by_cases hk : keyFault mk key = 0
  · have e3 : isKeyB mk key = true := decide_eq_true hk
    rw [if_pos hk]
    cases hr : rowOk t row with
    | false => rw [rowCode_range h (by rw [hr]; rfl), rowCode_range h (by rw [hr]; rfl)]
    | true => rw [rowCode_ok h (by rw [hr, e1, e3]; rfl), rowCode_ok h (by rw [hr, e2]; rfl)]
  · have e3 : isKeyB mk key = false := decide_eq_false hk
    rw [if_neg hk, rowCode_range h (by rw [e1, e3, Bool.and_false])]

open Go.ChangeShapes Go.WideShapes Go.ChangeAt Go.RowKit
set_option linter.unusedVariables false

def canIssue (mk : MK) (t cuts : List (List Int)) (row key : List Int) : Bool × Int := if rowCode mk t cuts row [key] ≠ 0 then (false, rowCode mk t cuts row [key]) else (stays mk (t ++ [row]) cuts key, 0)
theorem canIssue_bad {mk : MK} {t cuts : List (List Int)} {row key : List Int} (h : rowCode mk t cuts row [key] ≠ 0) : canIssue mk t cuts row key = (false, rowCode mk t cuts row [key]) := by unfold canIssue; rw [if_pos h]
theorem canIssue_ok {mk : MK} {t cuts : List (List Int)} {row key : List Int} (h : rowCode mk t cuts row [key] = 0) : canIssue mk t cuts row key = (stays mk (t ++ [row]) cuts key, 0) := by unfold canIssue; rw [if_neg (by omega)]
theorem rowCode_design {mk : MK} {t cuts : List (List Int)} {row : List Int} {keys : List (List Int)} (h : rowCode mk t cuts row keys = 0) : faults mk t cuts = 0 := by
  by_cases h1 : designCode mk t cuts = 0
  · unfold designCode at h1
    cases e : isDesign mk t cuts with
    | true =>
      unfold isDesign at e
      obtain ⟨-, e⟩ := Bool.and_eq_true_iff.1 e
      obtain ⟨-, e⟩ := Bool.and_eq_true_iff.1 e
      exact of_decide_eq_true e
    | false => rw [e, if_neg (by decide)] at h1; omega
  · rw [rowCode_bad h1] at h; exact absurd h h1
theorem getD_appT {t : List (List Int)} {r : List Int} {k : Nat} (h : k < t.length + 1) : (t ++ [r]).getD k [] = if k < t.length then t.getD k [] else r := by
  by_cases e : k < t.length
  · rw [if_pos e, getD_front e]
  · rw [if_neg e]
    have : k = t.length := by omega
    rw [this, getD_last]
theorem sysOk_app {mk : MK} {t cuts : List (List Int)} {row : List Int} {keys : List (List Int)} (h : RowCodeOk mk t cuts row keys) : SysOk mk (t ++ [row]) := by
  have h0 := h.len
  have hd := h.doors
  have e := doorsOf_app (t := t) (r := row) (by omega)
  have hl : (t ++ [row]).length = t.length + 1 := by simp
  refine ⟨h.mk1, h.mk2, by rw [hl]; have := h.lt10; omega, by rw [e]; exact hd, fun k hk => ?_, fun k d hk hdd => ?_⟩
  · rw [hl] at hk
    rw [e, getD_appT hk]
    split
    · exact h.row k (by assumption)
    · exact h.row_len
  · rw [hl] at hk
    rw [e] at hdd
    rw [getD_appT hk]
    split
    · exact h.bit k d (by assumption) hdd
    · have hdl : d < row.length := by rw [h.row_len]; exact hdd
      have := (List.all_eq_true.1 h.row_bit) _ (List.getElem_mem hdl)
      have e : row.getD d 0 = row[d] := by simp [hdl]
      rw [e]; exact inB_iff.1 this
theorem partOk_front {mk : MK} {t cuts : List (List Int)} {row : List Int} {keys : List (List Int)} (h : RowCodeOk mk t cuts row keys) : PartOk mk (t ++ [row]) cuts :=
  ⟨sysOk_app h, by have := h.eq; simp; omega, h.key⟩
theorem partOk_app {mk : MK} {t cuts : List (List Int)} {row key : List Int} (h : RowCodeOk mk t cuts row [key]) : PartOk mk (t ++ [row]) (cuts ++ [key]) :=
  ⟨sysOk_app h, by have := h.eq; simp; omega, fun r hr => by
    rcases List.mem_append.1 hr with hr | hr
    · exact h.key r hr
    · rw [List.mem_singleton.1 hr]; exact h.row_keys key (List.mem_singleton.2 rfl)⟩

/-- an append of lists that lie elsewhere to an empty list of the call's own -/
theorem run_alias {P : Program} {e : TypeId} {w W : World} {g n c : Nat} {cuts : List (List Int)} {z : Zone} {a : Option Addr} (t ty : TypeId) (ht : P.underlying t = some (.slice e)) (hinfo : (P.info? e).map (fun i => (i.zero, i.size, i.bytes)) = some (some (.slice Option.none 0 0), 1, 24))
    (hc : RowsR z w (.slice a n c) cuts) (hm : n ≤ 1000) (hW : W = w.alloc (.cells #[] e)) (hg : g = w.heap.size) :
    ∃ v' w', (Builtin.append_ #[t, t] ty #[.slice (some ⟨g, 0, Option.none⟩) 0 0, .slice a n c]).run P W = .ok v' w' ∧ AliasR e w.heap.size w' v' cuts ∧ Ext w w' := by
  subst hW; subst hg
  obtain ⟨a', n', c', he, hln, -, hcap, hmx, hnone, -⟩ := SliceR.shape hc
  injection he with e1 e2 e3
  subst e1; subst e2; subst e3
  have H := fun (k : Nat) (hk : k < n) => rows_at hc hk
  cases a with
  | none =>
    obtain ⟨rfl, rfl⟩ := hnone rfl
    obtain rfl : cuts = [] := List.eq_nil_of_length_eq_zero hln.symm
    obtain ⟨i, hi, hz0, hz1, hz2⟩ := info_parts hinfo
    have hown : OwnP slV e w.heap.size (w.alloc (.cells #[] e)) (.slice (some ⟨w.heap.size, 0, Option.none⟩) 0 0) [] := OwnP.empty (Nat.le_refl _)
    have hrun := run_append_owned_none (P := P) (w.alloc (.cells #[] e)) w.heap.size t ty e i 1 ht hi _ _ _ hown
    exact ⟨_, _, hrun, AliasR.empty (Nat.le_refl _), Ext.alloc _ _⟩
  | some ad =>
  have eW : Ext w (w.alloc (.cells #[] e)) := Ext.alloc _ _
  have hsz : (w.alloc (.cells #[] e)).heap.size = w.heap.size + 1 := by simp
  subst hln
  obtain ⟨v', w', hr, ho, hgr, -⟩ := run_appendRowsY (P := P) (b := false) (w := w.alloc (.cells #[] e)) (w0 := w.alloc (.cells #[] e)) (ad := ad) (cap := c) (ys := cuts) (xs := []) stable_ints t ty ht hinfo (A := fun _ => True) (A0 := fun _ => True) (fun _ _ h => h) (AliasR.empty (Nat.le_refl _)) (Below.refl _ _) (fun _ => ⟨0, w.heap.size, false⟩) (fun _ _ h => by cases h)
    (fun _ _ k hk => ⟨trivial, by have := hk.2; simp only at this; omega, fun e => by
      have h3 := hk.2
      have : w.heap.size = k := by injection e
      simp only at h3
      omega⟩) (fun h => by cases h) (fun h => by cases h)
    (fun j hj => by
      obtain ⟨b', off', he, a1, n1, c1, -, -, -, h1, ⟨y, -, h2⟩, -⟩ := H j hj
      injection he with he
      subst he
      refine ⟨(a1, n1, c1), by rw [Addr.add_lit]; exact h1 _ eW, fun hj => ?_⟩
      have e0 : cuts.getD j [] = cuts[j] := by simp [hj]
      rw [← e0]
      exact stable_ints.ext (IntsR.free (h2 w (Ext.refl _))) eW) hcap hmx (by simp; omega) (by omega)
  refine ⟨v', w', hr, by simpa using ho, ?_⟩
  have hb2 : Below w.heap.size (w.alloc (.cells #[] e)) w' := Below.grown (Below.refl _ _) hgr (by omega) (fun k hk => by
    have : w.heap.size = k := by injection hk
    omega)
  exact Below.trans eW hb2

set_option maxHeartbeats 400000 in
theorem l16Open_c (w : World) (mk : MK) (v : Value) (z : Zone) (t : List (List Int)) (h : RowsR z w v t) (u : Value) (y : Zone) (cuts : List (List Int)) (hc : RowsR y w u cuts) (ok : PartOk mk t cuts) :
    Calls Tryz.prog 143 #[sysV mk v, u] w (Ret w fun r _ => r = .bool (decide (faults mk t cuts = 0))) := by
  have HC2 := Lib.hid (fun (w' : World) (e : Ext w w') => l15False_c w' mk v z t (stable_rows.ext h e) u y cuts (stable_rows.ext hc e) ok)
  generalize faults mk t cuts = fs at *
  obtain ⟨a, n, cap, rfl, -⟩ := SliceR.shape h
  obtain ⟨a2, n2, cap2, rfl, -⟩ := SliceR.shape hc
  clear h hc ok
  unfold sysV at *
  go_enter Tryz.func143, Tryz.ntmps143
  go_wp2_with fail
  generalize hw0 : World.alloc _ _ = w0
  obtain ⟨e0, S0⟩ := sys_box hw0
  clear hw0
  refine Calls.mono (HC2.out w0 e0) ?_
  rintro e w2 hr
  obtain ⟨r, rfl, ⟨a3, m3, c3, rfl, hm3, hmm⟩, e2⟩ := ret_ext hr
  clear hr
  by_cases hf : fs = 0
  · have hm0 : ((m3 : Int) == 0) = true := by rw [hm3, hf]; rfl
    have HR : Hid (decide (fs = 0) = true) := decide_eq_true hf
    clear hf hm3
    go_wp2_with fail
    go_ret
    exact ⟨.bool true, rfl, congrArg Value.bool HR.out.symm, e0.trans e2⟩
  · have hm0 : ((m3 : Int) == 0) = false := by rw [beq_eq_false_iff_ne]; omega
    have HR : Hid (decide (fs = 0) = false) := decide_eq_false hf
    clear hf hm3
    go_wp2_with fail
    go_ret
    exact ⟨.bool false, rfl, congrArg Value.bool HR.out.symm, e0.trans e2⟩

set_option maxRecDepth 20000 in
set_option maxHeartbeats 400000 in
theorem l16With_c (w : World) (u : Value) (y : Zone) (cuts : List (List Int)) (hc : RowsR y w u cuts) (hn1 : cuts.length ≤ 1000) (v4 : Value) (z4 : Zone) (key : List Int) (hk : IntsR z4 w v4 key) :
    Calls Tryz.prog 144 #[u, v4] w (Ret w fun r w' => RowsR ⟨0, w'.heap.size, false⟩ w' r (cuts ++ [key])) := by
  obtain ⟨a, n, cap, rfl, hn, -⟩ := SliceR.shape hc
  obtain ⟨a4, n4, cap4, rfl, -⟩ := SliceR.shape hk
  rw [← hn] at hn1
  have Hn := Lib.hid hn
  have HC := Lib.hid hc
  have HK := Lib.hid (IntsR.free hk)
  clear hn hc hk
  have hcl : cuts.length + 1 ≤ 1099511627776 := by rw [← Hn.out]; omega
  go_enter Tryz.func144, Tryz.ntmps144
  go_wp2_with (at_builtin; (first | (refine wpList_append_of rfl _ _ 30 rfl rfl rfl (fun ty => run_alias 30 ty Tryz.underlying30 Tryz.infoInts HC.out hn1 rfl rfl) ?_; intro v6 w6 h6) | (obtain ⟨h6', e6⟩ := h6; refine wpList_appendAlias (B := w.heap.size) (xs := cuts) (w0 := w) rfl _ _ 30 rfl Tryz.underlying30 Tryz.infoInts rfl h6' (a4, n4, cap4) key (stable_ints.ext HK.out e6) (Nat.le_refl _) rfl hcl (Ext.size e6) ?_; intro v7 w7 hown7 hb7 hg7 hat7)))
  go_ret
  exact ⟨_, rfl, AliasR.rows hown7, Below.trans e6 hb7⟩

open Go.ChangeShapes Go.WideShapes Go.ChangeAt Go.RowKit
set_option linter.unusedVariables false

/-- the state of the search: the keys that are behind, the list, the next key -/
def CandAt (mk : MK) (p : List Int → Bool) (most : Int) (lo : Nat) (w0 : World) (n : Nat) (s7 s8 s9 : Value) (wr : World) : Prop :=
  ∃ (A B : List (List Int)) (wk : World), allK mk = A ++ B ∧ n = B.length ∧ (A.filter p).length ≤ most.toNat ∧ Ext w0 wk ∧ lo ≤ wk.heap.size ∧ Ext wk wr ∧ OwnR true lo IntsR 41 lo wk s7 (A.filter p) ∧
    (B = [] → s9 = .bool false) ∧ ∀ k B', B = k :: B' → s9 = .bool true ∧ IntsR (.new wk wr) wr s8 k
theorem CandAt.next {lo : Nat} {mk : MK} {p : List Int → Bool} {most : Int} {w0 wk w1 w2 : World} {A B' : List (List Int)} {k : List Int} {s7 r : Value} {L : List (List Int)} (ha : allK mk = A ++ k :: B') (hm : ((A ++ [k]).filter p).length ≤ most.toNat) (e0 : Ext w0 wk) (hlo : lo ≤ wk.heap.size) (e1 : Ext wk w1) (e2 : Ext w1 w2)
    (ho : OwnR true lo IntsR 41 lo wk s7 ((A ++ [k]).filter p)) (hr : KeyRes w1.heap.size L r w2) (hL : L = B') : ∃ u b, r = .tuple #[u, .bool b] ∧ CandAt mk p most lo w0 B'.length s7 u (.bool b) w2 := by
  have e12 := e1.trans e2
  subst hL
  cases L with
  | nil =>
    obtain ⟨u, -, rfl, -⟩ := hr.1 rfl
    exact ⟨u, false, rfl, A ++ [k], [], wk, by rw [ha]; simp, rfl, hm, e0, hlo, e12, ho, fun _ => rfl, fun k B' h => by cases h⟩
  | cons k2 L' =>
    obtain ⟨u, rfl, hu⟩ := hr.2 k2 L' rfl
    refine ⟨u, true, rfl, A ++ [k], k2 :: L', wk, by rw [ha]; simp, rfl, hm, e0, hlo, e12, ho, (fun h => by cases h), fun k B' h => ?_⟩
    injection h with h1 h2
    subst h1
    exact ⟨rfl, stable_ints.sub hu ⟨fun k hk => ⟨Nat.le_trans e1.size hk.1, hk.2⟩, fun h => h⟩⟩
theorem CandAt.start {lo : Nat} {mk : MK} {p : List Int → Bool} {most : Int} {w0 wk w2 : World} {s7 r : Value} (e0 : Ext w0 wk) (hlo : lo ≤ wk.heap.size) (e2 : Ext wk w2) (ho : OwnR true lo IntsR 41 lo wk s7 []) (hr : KeyRes wk.heap.size (allK mk) r w2) : ∃ u b, r = .tuple #[u, .bool b] ∧ CandAt mk p most lo w0 (allK mk).length s7 u (.bool b) w2 := by
  cases hL : allK mk with
  | nil =>
    obtain ⟨u, -, rfl, -⟩ := hr.1 hL
    exact ⟨u, false, rfl, [], [], wk, by rw [hL]; rfl, rfl, by simp, e0, hlo, e2, ho, fun _ => rfl, fun k B' h => by cases h⟩
  | cons k2 L' =>
    obtain ⟨u, rfl, hu⟩ := hr.2 k2 L' hL
    refine ⟨u, true, rfl, [], k2 :: L', wk, by rw [hL]; rfl, rfl, by simp, e0, hlo, e2, ho, (fun h => by cases h), fun k B' h => ?_⟩
    injection h with h1 h2
    subst h1
    exact ⟨rfl, hu⟩
theorem keyOk_snoc {mk : MK} {t cuts : List (List Int)} {key : List Int} (h : PartOk mk t cuts) (hl : cuts.length < t.length) (hk : KeyOk mk key) : PartOk mk t (cuts ++ [key]) :=
  ⟨h.toSysOk, by simp; omega, fun r hr => by
    rcases List.mem_append.1 hr with hr | hr
    · exact h.key r hr
    · rw [List.mem_singleton.1 hr]; exact hk⟩

set_option maxRecDepth 20000 in
set_option maxHeartbeats 2000000 in
theorem l16Candidates_c (w : World) (mk : MK) (okm : MkOk mk) (v : Value) (z : Zone) (t : List (List Int)) (h : RowsR z w v t) (u : Value) (y : Zone) (cuts : List (List Int)) (hc : RowsR y w u cuts) (ok : PartOk mk t cuts) (hlt : cuts.length < t.length) (most : Int) (hm1 : I64 most) :
    Calls Tryz.prog 110 #[sysV mk v, u, .int .i64 most] w (Ret w fun r w' => RowsR (.new w w') w' r (candL mk (fun key => decide (faults mk t (cuts ++ [key]) = 0)) most)) := by
  have hc10 := ok.len
  have hcl : cuts.length ≤ 1000 := by omega
  have HF := Lib.hid (fun (w' : World) => l02First_c mk okm mk.c.toNat [] (by simp) w'.heap.size w' (.slice none 0 0) (.new w' w') (SliceR.nil _ _ _) (Nat.le_refl _) (Nat.le_refl _) (Nat.le_refl _) rfl (fun i hi => by simp at hi))
  have HN := Lib.hid (fun (A B' : List (List Int)) (k : List Int) (ha : allK mk = A ++ k :: B') (w' : World) (x : Value) (q : Zone) (g : IntsR q w' x k) => by
    obtain ⟨h1, h2, h3⟩ := allK_next ha
    have := l02Next_c mk okm w' x q k g h2 (fun i hi => by
      have e : k.getD i 0 = k[i] := by simp [hi]
      rw [e]
      have := h3 _ (List.getElem_mem hi)
      have := okm.d8
      omega)
    rw [h1] at this
    exact this)
  have HW := Lib.hid (fun (k : List Int) (w' : World) (e : Ext w w') (x : Value) (q : Zone) (g : IntsR q w' x k) => l16With_c w' u y cuts (stable_rows.ext hc e) hcl x q k g)
  have HO := Lib.hid (fun (k : List Int) (hk : KeyOk mk k) (w' : World) (e : Ext w w') (x : Value) (q : Zone) (g : RowsR q w' x (cuts ++ [k])) => l16Open_c w' mk v z t (stable_rows.ext h e) x q (cuts ++ [k]) g (keyOk_snoc ok hlt hk))
  have HKey := Lib.hid (fun (k : List Int) (hk : k ∈ allK mk) => allK_key okm hk)
  have HLen := Lib.hid (allK_length okm)
  generalize hp : (fun key => decide (faults mk t (cuts ++ [key]) = 0)) = p at *
  have HP : Hid (∀ k, decide (faults mk t (cuts ++ [k]) = 0) = p k) := fun k => by rw [← hp]
  clear hp
  obtain ⟨a, n, cap, rfl, -⟩ := SliceR.shape h
  obtain ⟨a2, n2, cap2, rfl, -⟩ := SliceR.shape hc
  clear h hc ok hlt hcl hc10
  unfold sysV MK.v at *
  go_enter Tryz.func110, Tryz.ntmps110
  go_wp2_with fail
  generalize hw0 : World.alloc (World.alloc _ _) _ = w0
  obtain ⟨e0, S0, o0⟩ : Ext w w0 ∧ SysAt w0 w.heap.size mk (.slice a n cap) ∧ OwnR true (w.heap.size + 1) IntsR 41 (w.heap.size + 1) w0 (.slice (some ⟨w.heap.size + 1, 0, none⟩) 0 0) [] := by
    subst hw0
    refine ⟨(Ext.alloc _ _).trans (Ext.alloc _ _), ⟨?_, ?_, ?_, ?_, ?_, ?_⟩, ?_⟩
    any_goals (clear HF HN HW HO HKey HLen HP; go_simp; done)
    have := OwnR.empty (b := true) (L := w.heap.size + 1) (E := IntsR) (e := 41) (B := w.heap.size + 1) (w := w.alloc (.cells #[.int .i64 mk.c, .int .i64 mk.d, .int .i64 mk.s, .int .i64 mk.m, .int .i64 mk.l, .slice a n cap] 32)) (by simp)
    rw [World.size_alloc] at this
    exact this
  clear hw0
  have HS := Lib.hid S0
  have S0' := S0
  clear S0
  refine Calls.mono (HF.out w0) ?_
  rintro e w1 hr
  obtain ⟨r, rfl, hk1, e1⟩ := ret_ext hr
  clear hr
  obtain ⟨u8, b9, rfl, hC⟩ := CandAt.start (p := p) (most := most) e0 (World.block_lt_of_cell? _ _ S0'.c0) e1 o0 hk1
  have HC := Lib.hid hC
  clear hC hk1 o0 HF S0'
  have HS1 := Lib.hid (HS.out.ext e1)
  have et1 := e0.trans e1
  clear HS e1 e0
  go_wp2_with fail
  go_loopg [7, 8, 9] ((allK mk).length) (fun gk s7 s8 s9 wr => CandAt mk p most (w.heap.size + 1) w gk s7 s8 s9 wr ∧ SysAt wr w.heap.size mk (.slice a n cap))
  case atStart => exact ⟨HC.out, HS1.out⟩
  case round =>
    obtain ⟨⟨A, B, wk, ha, hgk, hm, ek, hlo, ekr, o, hB0, hB1⟩, hS⟩ := hrel
    have etw := ek.trans ekr
    have HSr := Lib.hid hS
    have HE := Lib.hid etw
    have Hlen : Hid ((A.filter p).length ≤ 262144) := Nat.le_trans (List.length_filter_le _ _) (by have h := HLen.out; rw [ha, List.length_append] at h; omega)
    obtain ⟨c0, c1, c2, c3, c4, c5⟩ := hS
    obtain ⟨av, nv, kv, rfl, hnv, hnm⟩ := OwnR.shape o
    have HOwn := Lib.hid o
    have HRes : Hid (RowsR (.new w wr) wr (.slice av nv kv) (A.filter p)) := stable_rows.sub (stable_rows.ext (OwnR.rows o) ekr) ⟨fun k hk => ⟨Nat.le_of_succ_le hk.1, Nat.lt_of_lt_of_le hk.2 ekr.size⟩, fun h => h⟩
    have Hm := Lib.hid hm
    clear o hm
    cases B with
    | nil =>
      obtain rfl := hB0 rfl
      have HH : Hid (candL mk p most = A.filter p) := by
        show _ = _
        unfold candL
        rw [ha, List.append_nil, List.take_of_length_le Hm.out]
      clear hB0 hB1 ha hnv
      go_wp2_with fail
      go_ret
      exact ⟨_, rfl, by rw [HH.out]; exact HRes.out, etw⟩
    | cons k B' =>
      obtain ⟨rfl, hk8⟩ := hB1 k B' rfl
      have HK8 := Lib.hid hk8
      obtain ⟨ak, nk, ck, rfl, -⟩ := SliceR.shape hk8
      have HA := Lib.hid ha
      have Hgk := Lib.hid hgk
      have Hnv := Lib.hid hnv
      clear hB0 hB1 hk8 ha hgk hnv
      by_cases hlt : (nv : Int) < most
      · have HCel : Hid (∀ w', Ext wr w' → w'.cell? ⟨w.heap.size, 0, none⟩ = some (.int .i64 mk.c) ∧ w'.cell? ⟨w.heap.size, 1, none⟩ = some (.int .i64 mk.d) ∧ w'.cell? ⟨w.heap.size, 2, none⟩ = some (.int .i64 mk.s) ∧ w'.cell? ⟨w.heap.size, 3, none⟩ = some (.int .i64 mk.m) ∧ w'.cell? ⟨w.heap.size, 4, none⟩ = some (.int .i64 mk.l) ∧ w'.cell? ⟨w.heap.size, 5, none⟩ = some (.slice a n cap)) := fun w' e => have q := HSr.out.ext e; ⟨q.c0, q.c1, q.c2, q.c3, q.c4, q.c5⟩
        have HWk := Lib.hid (fun (w' : World) (e : Ext wr w') => HW.out k w' (HE.out.trans e) _ _ (stable_ints.ext HK8.out e))
        have HOk := Lib.hid (fun (w' : World) (e : Ext wr w') (x : Value) (q : Zone) (g : RowsR q w' x (cuts ++ [k])) => HO.out k (HKey.out k (by rw [HA.out]; simp)) w' (HE.out.trans e) x q g)
        have HPk := Lib.hid (HP.out k)
        have HNk := Lib.hid (fun (w' : World) (x : Value) (q : Zone) (g : IntsR q w' x k) => HN.out A B' k HA.out w' x q g)
        generalize hq : decide (faults mk t (cuts ++ [k]) = 0) = q at *
        clear hq
        go_wp2_with fail
        first | (go_region_held3 (fun w' => w'.cell? ⟨w.heap.size, 0, none⟩ = some (.int .i64 mk.c) ∧ w'.cell? ⟨w.heap.size, 1, none⟩ = some (.int .i64 mk.d) ∧ w'.cell? ⟨w.heap.size, 2, none⟩ = some (.int .i64 mk.s) ∧ w'.cell? ⟨w.heap.size, 3, none⟩ = some (.int .i64 mk.m) ∧ w'.cell? ⟨w.heap.size, 4, none⟩ = some (.int .i64 mk.l) ∧ w'.cell? ⟨w.heap.size, 5, none⟩ = some (.slice a n cap)) (exact HCel.out _ (by repeat (first | exact Ext.refl _ | assumption | (refine Ext.trans ?_ (Ext.alloc _ _)) | (refine Ext.trans ?_ (Ext.drew _)) | (refine Ext.trans ?_ (by assumption))))) (first | (go_at_call 144; (with_reducible refine (HWk.out _ (by repeat (first | exact Ext.refl _ | assumption | (refine Ext.trans ?_ (Ext.alloc _ _)) | (refine Ext.trans ?_ (Ext.drew _)) | (refine Ext.trans ?_ (by assumption))))).mono ?_); rintro e w7 hr7; obtain ⟨r7, rfl, o7, e7⟩ := ret_ext hr7; clear hr7; obtain ⟨a7, n7, k7, rfl, -⟩ := SliceR.shape o7; have e77 : Ext wr w7 := (by repeat (first | exact Ext.refl _ | assumption | (refine Ext.trans ?_ (Ext.alloc _ _)) | (refine Ext.trans ?_ (Ext.drew _)) | (refine Ext.trans ?_ (by assumption))))) | (go_at_call 143; (with_reducible refine (HOk.out _ (by repeat (first | exact Ext.refl _ | assumption | (refine Ext.trans ?_ (Ext.alloc _ _)) | (refine Ext.trans ?_ (Ext.drew _)) | (refine Ext.trans ?_ (by assumption)))) _ _ (stable_rows.ext o7 (by repeat (first | exact Ext.refl _ | assumption | (refine Ext.trans ?_ (Ext.alloc _ _)) | (refine Ext.trans ?_ (Ext.drew _)) | (refine Ext.trans ?_ (by assumption)))))).mono ?_); rintro e w8 hr8; obtain ⟨r8, rfl, rfl, e8⟩ := ret_ext hr8; clear hr8; have e88 : Ext wr w8 := (by repeat (first | exact Ext.refl _ | assumption | (refine Ext.trans ?_ (Ext.alloc _ _)) | (refine Ext.trans ?_ (Ext.drew _)) | (refine Ext.trans ?_ (by assumption))))) | fail)) | fail
        clear c0 c1 c2 c3 c4 c5
        have HS8 := Lib.hid (HSr.out.ext e88)
        cases q with
        | false =>
          have HF : Hid ((A ++ [k]).filter p = A.filter p) := filter_snoc_no HPk.out.symm
          obtain ⟨c0, c1, c2, c3, c4, c5⟩ := HS8.out
          go_wp2_with fail
          refine Calls.mono (HNk.out w8 _ _ (stable_ints.ext HK8.out e88)) ?_
          rintro e w9 hr
          obtain ⟨r, rfl, hk9, e9⟩ := ret_ext hr
          clear hr
          obtain ⟨u9, b9', rfl, hC9⟩ := CandAt.next (p := p) (most := most) (s7 := .slice av nv kv) HA.out (by rw [HF.out]; exact Hm.out) ek hlo (ekr.trans e88) e9 (by rw [HF.out]; exact HOwn.out) hk9 rfl
          have HC9 := Lib.hid hC9
          clear hC9 hk9 c0 c1 c2 c3 c4 c5
          go_wp2_with fail
          go_roundg B'.length
          case measure => rw [Hgk.out]; simp
          case rel => exact ⟨HC9.out, HS8.out.ext e9⟩
        | true =>
          have HF : Hid ((A ++ [k]).filter p = A.filter p ++ [k]) := filter_snoc_yes HPk.out.symm
          have hx' : IntsR (.new wk w8) w8 (.slice ak nk ck) k := stable_ints.sub (stable_ints.ext HK8.out e88) ⟨fun k hk => ⟨hk.1, Nat.lt_of_lt_of_le hk.2 e88.size⟩, fun h => h⟩
          have HX := Lib.hid hx'
          have HL1 : Hid ((A.filter p).length + 1 ≤ 1099511627776) := by show _ ≤ _; have := Hlen.out; omega
          have HEk := Lib.hid (ekr.trans e88)
          have hkz := ek.size
          clear hx'
          go_wp2_with (at_builtin; (refine wpList_appendRow (E := IntsR) (L := w.heap.size + 1) (B := w.heap.size + 1) (xs := A.filter p) stable_ints slRepr_slice rfl _ _ 30 rfl Tryz.underlying30 Tryz.infoInts rfl HOwn.out HEk.out (ak, nk, ck) k HX.out rfl HL1.out (by omega) (by omega) ?_); intro v6 w6 hown6 hb6 hs6 hg6 hat6; have hS6 : SysAt w6 w.heap.size mk (.slice a n cap) := SysAt.of HS8.out (hg6.block _ (World.block_lt_of_cell? _ _ HS8.out.c0) (fun e => by have := HOwn.out.block _ e.symm; omega)); have HS6 := Lib.hid hS6; obtain ⟨c0, c1, c2, c3, c4, c5⟩ := hS6; have HK6 : Hid (IntsR (.new wk w8) w6 (.slice ak nk ck) k) := stable_ints.keep HX.out (fun j hj hl => hg6.block j hl (fun e => by have := HOwn.out.block _ e.symm; have := hj.1; simp only [Zone.new] at this; omega)); have HO6 := Lib.hid hown6; have HB6 := Lib.hid hb6; obtain ⟨a6, n6, k6, rfl, -⟩ := OwnR.shape hown6; clear hown6 hg6 hat6 hb6)
          refine Calls.mono (HNk.out w6 _ _ HK6.out) ?_
          rintro e w9 hr
          obtain ⟨r, rfl, hk9, e9⟩ := ret_ext hr
          clear hr
          have ek6 : Ext w w6 := Below.trans ek (HB6.out.mono (by omega))
          obtain ⟨u9, b9', rfl, hC9⟩ := CandAt.next (p := p) (most := most) (s7 := .slice a6 n6 k6) HA.out (by rw [HF.out, List.length_append, List.length_singleton, ← Hnv.out]; omega) ek6 (Nat.le_trans hlo (Nat.le_trans HEk.out.size hs6)) (Ext.refl _) e9 (by rw [HF.out]; exact HO6.out) hk9 rfl
          have HC9 := Lib.hid hC9
          clear hC9 hk9 c0 c1 c2 c3 c4 c5
          go_wp2_with fail
          go_roundg B'.length
          case measure => rw [Hgk.out]; simp
          case rel => exact ⟨HC9.out, HS6.out.ext e9⟩
      · have HH : Hid (candL mk p most = A.filter p) := by
          show _ = _
          unfold candL
          have h1 := Hm.out
          have h2 := Hnv.out
          rw [HA.out, List.filter_append, List.take_left' (by omega)]
        go_wp2_with fail
        go_ret
        exact ⟨_, rfl, by rw [HH.out]; exact HRes.out, HE.out⟩
end Go.Proofs.YthgmojggpjnckaaGreat
