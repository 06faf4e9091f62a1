/- Proved: the first rule that cuts do not keep; what a system, its locks and its false openings are; a system in memory, and the rows that open a door; IsSystem, program and reference; the first rule that cuts do not keep, as the reference tells it; whether a list are cuts of a maker, as the program tells it; the first rule that cuts do not keep, as the program tells it; slices.IndexFunc and ContainsFunc over lists of lists; whether lists are keys of a maker, and the code of a system and its cuts, program and reference. -/
import Derived.Test.YthgmojggpjnckaaGreatChecked
import Derived.Deep.RegionHeld3
import Derived.Test.YthgmojggpjnckaaGreatUPkA
namespace Go.Proofs.YthgmojggpjnckaaGreat
open Go.ChangeShapes Go.WideShapes Go.ChangeAt Go.RowKit
set_option linter.unusedVariables false

/-- how many cuts that end at place i are equal -/
def runAt (l : List Int) : Nat → Nat
  | 0 => 1
  | i+1 => if l.getD (i+1) 0 = l.getD i 0 then runAt l i + 1 else 1
/-- the longest run among the first k places -/
def mostTo (l : List Int) : Nat → Nat
  | 0 => 0
  | k+1 => max (mostTo l k) (runAt l k)
theorem runAt_pos (l : List Int) : ∀ i, 1 ≤ runAt l i ∧ runAt l i ≤ i + 1
  | 0 => ⟨Nat.le_refl _, Nat.le_refl _⟩
  | i+1 => by
    have := runAt_pos l i
    unfold runAt
    split <;> omega
theorem mostTo_le (l : List Int) : ∀ k, mostTo l k ≤ k
  | 0 => Nat.le_refl _
  | k+1 => by
    have h1 := mostTo_le l k
    have h2 := (runAt_pos l k).2
    show max (mostTo l k) (runAt l k) ≤ k + 1
    omega
theorem mostTo_gt (l : List Int) (s : Nat) : ∀ k, s < mostTo l k ↔ ∃ i, i < k ∧ s < runAt l i
  | 0 => by simp [mostTo]
  | k+1 => by
    have ih := mostTo_gt l s k
    show s < max (mostTo l k) (runAt l k) ↔ _
    constructor
    · intro h
      by_cases e : s < runAt l k
      · exact ⟨k, by omega, e⟩
      · obtain ⟨i, h1, h2⟩ := ih.1 (by omega)
        exact ⟨i, by omega, h2⟩
    · rintro ⟨i, h1, h2⟩
      by_cases e : i = k
      · subst e; omega
      · have := ih.2 ⟨i, by omega, h2⟩
        omega
theorem runAt_same (l : List Int) : ∀ i j, j < runAt l i → l.getD (i - j) 0 = l.getD i 0
  | 0, j, h => by
    have : j = 0 := by simp [runAt] at h; exact h
    subst this; rfl
  | i+1, j, h => by
    unfold runAt at h
    split at h
    · rename_i he
      cases j with
      | zero => rfl
      | succ j =>
        have := runAt_same l i j (by omega)
        rw [Nat.add_sub_add_right, this, he]
    · have : j = 0 := by omega
      subst this; rfl
theorem runAt_stop (l : List Int) : ∀ i, runAt l i = i + 1 ∨ l.getD (i - runAt l i) 0 ≠ l.getD i 0
  | 0 => .inl rfl
  | i+1 => by
    unfold runAt
    split
    · rename_i he
      rcases runAt_stop l i with h | h
      · left; omega
      · right
        rw [Nat.add_sub_add_right, he]; exact h
    · rename_i he
      right; rw [Nat.add_sub_cancel]; exact fun h => he h.symm
theorem runAt_is (l : List Int) (i r : Nat) (h1 : 1 ≤ r) (h2 : r ≤ i + 1) (h3 : ∀ j, j < r → l.getD (i - j) 0 = l.getD i 0) (h4 : r = i + 1 ∨ l.getD (i - r) 0 ≠ l.getD i 0) : runAt l i = r := by
  have k1 := runAt_pos l i
  rcases Nat.lt_trichotomy (runAt l i) r with h | h | h
  · rcases runAt_stop l i with k | k
    · omega
    · exact absurd (h3 _ h) k
  · exact h
  · rcases h4 with k | k
    · omega
    · exact absurd (runAt_same l i r h) k
theorem getD_take {α : Type} (l : List α) (d : α) {k i : Nat} (h : i < k) : (l.take k).getD i d = l.getD i d := by
  rw [List.getD_eq_getElem?_getD, List.getD_eq_getElem?_getD, List.getElem?_take, if_pos h]
theorem runAt_take (l : List Int) {k : Nat} : ∀ i, i < k → runAt (l.take k) i = runAt l i
  | 0, _ => rfl
  | i+1, h => by
    unfold runAt
    rw [getD_take l 0 h, getD_take l 0 (by omega), runAt_take l i (by omega)]
theorem runAt_succ (l : List Int) (i : Nat) : runAt l (i+1) = if l.getD (i+1) 0 = l.getD i 0 then runAt l i + 1 else 1 := rfl
theorem mostTo_succ (l : List Int) (k : Nat) : mostTo l (k+1) = max (mostTo l k) (runAt l k) := rfl
/-- two cuts that lie too far from each other end at place i -/
def farAt (s : Int) (l : List Int) (i : Nat) : Bool := decide (0 < i) && decide (s < ((l.getD i 0 - l.getD (i-1) 0).natAbs : Int))
def farTo (s : Int) (l : List Int) (k : Nat) : Bool := (List.range k).any (farAt s l)
theorem farTo_succ (s : Int) (l : List Int) (k : Nat) : farTo s l (k+1) = (farTo s l k || farAt s l k) := by
  unfold farTo; rw [List.range_succ, List.any_append]; simp
theorem farTo_yes {s : Int} {l : List Int} {i k : Nat} (hi : i < k) (h : farAt s l i = true) : farTo s l k = true := by
  unfold farTo; exact List.any_eq_true.2 ⟨i, List.mem_range.2 hi, h⟩
/-- the number of the first rule that is not kept, or 0 -/
def keyFault (mk : MK) (l : List Int) : Int :=
  if (l.length : Int) ≠ mk.c then 1 else if cutsOk mk l = false then 2 else if farTo mk.s l l.length = true then 3 else if mk.m < (mostTo l l.length : Int) then 4 else if (kinds l : Int) < mk.l then 5 else 0
def isKeyB (mk : MK) (l : List Int) : Bool := decide (keyFault mk l = 0)

open Go.ChangeShapes Go.WideShapes Go.ChangeAt Go.RowKit
set_option linter.unusedVariables false

/-- some row opens door d -/
def doorOpen (t : List (List Int)) (d : Nat) : Bool := t.any fun r => r.getD d 0 == 1
def doorsOf (t : List (List Int)) : Nat := (t.getD 0 []).length
def isSystem (mk : MK) (t : List (List Int)) : Bool := isMaker mk && (isTable t && (List.range (doorsOf t)).all (doorOpen t))
/-- the rows that open door d -/
def rowsAt (t : List (List Int)) (d : Nat) (n : Nat) : List Nat := (List.range n).filter fun k => (t.getD k []).getD d 0 == 1
def rowsI (t : List (List Int)) (d : Nat) (n : Nat) : List Int := (rowsAt t d n).map fun (k : Nat) => (k : Int)
theorem rowsAt_succ (t : List (List Int)) (d n : Nat) : rowsAt t d (n+1) = rowsAt t d n ++ if (t.getD n []).getD d 0 == 1 then [n] else [] := by
  unfold rowsAt; rw [List.range_succ, List.filter_append, List.filter_cons, List.filter_nil]
theorem rowsI_succ (t : List (List Int)) (d n : Nat) : rowsI t d (n+1) = rowsI t d n ++ if (t.getD n []).getD d 0 == 1 then [(n : Int)] else [] := by
  unfold rowsI; rw [rowsAt_succ, List.map_append]; congr 1; split <;> rfl
theorem rowsAt_lt {t : List (List Int)} {d n k : Nat} (h : k ∈ rowsAt t d n) : k < n := by
  unfold rowsAt at h; exact List.mem_range.1 (List.mem_filter.1 h).1
theorem rowsAt_len (t : List (List Int)) (d n : Nat) : (rowsAt t d n).length ≤ n := by
  have := List.length_filter_le (fun k => (t.getD k []).getD d 0 == 1) (List.range n)
  simpa [rowsAt] using this
theorem rowsI_len (t : List (List Int)) (d n : Nat) : (rowsI t d n).length ≤ n := by unfold rowsI; rw [List.length_map]; exact rowsAt_len t d n
theorem rowsI_nil {t : List (List Int)} {d : Nat} : rowsI t d t.length = [] ↔ doorOpen t d = false := by
  unfold rowsI doorOpen
  rw [List.map_eq_nil_iff, List.any_eq_false, rowsAt, List.filter_eq_nil_iff]
  constructor
  · intro h r hr
    obtain ⟨i, hi, rfl⟩ := List.getElem_of_mem hr
    have := h i (List.mem_range.2 hi)
    simpa [hi] using this
  · intro h k hk
    have hk := List.mem_range.1 hk
    have := h t[k] (List.getElem_mem hk)
    simpa [hk] using this
/-- the cuts of the first rows that open door d -/
def keysAt (t cuts : List (List Int)) (d n : Nat) : List (List Int) := (rowsAt t d n).map fun k => cuts.getD k []
theorem keysAt_succ (t cuts : List (List Int)) (d n : Nat) : keysAt t cuts d (n+1) = keysAt t cuts d n ++ if (t.getD n []).getD d 0 == 1 then [cuts.getD n []] else [] := by
  unfold keysAt; rw [rowsAt_succ, List.map_append]; congr 1; split <;> rfl
theorem keysAt_mem {t cuts : List (List Int)} {d n : Nat} {x : List Int} (hn : n ≤ cuts.length) (h : x ∈ keysAt t cuts d n) : x ∈ cuts := by
  unfold keysAt at h
  obtain ⟨k, hk, rfl⟩ := List.mem_map.1 h
  have := rowsAt_lt hk
  have hl : k < cuts.length := by omega
  have : cuts.getD k [] = cuts[k] := by simp [hl]
  rw [this]; exact List.getElem_mem hl
theorem keysAt_len (t cuts : List (List Int)) (d n : Nat) : (keysAt t cuts d n).length ≤ n := by unfold keysAt; rw [List.length_map]; exact rowsAt_len t d n
/-- the depths that some key has in chamber i -/
def setAt (keys : List (List Int)) (i : Nat) (n : Nat) : List Int := ((List.range n).filter fun (x : Nat) => keys.any fun r => r.getD i 0 == (x : Int)).map fun (x : Nat) => (x : Int)
theorem setAt_succ (keys : List (List Int)) (i n : Nat) : setAt keys i (n+1) = setAt keys i n ++ if keys.any (fun r => r.getD i 0 == (n : Int)) = true then [(n : Int)] else [] := by
  unfold setAt; rw [List.range_succ, List.filter_append, List.filter_cons, List.filter_nil, List.map_append]; congr 1; split <;> rfl
theorem setAt_len (keys : List (List Int)) (i n : Nat) : (setAt keys i n).length ≤ n := by
  have := List.length_filter_le (fun (x : Nat) => keys.any fun r => r.getD i 0 == (x : Int)) (List.range n)
  simpa [setAt] using this
theorem setAt_mem {keys : List (List Int)} {i n : Nat} {x : Int} : x ∈ setAt keys i n ↔ (0 ≤ x ∧ x < n) ∧ ∃ r ∈ keys, r.getD i 0 = x := by
  unfold setAt
  rw [List.mem_map]
  constructor
  · rintro ⟨k, hk, rfl⟩
    obtain ⟨h1, h2⟩ := List.mem_filter.1 hk
    obtain ⟨r, hr, he⟩ := List.any_eq_true.1 h2
    have := List.mem_range.1 h1
    exact ⟨by omega, r, hr, by simpa using he⟩
  · rintro ⟨⟨h1, h2⟩, r, hr, he⟩
    refine ⟨x.toNat, List.mem_filter.2 ⟨List.mem_range.2 (by omega), List.any_eq_true.2 ⟨r, hr, ?_⟩⟩, by omega⟩
    rw [he]; simp; omega
theorem setAt_sorted (keys : List (List Int)) (i n : Nat) : (setAt keys i n).Pairwise (· < ·) := by
  unfold setAt
  rw [List.pairwise_map]
  refine List.Pairwise.imp (fun h => by omega) ((List.pairwise_lt_range (n := n)).filter _)
def hullTo (mk : MK) (keys : List (List Int)) (n : Nat) : List (List Int) := (List.range n).map fun i => setAt keys i mk.d.toNat
def hull (mk : MK) (keys : List (List Int)) : List (List Int) := hullTo mk keys mk.c.toNat
theorem hullTo_succ (mk : MK) (keys : List (List Int)) (n : Nat) : hullTo mk keys (n+1) = hullTo mk keys n ++ [setAt keys n mk.d.toNat] := by
  unfold hullTo; rw [List.range_succ, List.map_append]; rfl
theorem hullTo_len (mk : MK) (keys : List (List Int)) (n : Nat) : (hullTo mk keys n).length = n := by simp [hullTo]
/-- the locks of the first n doors -/
def locksTo (mk : MK) (t cuts : List (List Int)) (n : Nat) : List (List (List Int)) := (List.range n).map fun d => hull mk (keysAt t cuts d cuts.length)
def locks (mk : MK) (t cuts : List (List Int)) : List (List (List Int)) := locksTo mk t cuts (doorsOf t)
theorem locksTo_succ (mk : MK) (t cuts : List (List Int)) (n : Nat) : locksTo mk t cuts (n+1) = locksTo mk t cuts n ++ [hull mk (keysAt t cuts n cuts.length)] := by
  unfold locksTo; rw [List.range_succ, List.map_append]; rfl
theorem locksTo_len (mk : MK) (t cuts : List (List Int)) (n : Nat) : (locksTo mk t cuts n).length = n := by simp [locksTo]
/-- cuts open a lock -/
def opensB (l : List (List Int)) (cuts : List Int) : Bool := (List.range cuts.length).all fun i => has (l.getD i []) (cuts.getD i 0)
/-- the cuts of row k open door d, and have no right to -/
def faultAt (mk : MK) (t cuts : List (List Int)) (k d : Nat) : Bool := (t.getD k []).getD d 0 == 0 && opensB ((locks mk t cuts).getD d []) (cuts.getD k [])
def faultRow (mk : MK) (t cuts : List (List Int)) (k n : Nat) : Nat := ((List.range n).filter (faultAt mk t cuts k)).length
def faultsTo (mk : MK) (t cuts : List (List Int)) : Nat → Nat
  | 0 => 0
  | k+1 => faultsTo mk t cuts k + faultRow mk t cuts k (doorsOf t)
/-- how many false openings there are -/
def faults (mk : MK) (t cuts : List (List Int)) : Nat := faultsTo mk t cuts cuts.length
theorem faultRow_succ (mk : MK) (t cuts : List (List Int)) (k n : Nat) : faultRow mk t cuts k (n+1) = faultRow mk t cuts k n + if faultAt mk t cuts k n = true then 1 else 0 := by
  unfold faultRow; rw [List.range_succ, List.filter_append, List.filter_cons, List.filter_nil, List.length_append]; congr 1; split <;> rfl
theorem faultRow_le (mk : MK) (t cuts : List (List Int)) (k n : Nat) : faultRow mk t cuts k n ≤ n := by
  have := List.length_filter_le (faultAt mk t cuts k) (List.range n)
  simpa [faultRow] using this
theorem faultsTo_le (mk : MK) (t cuts : List (List Int)) (n : Nat) : faultsTo mk t cuts n ≤ n * doorsOf t := by
  induction n with
  | zero => exact Nat.zero_le _
  | succ n ih =>
    have := faultRow_le mk t cuts n (doorsOf t)
    show faultsTo mk t cuts n + _ ≤ _
    rw [Nat.succ_mul]; omega
def areKeysB (mk : MK) (cuts : List (List Int)) : Bool := cuts.all (isKeyB mk)
def isDesign (mk : MK) (t cuts : List (List Int)) : Bool := isSystem mk t && ((decide (cuts.length = t.length) && areKeysB mk cuts) && decide (faults mk t cuts = 0))
/-! ### facts of a system -/
structure SysOk (mk : MK) (t : List (List Int)) : Prop where
  mk1 : 2 ≤ mk.c ∧ mk.c ≤ 6
  mk2 : 2 ≤ mk.d ∧ mk.d ≤ 8
  len : 1 ≤ t.length ∧ t.length ≤ 10
  doors : 1 ≤ doorsOf t ∧ doorsOf t ≤ 12
  row : ∀ k, k < t.length → (t.getD k []).length = doorsOf t
  bit : ∀ k d, k < t.length → d < doorsOf t → 0 ≤ (t.getD k []).getD d 0 ∧ (t.getD k []).getD d 0 ≤ 1
theorem tabOk {t : List (List Int)} (h : isTable t = true) : (1 ≤ t.length ∧ t.length ≤ 10) ∧ (1 ≤ doorsOf t ∧ doorsOf t ≤ 12) ∧ (∀ k, k < t.length → (t.getD k []).length = doorsOf t) ∧ (∀ k d, k < t.length → d < doorsOf t → 0 ≤ (t.getD k []).getD d 0 ∧ (t.getD k []).getD d 0 ≤ 1) := by
  unfold isTable at h
  obtain ⟨h1, h2⟩ := Bool.and_eq_true_iff.1 h
  have h2 := of_decide_eq_true h2
  have hr : ∀ k, k < t.length → (t.getD k []).length = doorsOf t ∧ (1 ≤ (t.getD k []).length ∧ (t.getD k []).length ≤ 12) ∧ allB (t.getD k []) 0 1 = true := by
    intro k hk
    have := (List.all_eq_true.1 h1) t[k] (List.getElem_mem hk)
    unfold tabRow at this
    obtain ⟨a, b⟩ := Bool.and_eq_true_iff.1 this
    obtain ⟨b, c⟩ := Bool.and_eq_true_iff.1 b
    have e : t.getD k [] = t[k] := by simp [hk]
    rw [e]
    exact ⟨of_decide_eq_true a, of_decide_eq_true b, c⟩
  refine ⟨h2, ?_, fun k hk => (hr k hk).1, fun k d hk hd => ?_⟩
  · have := hr 0 (by omega)
    exact this.2.1
  · obtain ⟨e1, -, e2⟩ := hr k hk
    have hd' : d < (t.getD k []).length := by omega
    have := (List.all_eq_true.1 e2) _ (List.getElem_mem hd')
    have e : (t.getD k []).getD d 0 = (t.getD k [])[d] := by rw [List.getD_eq_getElem?_getD, List.getElem?_eq_getElem hd']; rfl
    rw [e]; exact inB_iff.1 this
theorem sysOk {mk : MK} {t : List (List Int)} (h : isSystem mk t = true) : SysOk mk t := by
  unfold isSystem at h
  obtain ⟨h1, h2⟩ := Bool.and_eq_true_iff.1 h
  obtain ⟨h2, -⟩ := Bool.and_eq_true_iff.1 h2
  obtain ⟨a, b, -⟩ := isMaker_iff.1 h1
  obtain ⟨c, d, e, f⟩ := tabOk h2
  exact ⟨a, b, c, d, e, f⟩
/-! ### facts of keys -/
structure KeyOk (mk : MK) (l : List Int) : Prop where
  len : (l.length : Int) = mk.c
  cut : ∀ i, i < l.length → 0 ≤ l.getD i 0 ∧ l.getD i 0 ≤ mk.d - 1
theorem cutsOk_iff {mk : MK} {l : List Int} (h : cutsOk mk l = true) : KeyOk mk l := by
  unfold cutsOk at h
  obtain ⟨h1, h2⟩ := Bool.and_eq_true_iff.1 h
  refine ⟨of_decide_eq_true h2, fun i hi => ?_⟩
  have := (List.all_eq_true.1 h1) _ (List.getElem_mem hi)
  have e : l.getD i 0 = l[i] := by simp [hi]
  rw [e]; exact inB_iff.1 this
theorem keyOk {mk : MK} {l : List Int} (h : isKeyB mk l = true) : KeyOk mk l := by
  unfold isKeyB keyFault at h
  have h := of_decide_eq_true h
  split at h
  · omega
  · split at h
    · omega
    · rename_i h2
      exact cutsOk_iff (by simpa using h2)
theorem keysOk {mk : MK} {cuts : List (List Int)} (h : areKeysB mk cuts = true) : ∀ r ∈ cuts, KeyOk mk r := fun r hr => keyOk ((List.all_eq_true.1 h) r hr)
/-! ### strictly increasing lists with the same elements are the same -/
theorem rise_eq : ∀ {a b : List Int}, a.Pairwise (· < ·) → b.Pairwise (· < ·) → (∀ x, x ∈ a ↔ x ∈ b) → a = b
  | [], [], _, _, _ => rfl
  | [], y :: b, _, _, h => absurd ((h y).2 List.mem_cons_self) (by simp)
  | x :: a, [], _, _, h => absurd ((h x).1 List.mem_cons_self) (by simp)
  | x :: a, y :: b, ha, hb, h => by
    obtain ⟨ha1, ha2⟩ := List.pairwise_cons.1 ha
    obtain ⟨hb1, hb2⟩ := List.pairwise_cons.1 hb
    have hxy : x = y := by
      rcases List.mem_cons.1 ((h x).1 List.mem_cons_self) with e | e
      · exact e
      · rcases List.mem_cons.1 ((h y).2 List.mem_cons_self) with e' | e'
        · exact e'.symm
        · have := hb1 x e; have := ha1 y e'; omega
    subst hxy
    congr 1
    refine rise_eq ha2 hb2 (fun z => ⟨fun hz => ?_, fun hz => ?_⟩)
    · rcases List.mem_cons.1 ((h z).1 (List.mem_cons_of_mem _ hz)) with e | e
      · have := ha1 z hz; omega
      · exact e
    · rcases List.mem_cons.1 ((h z).2 (List.mem_cons_of_mem _ hz)) with e | e
      · have := hb1 z hz; omega
      · exact e

open Go.ChangeShapes Go.WideShapes Go.ChangeAt Go.RowKit
set_option linter.unusedVariables false

def sysV (mk : MK) (u : Value) : Value := .agg #[.int .i64 mk.c, .int .i64 mk.d, .int .i64 mk.s, .int .i64 mk.m, .int .i64 mk.l, u]
/-- a system by value lies in block b -/
structure SysAt (w : World) (b : Nat) (mk : MK) (u : Value) : Prop where
  c0 : w.cell? ⟨b, 0, none⟩ = some (.int .i64 mk.c)
  c1 : w.cell? ⟨b, 1, none⟩ = some (.int .i64 mk.d)
  c2 : w.cell? ⟨b, 2, none⟩ = some (.int .i64 mk.s)
  c3 : w.cell? ⟨b, 3, none⟩ = some (.int .i64 mk.m)
  c4 : w.cell? ⟨b, 4, none⟩ = some (.int .i64 mk.l)
  c5 : w.cell? ⟨b, 5, none⟩ = some u
theorem sys_box {w w0 : World} {mk : MK} {u : Value} {t : TypeId} (h : w.alloc (.cells #[.int .i64 mk.c, .int .i64 mk.d, .int .i64 mk.s, .int .i64 mk.m, .int .i64 mk.l, u] t) = w0) : Ext w w0 ∧ SysAt w0 w.heap.size mk u := by
  subst h
  exact ⟨Ext.alloc _ _, by simp, by simp, by simp, by simp, by simp, by simp⟩
theorem SysAt.ext {w w' : World} {b : Nat} {mk : MK} {u : Value} (h : SysAt w b mk u) (e : Ext w w') : SysAt w' b mk u := ⟨e.cell h.c0, e.cell h.c1, e.cell h.c2, e.cell h.c3, e.cell h.c4, e.cell h.c5⟩
theorem SysAt.drew {w w' : World} {b : Nat} {mk : MK} {u : Value} (h : SysAt w b mk u) (e : Drew w w') : SysAt w' b mk u := h.ext (Ext.ofDrew e)
theorem SysAt.all {w w' : World} {b : Nat} {mk : MK} {u : Value} (h : SysAt w b mk u) (e : Ext w w') : w'.cell? ⟨b, 0, none⟩ = some (.int .i64 mk.c) ∧ w'.cell? ⟨b, 1, none⟩ = some (.int .i64 mk.d) ∧ w'.cell? ⟨b, 2, none⟩ = some (.int .i64 mk.s) ∧ w'.cell? ⟨b, 3, none⟩ = some (.int .i64 mk.m) ∧ w'.cell? ⟨b, 4, none⟩ = some (.int .i64 mk.l) ∧ w'.cell? ⟨b, 5, none⟩ = some u :=
  ⟨e.cell h.c0, e.cell h.c1, e.cell h.c2, e.cell h.c3, e.cell h.c4, e.cell h.c5⟩
theorem MK.veq (mk : MK) : mk.v = .agg #[.int .i64 mk.c, .int .i64 mk.d, .int .i64 mk.s, .int .i64 mk.m, .int .i64 mk.l] := rfl
theorem Ext.lt {w w' : World} (h : Ext w w') {b : Nat} (hb : b < w.heap.size) : b < w'.heap.size := Nat.lt_of_lt_of_le hb h.size
theorem SysAt.lt {w : World} {b : Nat} {mk : MK} {u : Value} (h : SysAt w b mk u) : b < w.heap.size := World.block_lt_of_cell? _ _ h.c0

/-- row k of a table, in any later world: where its slice lies, and its elements -/
theorem rows_at {w : World} {a : Option Addr} {n cap : Nat} {z : Zone} {t : List (List Int)} (h : RowsR z w (.slice a n cap) t) {k : Nat} (hk : k < n) :
    ∃ b off, a = some ⟨b, off, none⟩ ∧ ∃ a1 n1 c1, n1 = (t.getD k []).length ∧ n1 ≤ 9223372036854775807 ∧ n1 ≤ c1 ∧ (∀ w', Ext w w' → w'.cell? ⟨b, off + k, none⟩ = some (.slice a1 n1 c1)) ∧ (∃ y : Zone, y.Sub ⟨z.lo, z.hi, false⟩ ∧ ∀ w', Ext w w' → IntsR y w' (.slice a1 n1 c1) (t.getD k [])) ∧
      ∀ j, j < n1 → ∃ b1 o1, a1 = some ⟨b1, o1, none⟩ ∧ I64 ((t.getD k []).getD j 0) ∧ ∀ w', Ext w w' → w'.cell? ⟨b1, o1 + j, none⟩ = some (.int .i64 ((t.getD k []).getD j 0)) := by
  obtain ⟨a', n', c', he, hn, -, hel⟩ := SliceR.elem stable_ints h
  injection he with e1 e2 e3
  subst e1; subst e2; subst e3
  obtain ⟨b, off, rfl, hb, u, hc, hu⟩ := hel k (by omega)
  have e0 : t[k]'(by omega) = t.getD k [] := by simp [show k < t.length by omega]
  rw [e0] at hu
  obtain ⟨a1, n1, c1, rfl, hn1, hm1, hcap, -, -, h1⟩ := IntsR.shape hu
  refine ⟨b, off, rfl, a1, n1, c1, hn1, hm1, hcap, fun w' e => e.cell hc, ⟨_, Zone.Sub.refl _, fun w' e => stable_ints.ext hu e⟩, fun j hj => ?_⟩
  obtain ⟨b1, o1, rfl, hx, hi, -⟩ := h1 j hj
  exact ⟨b1, o1, rfl, hi, fun w' e => e.cell hx⟩

set_option maxRecDepth 20000 in
set_option maxHeartbeats 1000000 in
theorem rowsFor_c (w : World) (mk : MK) (v : Value) (z : Zone) (t : List (List Int)) (h : RowsR z w v t) (d : Nat) (hd : ∀ k, k < t.length → d < (t.getD k []).length) (hl : t.length ≤ 10) :
    Calls Tryz.prog 60 #[sysV mk v, .int .i64 d] w (Ret w fun r w' => OwnP (Value.int .i64) 2 w.heap.size w' r (rowsI t d t.length)) := by
  obtain ⟨a, n, cap, rfl, hn, -⟩ := SliceR.shape h
  have HT := Lib.hid (fun (k : Nat) (hk : k < n) => rows_at h hk)
  rw [← hn] at hl
  have Hd : Hid (∀ k, k < n → d < (t.getD k []).length) := fun k hk => hd k (by omega)
  have Hn := Lib.hid hn
  clear hn h hd
  unfold sysV
  go_enter Tryz.func60, Tryz.ntmps60
  go_wp2_with fail
  generalize hw1 : World.alloc (World.alloc w _) _ = w1
  obtain ⟨e1, S0, o1⟩ : Ext w w1 ∧ SysAt w1 w.heap.size mk (.slice a n cap) ∧ OwnP (Value.int .i64) 2 (w.heap.size+1) w1 (.slice (some ⟨w.heap.size + 1, 0, none⟩) 0 0) [] := by
    subst hw1
    obtain ⟨f1, f2⟩ := sys_box (w := w) (mk := mk) (u := .slice a n cap) rfl
    exact ⟨f1.trans (Ext.alloc _ _), f2.ext (Ext.alloc _ _), by have := OwnP.empty (f := Value.int .i64) (e := 2) (B := w.heap.size + 1) (w := w.alloc (.cells #[.int .i64 mk.c, .int .i64 mk.d, .int .i64 mk.s, .int .i64 mk.m, .int .i64 mk.l, .slice a n cap] 32)) (by simp); simpa using this⟩
  clear hw1
  have c5 := S0.c5
  clear S0
  have HI : Hid ((w.heap.size + 1 : Nat) < w1.heap.size) := (o1.block _ rfl).2
  go_loopw [5, 6, 7, 12] (fun o _ _ s wr => ∃ k : Nat, k ≤ n ∧ s = .int .i64 k ∧ OwnP (Value.int .i64) 2 (w.heap.size+1) wr o (rowsI t d k) ∧ Below (w.heap.size+1) w1 wr) (fun _ _ _ s _ => n - (intOf s).toNat)
  case atStart => exact ⟨0, Nat.zero_le _, rfl, o1, Below.refl _ _⟩
  case round =>
    obtain ⟨k, hk, rfl, hown, hb⟩ := hrel
    have hsz := hb.size
    have c5' := (hb.cell (p := ⟨w.heap.size, 5, none⟩) (by simp)).trans c5
    have hb1 := HI.out
    have eW : Ext w wr := Below.trans e1 (hb.mono (Nat.le_succ _))
    by_cases hlt : k < n
    · obtain ⟨b, off, rfl, a1, n1, k1, hn1, hm1, -, hc, -, hel⟩ := HT.out k hlt
      have hdn := Hd.out k hlt
      rw [← hn1] at hdn
      obtain ⟨b1, o1', rfl, hx, hc1⟩ := hel d hdn
      replace hc := hc wr eW
      replace hc1 := hc1 wr eW
      have HS := Lib.hid (rowsI_succ t d k)
      have hle := rowsI_len t d k
      generalize hup : rowsI t d k = up at *
      clear hup hel hn1
      generalize (t.getD k []).getD d 0 = x at *
      by_cases hx1 : x = 1
      · have hq : (x == 1) = true := by simpa using hx1
        have HU : Hid (rowsI t d (k+1) = up ++ [(k : Int)]) := by show _ = _; rw [HS.out, if_pos hq]
        clear HS
        go_wp2_with (at_builtin; (refine wpList_append1 (f := Value.int .i64) (e := 2) (B := w.heap.size + 1) (xs := up) rfl _ _ 41 rfl 0 8 Tryz.underlying41 Tryz.infoI64 rfl (fun _ => rfl) rfl hown (k : Int) rfl (by omega) (by omega) (by omega) ?_); intro v6 w6 hown6 hg6 hb6)
        go_roundw
        case rel => exact ⟨k + 1, by omega, by go_num, by rw [HU.out]; exact hown6, hb.trans hb6⟩
        case measure => simp [intOf]; omega
      · have hq : (x == 1) = false := by simpa using hx1
        have HU : Hid (rowsI t d (k+1) = up) := by show _ = _; rw [HS.out, if_neg (by rw [hq]; decide), List.append_nil]
        clear HS hx1
        go_wp2_with fail
        go_roundw
        case rel => exact ⟨k + 1, by omega, by go_num, by rw [HU.out]; exact hown, hb⟩
        case measure => simp [intOf]; omega
    · have hkn : k = n := by omega
      have hkl : k = t.length := by rw [hkn]; exact Hn.out
      go_wp2_with fail
      go_ret
      exact ⟨_, rfl, by rw [← hkl]; exact hown.lower (Nat.le_succ _), eW⟩

open Go.ChangeShapes Go.WideShapes Go.ChangeAt Go.RowKit
set_option linter.unusedVariables false

theorem isSystem_maker {mk : MK} {t : List (List Int)} (h : isMaker mk = false) : isSystem mk t = false := by unfold isSystem; rw [h]; rfl
theorem isSystem_table {mk : MK} {t : List (List Int)} (h : isTable t = false) : isSystem mk t = false := by unfold isSystem; rw [h]; simp
theorem isSystem_shut {mk : MK} {t : List (List Int)} (d : Nat) (hd : d < doorsOf t) (h : doorOpen t d = false) : isSystem mk t = false := by
  have : (List.range (doorsOf t)).all (doorOpen t) = false := by rw [List.all_eq_false]; exact ⟨d, List.mem_range.2 hd, by rw [h]; decide⟩
  unfold isSystem; rw [this]; simp
theorem isSystem_yes {mk : MK} {t : List (List Int)} (h1 : isMaker mk = true) (h2 : isTable t = true) (h : ∀ d, d < doorsOf t → doorOpen t d = true) : isSystem mk t = true := by
  have : (List.range (doorsOf t)).all (doorOpen t) = true := by rw [List.all_eq_true]; intro d hd; exact h d (List.mem_range.1 hd)
  unfold isSystem; rw [this, h1, h2]; rfl

set_option maxRecDepth 20000 in
set_option maxHeartbeats 1000000 in
theorem IsSystem_c (w : World) (mk : MK) (v : Value) (z : Zone) (t : List (List Int)) (h : RowsR z w v t) :
    Calls Tryz.prog 59 #[sysV mk v] w (Ret w fun r _ => r = .bool (isSystem mk t)) := by
  have HM : Hid (isMaker mk = false → isSystem mk t = false) := isSystem_maker
  have HB : Hid (isTable t = false → isSystem mk t = false) := isSystem_table
  have HD : Hid (∀ d, d < doorsOf t → doorOpen t d = false → isSystem mk t = false) := fun d hd h => isSystem_shut d hd h
  have HY : Hid (isMaker mk = true → isTable t = true → (∀ d, d < doorsOf t → doorOpen t d = true) → isSystem mk t = true) := isSystem_yes
  generalize isSystem mk t = res at *
  have HC1 := Lib.hid (fun w' => IsMaker_c w' mk)
  have HC2 := Lib.hid (fun (w' : World) (e : Ext w w') => IsTable_c w' v z t (stable_rows.ext h e))
  have HC3 := Lib.hid (fun (w' : World) (e : Ext w w') => rowsFor_c w' mk v z t (stable_rows.ext h e))
  obtain ⟨a, n, cap, rfl, hn, -⟩ := SliceR.shape h
  have HT := Lib.hid (fun (k : Nat) (hk : k < n) => rows_at h hk)
  have Hn := Lib.hid hn
  clear hn h
  unfold sysV at *
  go_enter Tryz.func59, Tryz.ntmps59
  go_wp2_with fail
  generalize hw0 : World.alloc _ _ = w0
  obtain ⟨e0, S0⟩ := sys_box hw0
  clear hw0
  have HS := Lib.hid S0
  obtain ⟨c0, c1, c2, c3, c4, c5⟩ := S0
  cases hm : isMaker mk with
  | false =>
    have HH := Lib.hid (HM.out hm)
    rw [hm] at HC1
    clear hm
    refine Calls.mono (HC1.out w0) ?_
    rintro e w1 hr
    obtain ⟨r, rfl, rfl, e1⟩ := ret_ext hr
    go_wp2_with fail
    go_ret
    exact ⟨.bool false, rfl, congrArg Value.bool HH.out.symm, e0.trans e1⟩
  | true =>
    have HMt := Lib.hid hm
    rw [hm] at HC1
    clear hm
    refine Calls.mono (HC1.out w0) ?_
    rintro e w1 hr
    obtain ⟨r, rfl, rfl, e1⟩ := ret_ext hr
    clear hr
    clear c0 c1 c2 c3 c4 c5
    obtain ⟨c0, c1, c2, c3, c4, c5⟩ := HS.out.all e1
    have et := e0.trans e1
    have hcall := HC2.out w1 et
    cases ht : isTable t with
    | false =>
      have HH := Lib.hid (HB.out ht)
      rw [ht] at hcall
      clear ht
      go_wp2_with fail
      refine Calls.mono hcall ?_
      rintro e w2 hr
      obtain ⟨rfl, hd, e2⟩ := retq_ext hr
      go_wp2_with fail
      go_ret
      exact ⟨.bool false, rfl, congrArg Value.bool HH.out.symm, et.trans e2⟩
    | true =>
      obtain ⟨t1, t2, t3, -⟩ := tabOk ht
      have HTt := Lib.hid ht
      rw [ht] at hcall
      clear ht
      obtain ⟨b, off, rfl, a0, m, cp, hm0, hmm, -, hc, -⟩ := HT.out 0 (by have := Hn.out; omega)
      have Hm : Hid (m = doorsOf t) := hm0
      have Ht3 := Lib.hid t3
      have hm12 : m ≤ 12 := by have := Hm.out; omega
      have hn0 : 0 < n := by have := Hn.out; omega
      have hl10 : n ≤ 10 := by have := Hn.out; omega
      clear t1 t2 t3 hm0
      go_wp2_with fail
      refine Calls.mono hcall ?_
      rintro e w2 hr
      obtain ⟨rfl, -, e2⟩ := retq_ext hr
      clear hr hcall
      clear c0 c1 c2 c3 c4 c5
      have et2 := et.trans e2
      obtain ⟨c0, c1, c2, c3, c4, c5⟩ := HS.out.all (e1.trans e2)
      have hc2 := hc w2 et2
      rw [Nat.add_zero] at hc2
      go_wp2_with fail
      go_loopw [3, 19] (fun _ s wr => ∃ d : Nat, d ≤ m ∧ s = .int .i64 d ∧ (∀ j, j < d → doorOpen t j = true) ∧ Ext w2 wr) (fun _ s _ => m - (intOf s).toNat)
      case atStart => exact ⟨0, Nat.zero_le _, rfl, by simp, Ext.refl _⟩
      case round =>
        obtain ⟨d, hd, rfl, hall, ew⟩ := hrel
        have Hall := Lib.hid hall
        clear hall
        clear c0 c1 c2 c3 c4 c5
        obtain ⟨c0, c1, c2, c3, c4, c5⟩ := HS.out.all ((e1.trans e2).trans ew)
        have et3 := et2.trans ew
        by_cases hlt : d < m
        · have hcall := HC3.out wr et3 d (fun k hk => by rw [Ht3.out k hk, ← Hm.out]; exact hlt) (by rw [← Hn.out]; exact hl10)
          have HN : Hid (rowsI t d t.length = [] ↔ doorOpen t d = false) := rowsI_nil
          have Hno : Hid (doorOpen t d = false → res = false) := fun h => HD.out d (by rw [← Hm.out]; exact hlt) h
          have Hgo : Hid (doorOpen t d = true → ∀ j, j < d + 1 → doorOpen t j = true) := fun h j hj => by
            by_cases e : j = d
            · rw [e]; exact h
            · exact Hall.out j (by omega)
          generalize doorOpen t d = q at *
          generalize rowsI t d t.length = rs at *
          go_wp2_with fail
          refine Calls.mono hcall ?_
          rintro e w4 hr
          obtain ⟨r, rfl, ho, e4⟩ := ret_ext hr
          clear hr hcall
          obtain ⟨ra, rn, rc, rfl, hrn, -⟩ := ho.shape
          cases q with
          | false =>
            have hr0 : rn = 0 := by rw [hrn, HN.out.2 rfl]; rfl
            subst hr0
            have HH := Lib.hid (Hno.out rfl)
            clear hrn
            go_wp2_with fail
            go_ret
            exact ⟨.bool false, rfl, congrArg Value.bool HH.out.symm, et3.trans e4⟩
          | true =>
            have hr0 : ((rn : Int) == 0) = false := by
              rw [beq_eq_false_iff_ne]; intro h
              have : rs = [] := List.eq_nil_of_length_eq_zero (by omega)
              have := HN.out.1 this
              cases this
            have HG := Lib.hid (Hgo.out rfl)
            clear hrn
            go_wp2_with fail
            go_roundw
            case rel => exact ⟨d+1, by omega, by go_num, HG.out, ew.trans e4⟩
            case measure => simp [intOf]; omega
        · have HH : Hid (res = true) := HY.out HMt.out HTt.out (fun j hj => Hall.out j (by have := Hm.out; omega))
          go_wp2_with fail
          go_ret
          exact ⟨.bool true, rfl, congrArg Value.bool HH.out.symm, et3⟩

theorem anyTake_succ {α : Type} (l : List α) (p : α → Bool) (d : α) {i : Nat} (h : i < l.length) : (l.take (i+1)).any p = ((l.take i).any p || p (l.getD i d)) := by
  rw [List.take_add_one, List.getElem?_eq_getElem h, List.any_append]
  simp [h]

set_option maxRecDepth 20000 in
set_option maxHeartbeats 2000000 in
theorem IsSystemSpec_c (w : World) (mk : MK) (v : Value) (z : Zone) (t : List (List Int)) (h : RowsR z w v t) :
    Calls Tryz.prog 62 #[sysV mk v] w (Ret w fun r _ => r = .bool (isSystem mk t)) := by
  have HM : Hid (isMaker mk = false → isSystem mk t = false) := isSystem_maker
  have HB : Hid (isTable t = false → isSystem mk t = false) := isSystem_table
  have HD : Hid (∀ d, d < doorsOf t → doorOpen t d = false → isSystem mk t = false) := fun d hd h => isSystem_shut d hd h
  have HY : Hid (isMaker mk = true → isTable t = true → (∀ d, d < doorsOf t → doorOpen t d = true) → isSystem mk t = true) := isSystem_yes
  generalize isSystem mk t = res at *
  have HC1 := Lib.hid (fun w' => IsMakerSpec_c w' mk)
  have HC2 := Lib.hid (fun (w' : World) (e : Ext w w') => IsTableSpec_c w' v z t (stable_rows.ext h e))
  obtain ⟨a, n, cap, rfl, hn, -⟩ := SliceR.shape h
  have HT := Lib.hid (fun (k : Nat) (hk : k < n) => rows_at h hk)
  have Hn := Lib.hid hn
  clear hn h
  unfold sysV at *
  go_enter Tryz.func62, Tryz.ntmps62
  go_wp2_with fail
  generalize hw0 : World.alloc _ _ = w0
  obtain ⟨e0, S0⟩ := sys_box hw0
  clear hw0
  have HS := Lib.hid S0
  obtain ⟨c0, c1, c2, c3, c4, c5⟩ := S0
  cases hm : isMaker mk with
  | false =>
    have HH := Lib.hid (HM.out hm)
    rw [hm] at HC1
    clear hm
    refine Calls.mono (HC1.out w0) ?_
    rintro e w1 hr
    obtain ⟨r, rfl, rfl, e1⟩ := ret_ext hr
    go_wp2_with fail
    go_ret
    exact ⟨.bool false, rfl, congrArg Value.bool HH.out.symm, e0.trans e1⟩
  | true =>
    have HMt := Lib.hid hm
    rw [hm] at HC1
    clear hm
    refine Calls.mono (HC1.out w0) ?_
    rintro e w1 hr
    obtain ⟨r, rfl, rfl, e1⟩ := ret_ext hr
    clear hr
    clear c0 c1 c2 c3 c4 c5
    obtain ⟨c0, c1, c2, c3, c4, c5⟩ := HS.out.all e1
    have et := e0.trans e1
    have hcall := HC2.out w1 et
    cases ht : isTable t with
    | false =>
      have HH := Lib.hid (HB.out ht)
      rw [ht] at hcall
      clear ht
      go_wp2_with fail
      refine Calls.mono hcall ?_
      rintro e w2 hr
      obtain ⟨rfl, hd, e2⟩ := retq_ext hr
      go_wp2_with fail
      go_ret
      exact ⟨.bool false, rfl, congrArg Value.bool HH.out.symm, et.trans e2⟩
    | true =>
      obtain ⟨t1, t2, t3, -⟩ := tabOk ht
      have HTt := Lib.hid ht
      rw [ht] at hcall
      clear ht
      obtain ⟨b, off, rfl, a0, m, cp, hm0, hmm, -, hc, -⟩ := HT.out 0 (by have := Hn.out; omega)
      have Hm : Hid (m = doorsOf t) := hm0
      have Ht3 := Lib.hid t3
      have hm12 : m ≤ 12 := by have := Hm.out; omega
      have hn0 : 0 < n := by have := Hn.out; omega
      have hl10 : n ≤ 10 := by have := Hn.out; omega
      clear t1 t2 t3 hm0
      go_wp2_with fail
      refine Calls.mono hcall ?_
      rintro e w2 hr
      obtain ⟨rfl, -, e2⟩ := retq_ext hr
      clear hr hcall
      clear c0 c1 c2 c3 c4 c5
      have et2 := et.trans e2
      obtain ⟨c0, c1, c2, c3, c4, c5⟩ := HS.out.all (e1.trans e2)
      have hc2 := hc w2 et2
      rw [Nat.add_zero] at hc2
      go_wp2_with fail
      go_loopw [3, 4, 5] (fun s _ _ wr => ∃ d : Nat, d ≤ m ∧ s = .int .i64 d ∧ (∀ j, j < d → doorOpen t j = true) ∧ Drew w2 wr) (fun s _ _ _ => m - (intOf s).toNat)
      case atStart => exact ⟨0, Nat.zero_le _, rfl, by simp, Drew.refl _⟩
      case round =>
        obtain ⟨d, hd, rfl, hall, hdw⟩ := hrel
        have Hall := Lib.hid hall
        clear hall
        clear c0 c1 c2 c3 c4 c5
        replace hc2 := (hdw.cell _).trans hc2
        have ew := Ext.ofDrew hdw
        obtain ⟨c0, c1, c2, c3, c4, c5⟩ := HS.out.all ((e1.trans e2).trans ew)
        have et3 := et2.trans ew
        by_cases hlt : d < m
        · have Hno : Hid (doorOpen t d = false → res = false) := fun h => HD.out d (by rw [← Hm.out]; exact hlt) h
          have Hgo : Hid (doorOpen t d = true → ∀ j, j < d + 1 → doorOpen t j = true) := fun h j hj => by
            by_cases e : j = d
            · rw [e]; exact h
            · exact Hall.out j (by omega)
          go_wp2_with fail
          obtain ⟨wo, rfl⟩ : ∃ wo, wo = wr := ⟨_, rfl⟩
          go_loopw [4, 5] (fun s4 s wr => ∃ i : Nat, i ≤ n ∧ s = .int .i64 i ∧ s4 = .bool ((t.take i).any fun r => r.getD d 0 == 1) ∧ Drew wo wr) (fun _ s _ => n - (intOf s).toNat)
          case atStart => exact ⟨0, Nat.zero_le _, rfl, rfl, Drew.refl _⟩
          case round =>
            obtain ⟨i, hi, rfl, rfl, hdi⟩ := hrel
            clear c0 c1 c2 c3 c4 c5
            have ewi := et3.trans (Ext.ofDrew hdi)
            obtain ⟨c0, c1, c2, c3, c4, c5⟩ := HS.out.all (((e1.trans e2).trans ew).trans (Ext.ofDrew hdi))
            by_cases hlti : i < n
            · obtain ⟨b', off', he, a1, n1, k1, hn1, hm1, -, hci, -, hel⟩ := HT.out i hlti
              injection he with he; injection he with he1 he2 _
              subst he1; subst he2
              have hdn : d < n1 := by rw [hn1, Ht3.out i (by rw [← Hn.out]; exact hlti), ← Hm.out]; exact hlt
              obtain ⟨b1, o1', rfl, hx, hc1⟩ := hel d hdn
              replace hci := hci _ ewi
              replace hc1 := hc1 _ ewi
              have HA := Lib.hid (anyTake_succ t (fun r => r.getD d 0 == 1) [] (i := i) (by rw [← Hn.out]; exact hlti))
              generalize (t.take i).any (fun r => r.getD d 0 == 1) = q at *
              clear hel hn1
              generalize (t.getD i []).getD d 0 = x at *
              cases q with
              | true =>
                go_wp2_with fail
                go_roundw
                case rel => exact ⟨i+1, by omega, by go_num, by rw [HA.out]; rfl, hdi⟩
                case measure => simp [intOf]; omega
              | false =>
                cases hxb : x == 1 with
                | true =>
                  have HX : Hid (((t.take (i+1)).any fun r => r.getD d 0 == 1) = true) := by show _ = _; rw [HA.out, hxb]; rfl
                  clear HA
                  go_wp2_with fail
                  go_roundw
                  case rel => exact ⟨i+1, by omega, by go_num, by rw [HX.out], hdi⟩
                  case measure => simp [intOf]; omega
                | false =>
                  have HX : Hid (((t.take (i+1)).any fun r => r.getD d 0 == 1) = false) := by show _ = _; rw [HA.out, hxb]; rfl
                  clear HA
                  go_wp2_with fail
                  go_roundw
                  case rel => exact ⟨i+1, by omega, by go_num, by rw [HX.out], hdi⟩
                  case measure => simp [intOf]; omega
            · have HQ : Hid (((t.take i).any fun r => r.getD d 0 == 1) = doorOpen t d) := by
                show _ = _
                have : t.take i = t := List.take_of_length_le (by have := Hn.out; omega)
                rw [this]; rfl
              generalize (t.take i).any (fun r => r.getD d 0 == 1) = q at *
              cases q with
              | true =>
                have HG := Lib.hid (Hgo.out HQ.out.symm)
                clear HQ
                go_wp2_with fail
                go_roundw
                case rel => exact ⟨d+1, by omega, by go_num, HG.out, hdw.trans hdi⟩
                case measure => simp [intOf]; omega
              | false =>
                have HG := Lib.hid (Hno.out HQ.out.symm)
                clear HQ
                go_wp2_with fail
                go_ret
                exact ⟨.bool false, rfl, congrArg Value.bool HG.out.symm, et3.trans (Ext.ofDrew hdi)⟩
        · have HH : Hid (res = true) := HY.out HMt.out HTt.out (fun j hj => Hall.out j (by have := Hm.out; omega))
          go_wp2_with fail
          go_ret
          exact ⟨.bool true, rfl, congrArg Value.bool HH.out.symm, et3⟩

open Go.ChangeShapes Go.WideShapes Go.ChangeAt Go.RowKit
set_option linter.unusedVariables false

def runBefore (l : List Int) : Nat → Nat
  | 0 => 0
  | i+1 => runAt l i
theorem runBefore_le (l : List Int) (i : Nat) : runBefore l i ≤ i := by
  cases i with
  | zero => exact Nat.le_refl _
  | succ i => exact (runAt_pos l i).2
theorem farAt_zero (s : Int) (l : List Int) : farAt s l 0 = false := rfl
theorem farAt_pos {s : Int} {l : List Int} {i : Nat} (h : 0 < i) : farAt s l i = decide (s < ((l.getD i 0 - l.getD (i-1) 0).natAbs : Int)) := by
  unfold farAt; rw [decide_eq_true h]; rfl
theorem keyFault_len {mk : MK} {l : List Int} (h : (l.length : Int) ≠ mk.c) : keyFault mk l = 1 := by unfold keyFault; rw [if_pos h]
theorem keyFault_cuts {mk : MK} {l : List Int} (h : (l.length : Int) = mk.c) (h2 : cutsOk mk l = false) : keyFault mk l = 2 := by
  unfold keyFault; rw [if_neg (by omega), if_pos h2]
theorem keyFault_far {mk : MK} {l : List Int} (h : (l.length : Int) = mk.c) (h2 : cutsOk mk l = true) (h3 : farTo mk.s l l.length = true) : keyFault mk l = 3 := by
  unfold keyFault; rw [if_neg (by omega), if_neg (by rw [h2]; decide), if_pos h3]
theorem keyFault_run {mk : MK} {l : List Int} (h : (l.length : Int) = mk.c) (h2 : cutsOk mk l = true) (h3 : farTo mk.s l l.length = false) (h4 : mk.m < (mostTo l l.length : Int)) : keyFault mk l = 4 := by
  unfold keyFault; rw [if_neg (by omega), if_neg (by rw [h2]; decide), if_neg (by rw [h3]; decide), if_pos h4]
theorem keyFault_kinds {mk : MK} {l : List Int} (h : (l.length : Int) = mk.c) (h2 : cutsOk mk l = true) (h3 : farTo mk.s l l.length = false) (h4 : ¬ mk.m < (mostTo l l.length : Int)) : keyFault mk l = if (kinds l : Int) < mk.l then 5 else 0 := by
  unfold keyFault; rw [if_neg (by omega), if_neg (by rw [h2]; decide), if_neg (by rw [h3]; decide), if_neg h4]
theorem cuts_in {mk : MK} {l : List Int} (h : cutsOk mk l = true) (i : Nat) (hi : i < l.length) : 0 ≤ l.getD i 0 ∧ l.getD i 0 ≤ mk.d - 1 := by
  unfold cutsOk at h
  obtain ⟨h1, -⟩ := Bool.and_eq_true_iff.1 h
  have := (List.all_eq_true.1 h1) _ (List.getElem_mem hi)
  have e : l.getD i 0 = l[i] := by simp [hi]
  rw [e]; exact inB_iff.1 this

set_option maxRecDepth 20000 in
set_option maxHeartbeats 1000000 in
theorem l02Fault_c (w : World) (mk : MK) (hd8 : 2 ≤ mk.d ∧ mk.d ≤ 8) (v : Value) (z : Zone) (xs : List Int) (h : IntsR z w v xs) :
    Calls Tryz.prog 179 #[mk.v, v] w (Ret w fun r _ => r = .int .i64 (keyFault mk xs)) := by
  have hcut := fun (w' : World) (he : Ext w w') => l02Cuts_c w' mk hd8 v z xs (stable_ints.ext h he)
  have hkin := fun (w' : World) (he : Ext w w') => l02Kinds_c w' v z xs (stable_ints.ext h he)
  have HC := Lib.hid hcut
  have HK := Lib.hid hkin
  clear hcut hkin
  have H1 : Hid ((xs.length : Int) ≠ mk.c → keyFault mk xs = 1) := keyFault_len
  have H2 : Hid ((xs.length : Int) = mk.c → cutsOk mk xs = false → keyFault mk xs = 2) := keyFault_cuts
  have H3 : Hid ((xs.length : Int) = mk.c → cutsOk mk xs = true → farTo mk.s xs xs.length = true → keyFault mk xs = 3) := keyFault_far
  have H4 : Hid ((xs.length : Int) = mk.c → cutsOk mk xs = true → farTo mk.s xs xs.length = false → mk.m < (mostTo xs xs.length : Int) → keyFault mk xs = 4) := keyFault_run
  have H5 : Hid ((xs.length : Int) = mk.c → cutsOk mk xs = true → farTo mk.s xs xs.length = false → ¬ mk.m < (mostTo xs xs.length : Int) → keyFault mk xs = if (kinds xs : Int) < mk.l then 5 else 0) := keyFault_kinds
  have H6 : Hid (cutsOk mk xs = true → ∀ i, i < xs.length → 0 ≤ xs.getD i 0 ∧ xs.getD i 0 ≤ mk.d - 1) := cuts_in
  generalize keyFault mk xs = kf at *
  generalize hq : cutsOk mk xs = q at *
  clear hq
  obtain ⟨c, d, s, m, l⟩ := mk
  unfold MK.v at *
  simp only at hd8 HC H1 H2 H3 H4 H5 H6 ⊢
  obtain ⟨a, n, cap, rfl, hn, hmax, -, -, -, hel⟩ := IntsR.shape h
  clear h
  have Hn := Lib.hid hn
  have Hel := Lib.hid hel
  clear hn hel
  go_enter Tryz.func179, Tryz.ntmps179
  by_cases hlc : (n : Int) = c
  · have hb : ((n : Int) != c) = false := by simpa using hlc
    have Hlc : Hid ((xs.length : Int) = c) := by show _ = _; rw [← Hn.out]; exact hlc
    clear hlc
    go_wp2_with fail
    generalize hw0 : World.alloc _ _ = w0
    have e0 : Ext w w0 := by rw [← hw0]; exact Ext.alloc _ _
    have c2 : w0.cell? ⟨w.heap.size, 2, none⟩ = some (.int .i64 s) := by rw [← hw0]; clear hw0; go_simp
    have c3 : w0.cell? ⟨w.heap.size, 3, none⟩ = some (.int .i64 m) := by rw [← hw0]; clear hw0; go_simp
    have c4 : w0.cell? ⟨w.heap.size, 4, none⟩ = some (.int .i64 l) := by rw [← hw0]; clear hw0; go_simp
    clear hw0
    refine Calls.mono (HC.out w0 e0) ?_
    rintro e w1 hr
    obtain ⟨r, rfl, rfl, e1⟩ := ret_ext hr
    clear hr
    replace c2 := e1.cell c2
    replace c3 := e1.cell c3
    replace c4 := e1.cell c4
    cases q with
    | false =>
      have HH := Lib.hid (H2.out Hlc.out rfl)
      go_wp2_with fail
      go_ret
      exact ⟨.int .i64 2, rfl, congrArg (Value.int .i64) HH.out.symm, e0.trans e1⟩
    | true =>
      have et := e0.trans e1
      have H6' := Lib.hid (H6.out rfl)
      clear H6
      go_wp2_with fail
      go_loopw [5, 6, 7] (fun s5 s6 s7 wr => ∃ i : Nat, i ≤ n ∧ s7 = .int .i64 i ∧ s5 = .int .i64 (runBefore xs i) ∧ s6 = .int .i64 (mostTo xs i) ∧ farTo s xs i = false ∧ Drew w1 wr) (fun _ _ s7 _ => n - (intOf s7).toNat)
      case atStart => exact ⟨0, Nat.zero_le _, rfl, rfl, rfl, rfl, Drew.refl _⟩
      case round =>
        obtain ⟨i, hi, rfl, rfl, rfl, hfar, hd⟩ := hrel
        have Hfar := Lib.hid hfar
        clear hfar
        have c2' := (hd.cell _).trans c2
        have c3' := (hd.cell _).trans c3
        have c4' := (hd.cell _).trans c4
        have hm1 := mostTo_le xs i
        have hr1 := runBefore_le xs i
        by_cases hlt : i < n
        · obtain ⟨b, off, rfl, hc, hx, hprev⟩ := Hel.out i hlt
          replace hc := (et.cell hc)
          replace hc := (hd.cell _).trans hc
          have hxin := H6'.out i (by have := Hn.out; omega)
          by_cases hi0 : i = 0
          · subst hi0
            have HM : Hid (mostTo xs 1 = 1) := rfl
            have HR : Hid (runBefore xs 1 = 1) := rfl
            have HF : Hid (farTo s xs 1 = false) := by show _ = _; rw [farTo_succ, Hfar.out, farAt_zero]; rfl
            have hz : mostTo xs 0 = 0 := rfl
            have hz2 : runBefore xs 0 = 0 := rfl
            rw [hz, hz2]
            clear hprev hz hz2 hm1 hr1
            generalize xs.getD 0 0 = x at *
            go_wp2_with fail
            go_quiet (fail)
            go_wp2_with fail
            go_quiet (fail)
            go_wp2_with fail
            go_roundw
            case rel => exact ⟨1, by omega, by go_num, by rw [HR.out]; go_num, by rw [HM.out]; go_num, HF.out, hd.drewN _⟩
            case measure => simp [intOf]; omega
          · obtain ⟨hc', hx'⟩ := hprev (by omega)
            replace hc' := (hd.cell _).trans (et.cell hc')
            have hyin := H6'.out (i-1) (by have := Hn.out; omega)
            have HFS : Hid (farTo s xs (i+1) = farAt s xs i) := by show _ = _; rw [farTo_succ, Hfar.out]; rfl
            have HFA := Lib.hid (farAt_pos (s := s) (l := xs) (show 0 < i by omega))
            have HB : Hid (runBefore xs i = runAt xs (i-1)) := by show _ = _; obtain ⟨j, rfl⟩ : ∃ j, i = j + 1 := ⟨i-1, by omega⟩; rfl
            have HRA : Hid (runAt xs i = if xs.getD i 0 = xs.getD (i-1) 0 then runAt xs (i-1) + 1 else 1) := by show _ = _; obtain ⟨j, rfl⟩ : ∃ j, i = j + 1 := ⟨i-1, by omega⟩; rfl
            have HR : Hid (runBefore xs (i+1) = runAt xs i) := rfl
            have HM := Lib.hid (mostTo_succ xs i)
            have hwi : IntKind.i64.wrap ((i : Int) - 1) = ((i - 1 : Nat) : Int) := by rw [IntWalk.i64_in _ (by omega)]; omega
            have hgt : decide (0 < i) = true := decide_eq_true (by omega)
            have HT : Hid (farAt s xs i = true → farTo s xs xs.length = true) := fun hf => farTo_yes (by have := Hn.out; omega) hf
            clear hprev hx hx'
            generalize xs.getD i 0 = x at *
            generalize xs.getD (i-1) 0 = y at *
            have hwxy : IntKind.i64.wrap (x - y) = x - y := IntWalk.i64_in _ (by omega)
            by_cases hfa : s < ((x - y).natAbs : Int)
            · have HH := Lib.hid (H3.out Hlc.out (by trivial) (HT.out (by rw [HFA.out]; exact decide_eq_true hfa)))
              go_wp2_with fail
              go_quiet ((go_at_call 172; exact RetQ.quiet (l01Abs_c _ _ (by omega) (by omega))))
              go_wp2_with fail
              go_ret
              exact ⟨.int .i64 3, rfl, congrArg (Value.int .i64) HH.out.symm, et.trans (Ext.ofDrew (hd.drewN _))⟩
            · have HF : Hid (farTo s xs (i+1) = false) := by show _ = _; rw [HFS.out, HFA.out]; exact decide_eq_false hfa
              clear HFS HFA HT
              by_cases hxy : x = y
              · have hbq : (x != y) = false := by simpa using hxy
                have HRR : Hid (runAt xs i = runAt xs (i-1) + 1) := by show _ = _; rw [HRA.out, if_pos hxy]
                rw [HB.out] at hr1 ⊢
                clear HRA HB hxy
                generalize runAt xs (i-1) = r at *
                generalize mostTo xs i = mm at *
                go_wp2_with fail
                go_quiet ((go_at_call 172; exact RetQ.quiet (l01Abs_c _ _ (by omega) (by omega))))
                go_wp2_with fail
                go_quiet (fail)
                go_wp2_with fail
                go_roundw
                case rel => exact ⟨i+1, by omega, by go_num, by rw [HR.out, HRR.out]; go_num, by rw [HM.out, HRR.out]; go_num, HF.out, hd.drewN _⟩
                case measure => simp [intOf]; omega
              · have hbq : (x != y) = true := by simpa using hxy
                have HRR : Hid (runAt xs i = 1) := by show _ = _; rw [HRA.out, if_neg hxy]
                clear HRA HB hxy
                generalize runBefore xs i = r at *
                generalize mostTo xs i = mm at *
                go_wp2_with fail
                go_quiet ((go_at_call 172; exact RetQ.quiet (l01Abs_c _ _ (by omega) (by omega))))
                go_wp2_with fail
                go_quiet (fail)
                go_wp2_with fail
                go_roundw
                case rel => exact ⟨i+1, by omega, by go_num, by rw [HR.out, HRR.out]; go_num, by rw [HM.out, HRR.out]; go_num, HF.out, hd.drewN _⟩
                case measure => simp [intOf]; omega
        · have hin : i = n := by omega
          have HL : Hid (i = xs.length) := by show _ = _; rw [← Hn.out]; exact hin
          have HF := Lib.hid Hfar.out
          have H4' : Hid (m < (mostTo xs i : Int) → kf = 4) := fun h => H4.out Hlc.out (by trivial) (by rw [← HL.out]; exact HF.out) (by rw [← HL.out]; exact h)
          have H5' : Hid (¬ m < (mostTo xs i : Int) → kf = if (kinds xs : Int) < l then 5 else 0) := fun h => H5.out Hlc.out (by trivial) (by rw [← HL.out]; exact HF.out) (by have := HL.out; subst this; omega)
          have HKq := Lib.hid (fun (w' : World) (he : Ext w w') => HK.out w' he)
          clear H4 H5 HK Hfar hr1
          generalize mostTo xs i = mm at *
          generalize kinds xs = kk at *
          by_cases hmm : m < (mm : Int)
          · have HH := Lib.hid (H4'.out hmm)
            go_wp2_with fail
            go_ret
            exact ⟨.int .i64 4, rfl, congrArg (Value.int .i64) HH.out.symm, et.trans (Ext.ofDrew hd)⟩
          · have HH := Lib.hid (H5'.out hmm)
            by_cases hkk : (kk : Int) < l
            · have HH2 : Hid (kf = 5) := by show _ = _; rw [HH.out, if_pos hkk]
              go_wp2_with fail
              go_quiet ((go_at_call 149; exact RetQ.quiet (HKq.out _ (et.trans (Ext.ofDrew (hd.drewN _))))))
              go_wp2_with fail
              go_ret
              exact ⟨.int .i64 5, rfl, congrArg (Value.int .i64) HH2.out.symm, et.trans (Ext.ofDrew (hd.drewN _))⟩
            · have HH2 : Hid (kf = 0) := by show _ = _; rw [HH.out, if_neg hkk]
              go_wp2_with fail
              go_quiet ((go_at_call 149; exact RetQ.quiet (HKq.out _ (et.trans (Ext.ofDrew (hd.drewN _))))))
              go_wp2_with fail
              go_ret
              exact ⟨.int .i64 0, rfl, congrArg (Value.int .i64) HH2.out.symm, et.trans (Ext.ofDrew (hd.drewN _))⟩
  · have hb : ((n : Int) != c) = true := by simpa using hlc
    have HH := Lib.hid (H1.out (by rw [← Hn.out]; exact hlc))
    clear hlc
    go_wp2_with fail
    go_ret
    exact ⟨.int .i64 1, rfl, congrArg (Value.int .i64) HH.out.symm, Ext.alloc _ _⟩

open Go.ChangeShapes Go.WideShapes Go.ChangeAt Go.RowKit
set_option linter.unusedVariables false

set_option maxRecDepth 20000 in
set_option maxHeartbeats 1000000 in
theorem areCuts_c (w : World) (mk : MK) (hd8 : 2 ≤ mk.d ∧ mk.d ≤ 8) (v : Value) (z : Zone) (xs : List Int) (h : IntsR z w v xs) :
    Calls Tryz.prog 184 #[mk.v, v] w (Ret w fun r _ => r = .bool (cutsOk mk xs)) := by
  obtain ⟨c, d, s, m, l⟩ := mk
  unfold MK.v cutsOk
  simp only at hd8 ⊢
  have h' := stable_ints.ext h (Ext.alloc w (.cells #[.int .i64 c, .int .i64 d, .int .i64 s, .int .i64 m, .int .i64 l] 25))
  have hcall := allWithin_c _ _ _ xs 0 (d - 1) h'
  obtain ⟨a, n, cap, rfl, hn, hmax, -⟩ := IntsR.shape h'
  clear h h'
  have Hn := Lib.hid hn
  clear hn
  have e0 : Ext w (w.alloc (.cells #[.int .i64 c, .int .i64 d, .int .i64 s, .int .i64 m, .int .i64 l] 25)) := Ext.alloc _ _
  have c0 : (w.alloc (.cells #[.int .i64 c, .int .i64 d, .int .i64 s, .int .i64 m, .int .i64 l] 25)).cell? ⟨w.heap.size, 0, none⟩ = some (.int .i64 c) := by go_simp
  have c1 : (w.alloc (.cells #[.int .i64 c, .int .i64 d, .int .i64 s, .int .i64 m, .int .i64 l] 25)).cell? ⟨w.heap.size, 1, none⟩ = some (.int .i64 d) := by go_simp
  by_cases hc : (n : Int) = c
  · have HE : Hid (decide ((xs.length : Int) = c) = true) := by show _ = _; rw [← Hn.out]; exact decide_eq_true hc
    have hb : ((n : Int) == c) = true := beq_iff_eq.2 hc
    generalize hq : allB xs 0 (d - 1) = q at *
    clear hc hq
    go_enter Tryz.func184, Tryz.ntmps184
    go_wp2_with fail
    refine Calls.mono hcall ?_
    rintro e w2 hr
    obtain ⟨rfl, -, e2⟩ := retq_ext hr
    clear hr hcall
    go_wp2_with fail
    go_ret
    exact ⟨.bool q, rfl, congrArg Value.bool (by rw [HE.out, Bool.and_true]), e0.trans e2⟩
  · have HE : Hid (decide ((xs.length : Int) = c) = false) := by show _ = _; rw [← Hn.out]; exact decide_eq_false hc
    have hb : ((n : Int) == c) = false := beq_eq_false_iff_ne.2 hc
    clear hc hcall
    go_enter Tryz.func184, Tryz.ntmps184
    go_wp2_with fail
    go_ret
    exact ⟨.bool false, rfl, congrArg Value.bool (by rw [HE.out, Bool.and_false]), e0⟩

open Go.ChangeShapes Go.WideShapes Go.ChangeAt Go.RowKit
set_option linter.unusedVariables false

/-- a list that is not empty -/
theorem sameRun_c (w : World) (v : Value) (z : Zone) (xs : List Int) (h : IntsR z w v xs) (hp : 1 ≤ xs.length) :
    Calls Tryz.prog 162 #[v] w (RetQ w (.int .i64 (runAt xs (xs.length - 1)))) := by
  have HI : Hid (∀ r, 1 ≤ r → r ≤ xs.length → (∀ j, j < r → xs.getD (xs.length - 1 - j) 0 = xs.getD (xs.length - 1) 0) → (r = xs.length ∨ xs.getD (xs.length - 1 - r) 0 ≠ xs.getD (xs.length - 1) 0) → runAt xs (xs.length - 1) = r) := fun r h1 h2 h3 h4 => runAt_is xs _ r h1 (by omega) h3 (by rcases h4 with k | k; exact .inl (by omega); exact .inr k)
  generalize runAt xs (xs.length - 1) = res at *
  obtain ⟨a, n, cap, rfl, hn, hmax, -, -, -, hel⟩ := IntsR.shape h
  rw [← hn] at hp
  clear h
  obtain ⟨b, off, rfl, hc0, -, -⟩ := hel (n-1) (by omega)
  have Hn := Lib.hid hn
  have Hel := Lib.hid hel
  clear hn hel
  have hwn : IntKind.i64.wrap ((n : Int) - 1) = ((n - 1 : Nat) : Int) := by rw [IntWalk.i64_in _ (by omega)]; omega
  go_enter Tryz.func162, Tryz.ntmps162
  go_wp2_with fail
  go_loopw [3] (fun s3 wr => ∃ r : Nat, 1 ≤ r ∧ r ≤ n ∧ s3 = .int .i64 r ∧ (∀ j, j < r → xs.getD (n - 1 - j) 0 = xs.getD (n - 1) 0) ∧ Drew w wr) (fun s3 _ => n - (intOf s3).toNat)
  case atStart => exact ⟨1, Nat.le_refl _, hp, rfl, fun j hj => by obtain rfl : j = 0 := by omega
                                                                   rfl, Drew.refl _⟩
  case round =>
    obtain ⟨r, hr1, hr2, rfl, hall, hd⟩ := hrel
    have Hall := Lib.hid hall
    clear hall
    by_cases hlt : r < n
    · obtain ⟨_, _, he, hc, -, -⟩ := Hel.out (n - 1 - r) (by omega)
      injection he with he; injection he with he1 he2 _
      subst he1; subst he2
      replace hc := (hd.cell _).trans hc
      have hc0' := (hd.cell _).trans hc0
      have hwr : IntKind.i64.wrap (((n - 1 : Nat) : Int) - (r : Int)) = ((n - 1 - r : Nat) : Int) := by rw [IntWalk.i64_in _ (by omega)]; omega
      have Hgo : Hid (xs.getD (n - 1 - r) 0 = xs.getD (n - 1) 0 → ∀ j, j < r + 1 → xs.getD (n - 1 - j) 0 = xs.getD (n - 1) 0) := fun h j hj => by
        by_cases e : j = r
        · rw [e]; exact h
        · exact Hall.out j (by omega)
      have Hno : Hid (xs.getD (n - 1 - r) 0 ≠ xs.getD (n - 1) 0 → res = r) := fun h => by
        have := Hn.out; subst this
        exact HI.out r hr1 (by omega) Hall.out (.inr h)
      have hg : decide (r < n) = true := decide_eq_true hlt
      generalize xs.getD (n - 1 - r) 0 = x at *
      generalize xs.getD (n - 1) 0 = y at *
      by_cases hxy : x = y
      · have HG := Lib.hid (Hgo.out hxy)
        have hb : (x == y) = true := by simpa using hxy
        clear Hgo Hno hxy
        go_wp2_with fail
        go_quiet (fail)
        go_wp2_with fail
        go_roundw
        case rel => exact ⟨r + 1, by omega, by omega, by go_num, HG.out, hd.drewN _⟩
        case measure => simp [intOf]; omega
      · have HN := Lib.hid (Hno.out hxy)
        have hb : (x == y) = false := by simpa using hxy
        clear Hgo Hno hxy
        go_wp2_with fail
        go_quiet (fail)
        go_wp2_with fail
        go_ret
        exact ⟨ret_int (congrArg (fun q : Nat => (q : Int)) HN.out.symm), hd.drewN _⟩
    · have HN : Hid (res = r) := by
        show _ = _
        have := Hn.out; subst this
        exact HI.out r hr1 (by omega) Hall.out (.inl (by omega))
      have hg : decide (r < n) = false := decide_eq_false hlt
      go_wp2_with fail
      go_quiet (fail)
      go_wp2_with fail
      go_ret
      exact ⟨ret_int (congrArg (fun q : Nat => (q : Int)) HN.out.symm), hd.drewN _⟩

set_option maxRecDepth 20000 in
set_option maxHeartbeats 1000000 in
theorem keyFault_c (w : World) (mk : MK) (hd8 : 2 ≤ mk.d ∧ mk.d ≤ 8) (hm0 : 0 ≤ mk.m) (v : Value) (z : Zone) (xs : List Int) (h : IntsR z w v xs) :
    Calls Tryz.prog 174 #[mk.v, v] w (Ret w fun r _ => r = .int .i64 (keyFault mk xs)) := by
  have HC := Lib.hid (fun (w' : World) (he : Ext w w') => areCuts_c w' mk hd8 v z xs (stable_ints.ext h he))
  have HK := Lib.hid (fun (w' : World) (he : Ext w w') => different_c w' v z xs (stable_ints.ext h he))
  have hfront := fun (w' : World) (he : Ext w w') => stable_ints.ext h he
  have H1 : Hid ((xs.length : Int) ≠ mk.c → keyFault mk xs = 1) := keyFault_len
  have H2 : Hid ((xs.length : Int) = mk.c → cutsOk mk xs = false → keyFault mk xs = 2) := keyFault_cuts
  have H3 : Hid ((xs.length : Int) = mk.c → cutsOk mk xs = true → farTo mk.s xs xs.length = true → keyFault mk xs = 3) := keyFault_far
  have H4 : Hid ((xs.length : Int) = mk.c → cutsOk mk xs = true → farTo mk.s xs xs.length = false → mk.m < (mostTo xs xs.length : Int) → keyFault mk xs = 4) := keyFault_run
  have H5 : Hid ((xs.length : Int) = mk.c → cutsOk mk xs = true → farTo mk.s xs xs.length = false → ¬ mk.m < (mostTo xs xs.length : Int) → keyFault mk xs = if (kinds xs : Int) < mk.l then 5 else 0) := keyFault_kinds
  have H6 : Hid (cutsOk mk xs = true → ∀ i, i < xs.length → 0 ≤ xs.getD i 0 ∧ xs.getD i 0 ≤ mk.d - 1) := cuts_in
  generalize keyFault mk xs = kf at *
  generalize hq : cutsOk mk xs = q at *
  clear hq
  obtain ⟨c, d, s, m, l⟩ := mk
  unfold MK.v at *
  simp only at hd8 hm0 HC H1 H2 H3 H4 H5 H6 ⊢
  obtain ⟨a, n, cap, rfl, hn, hmax, hcap, -, -, hel⟩ := IntsR.shape h
  have HS := Lib.hid (fun (w' : World) (he : Ext w w') (k : Nat) (hk : k ≤ n) => SliceR.front (hfront w' he) k hk)
  clear h hfront
  have Hn := Lib.hid hn
  have Hel := Lib.hid hel
  clear hn hel
  go_enter Tryz.func174, Tryz.ntmps174
  by_cases hlc : (n : Int) = c
  · have hb : ((n : Int) != c) = false := by simpa using hlc
    have Hlc : Hid ((xs.length : Int) = c) := by show _ = _; rw [← Hn.out]; exact hlc
    clear hlc
    go_wp2_with fail
    generalize hw0 : World.alloc _ _ = w0
    have e0 : Ext w w0 := by rw [← hw0]; exact Ext.alloc _ _
    have c2 : w0.cell? ⟨w.heap.size, 2, none⟩ = some (.int .i64 s) := by rw [← hw0]; clear hw0; go_simp
    have c3 : w0.cell? ⟨w.heap.size, 3, none⟩ = some (.int .i64 m) := by rw [← hw0]; clear hw0; go_simp
    have c4 : w0.cell? ⟨w.heap.size, 4, none⟩ = some (.int .i64 l) := by rw [← hw0]; clear hw0; go_simp
    clear hw0
    refine Calls.mono (HC.out w0 e0) ?_
    rintro e w1 hr
    obtain ⟨r, rfl, rfl, e1⟩ := ret_ext hr
    clear hr
    replace c2 := e1.cell c2
    replace c3 := e1.cell c3
    replace c4 := e1.cell c4
    cases q with
    | false =>
      have HH := Lib.hid (H2.out Hlc.out rfl)
      go_wp2_with fail
      go_ret
      exact ⟨.int .i64 2, rfl, congrArg (Value.int .i64) HH.out.symm, e0.trans e1⟩
    | true =>
      have et := e0.trans e1
      have H6' := Lib.hid (H6.out rfl)
      clear H6
      go_wp2_with fail
      go_loopw [5] (fun s5 wr => ∃ i : Nat, 1 ≤ i ∧ s5 = .int .i64 i ∧ (i ≤ n ∨ i = 1) ∧ farTo s xs i = false ∧ Drew w1 wr) (fun s5 _ => n + 1 - (intOf s5).toNat)
      case atStart => exact ⟨1, Nat.le_refl _, rfl, .inr rfl, by rw [farTo_succ, farAt_zero]; rfl, Drew.refl _⟩
      case round =>
        obtain ⟨i, hi1, rfl, hi, hfar, hd⟩ := hrel
        have Hfar := Lib.hid hfar
        clear hfar
        have c2' := (hd.cell _).trans c2
        have c3' := (hd.cell _).trans c3
        have c4' := (hd.cell _).trans c4
        by_cases hlt : i < n
        · obtain ⟨b, off, rfl, hc, hx, hprev⟩ := Hel.out i hlt
          replace hc := (et.cell hc)
          replace hc := (hd.cell _).trans hc
          have hxin := H6'.out i (by have := Hn.out; omega)
          obtain ⟨hc', hx'⟩ := hprev (by omega)
          replace hc' := (hd.cell _).trans (et.cell hc')
          have hyin := H6'.out (i-1) (by have := Hn.out; omega)
          have HFS : Hid (farTo s xs (i+1) = farAt s xs i) := by show _ = _; rw [farTo_succ, Hfar.out]; rfl
          have HFA := Lib.hid (farAt_pos (s := s) (l := xs) (show 0 < i by omega))
          have hwi : IntKind.i64.wrap ((i : Int) - 1) = ((i - 1 : Nat) : Int) := by rw [IntWalk.i64_in _ (by omega)]; omega
          have HT : Hid (farAt s xs i = true → farTo s xs xs.length = true) := fun hf => farTo_yes (by have := Hn.out; omega) hf
          clear hprev hx hx'
          generalize xs.getD i 0 = x at *
          generalize xs.getD (i-1) 0 = y at *
          have hwxy : IntKind.i64.wrap (x - y) = x - y := IntWalk.i64_in _ (by omega)
          by_cases hfa : s < ((x - y).natAbs : Int)
          · have HH := Lib.hid (H3.out Hlc.out (by trivial) (HT.out (by rw [HFA.out]; exact decide_eq_true hfa)))
            go_wp2_with fail
            go_quiet ((go_at_call 161; exact RetQ.quiet (absolute_c _ _ (by omega) (by omega))))
            go_wp2_with fail
            go_ret
            exact ⟨.int .i64 3, rfl, congrArg (Value.int .i64) HH.out.symm, et.trans (Ext.ofDrew (hd.drewN _))⟩
          · have HF : Hid (farTo s xs (i+1) = false) := by show _ = _; rw [HFS.out, HFA.out]; exact decide_eq_false hfa
            clear HFS HFA HT
            go_wp2_with fail
            go_quiet ((go_at_call 161; exact RetQ.quiet (absolute_c _ _ (by omega) (by omega))))
            go_wp2_with fail
            go_roundw
            case rel => exact ⟨i+1, by omega, by go_num, .inl (by omega), HF.out, hd.drewN _⟩
            case measure => simp [intOf]; omega
        · have HF : Hid (farTo s xs xs.length = false) := by
            show _ = _
            rw [← Hn.out]
            rcases Nat.lt_or_ge n 1 with h0 | h0
            · obtain rfl : n = 0 := by omega
              rfl
            · obtain rfl : i = n := by omega
              exact Hfar.out
          clear Hfar
          go_wp2_with fail
          obtain ⟨wo, rfl⟩ : ∃ wo, wo = wr := ⟨_, rfl⟩
          have eo := et.trans (Ext.ofDrew hd)
          clear hlt hi hi1 hd c2 c3 c4
          have H4' := Lib.hid (H4.out Hlc.out (by trivial) HF.out)
          have H5' := Lib.hid (H5.out Hlc.out (by trivial) HF.out)
          clear H4 H5
          go_loopw [6, 38] (fun _ s6 wr => ∃ i : Nat, i ≤ n ∧ s6 = .int .i64 i ∧ (∀ j, j < i → (runAt xs j : Int) ≤ m) ∧ Drew wo wr) (fun _ s6 _ => n - (intOf s6).toNat)
          case atStart => exact ⟨0, Nat.zero_le _, rfl, by simp, Drew.refl _⟩
          case round =>
            obtain ⟨i, hi, rfl, hall, hd⟩ := hrel
            have Hall := Lib.hid hall
            clear hall
            have c3 := (hd.cell _).trans c3'
            have c4 := (hd.cell _).trans c4'
            by_cases hlt : i < n
            · obtain ⟨b, off, rfl, -, -, -⟩ := Hel.out i hlt
              have HR : Hid (∀ k, Calls Tryz.prog 162 #[.slice (some ⟨b, off, none⟩) (i+1) cap] (wr.drewN k) (RetQ (wr.drewN k) (.int .i64 (runAt xs i)))) := fun k => by
                have hf := HS.out _ (eo.trans (Ext.ofDrew (hd.drewN k))) (i+1) (by omega)
                have hl : (xs.take (i+1)).length = i + 1 := by rw [List.length_take]; have := Hn.out; omega
                have := sameRun_c _ _ _ _ hf (by omega)
                rw [hl, Nat.add_sub_cancel, runAt_take xs i (by omega)] at this
                exact this
              have Hyes : Hid (m < (runAt xs i : Int) → kf = 4) := fun h => H4'.out (by
                have := (mostTo_gt xs (m.toNat) xs.length).2 ⟨i, by have := Hn.out; omega, by omega⟩
                omega)
              have Hgo : Hid (¬ m < (runAt xs i : Int) → ∀ j, j < i + 1 → (runAt xs j : Int) ≤ m) := fun h j hj => by
                by_cases e : j = i
                · rw [e]; omega
                · exact Hall.out j (by omega)
              have hrr := runAt_pos xs i
              have hic : i + 1 ≤ cap := by omega
              generalize runAt xs i = r at *
              by_cases hm : m < (r : Int)
              · have HY := Lib.hid (Hyes.out hm)
                go_wp2_with fail
                go_quiet ((go_at_call 162; exact RetQ.quiet (HR.out _)))
                go_wp2_with fail
                go_ret
                exact ⟨.int .i64 4, rfl, congrArg (Value.int .i64) HY.out.symm, eo.trans (Ext.ofDrew (hd.drewN _))⟩
              · have HG := Lib.hid (Hgo.out hm)
                go_wp2_with fail
                go_quiet ((go_at_call 162; exact RetQ.quiet (HR.out _)))
                go_wp2_with fail
                go_roundw
                case rel => exact ⟨i+1, by omega, by go_num, HG.out, hd.drewN _⟩
                case measure => simp [intOf]; omega
            · have hin : i = n := by omega
              have HM : Hid (¬ m < (mostTo xs xs.length : Int)) := fun h => by
                obtain ⟨j, hj, h2⟩ := (mostTo_gt xs m.toNat xs.length).1 (by omega)
                have := Hall.out j (by have := Hn.out; omega)
                omega
              have HH := Lib.hid (H5'.out (by have := HM.out; omega))
              clear HM H4' H5' Hall
              generalize kinds xs = kk at *
              by_cases hkk : (kk : Int) < l
              · have HH2 : Hid (kf = 5) := by show _ = _; rw [HH.out, if_pos hkk]
                go_wp2_with fail
                go_quiet ((go_at_call 160; exact RetQ.quiet (HK.out _ (eo.trans (Ext.ofDrew (hd.drewN _))))))
                go_wp2_with fail
                go_ret
                exact ⟨.int .i64 5, rfl, congrArg (Value.int .i64) HH2.out.symm, eo.trans (Ext.ofDrew (hd.drewN _))⟩
              · have HH2 : Hid (kf = 0) := by show _ = _; rw [HH.out, if_neg hkk]
                go_wp2_with fail
                go_quiet ((go_at_call 160; exact RetQ.quiet (HK.out _ (eo.trans (Ext.ofDrew (hd.drewN _))))))
                go_wp2_with fail
                go_ret
                exact ⟨.int .i64 0, rfl, congrArg (Value.int .i64) HH2.out.symm, eo.trans (Ext.ofDrew (hd.drewN _))⟩
  · have hb : ((n : Int) != c) = true := by simpa using hlc
    have HH := Lib.hid (H1.out (by rw [← Hn.out]; exact hlc))
    clear hlc
    go_wp2_with fail
    go_ret
    exact ⟨.int .i64 1, rfl, congrArg (Value.int .i64) HH.out.symm, Ext.alloc _ _⟩

set_option maxRecDepth 20000 in
theorem isKey_c (w : World) (mk : MK) (hd8 : 2 ≤ mk.d ∧ mk.d ≤ 8) (hm0 : 0 ≤ mk.m) (v : Value) (z : Zone) (xs : List Int) (h : IntsR z w v xs) :
    Calls Tryz.prog 152 #[mk.v, v] w (Ret w fun r _ => r = .bool (isKeyB mk xs)) := by
  have hcall := fun (w' : World) (he : Ext w w') => keyFault_c w' mk hd8 hm0 v z xs (stable_ints.ext h he)
  unfold isKeyB
  generalize keyFault mk xs = kf at *
  have HC := Lib.hid hcall
  obtain ⟨a, n, cap, rfl, -⟩ := SliceR.shape h
  obtain ⟨c, d, s, m, l⟩ := mk
  unfold MK.v at *
  simp only at HC ⊢
  clear h hcall
  go_enter Tryz.func152, Tryz.ntmps152
  go_wp2_with fail
  generalize hw0 : World.alloc _ _ = w0
  have e0 : Ext w w0 := by rw [← hw0]; exact Ext.alloc _ _
  clear hw0
  refine Calls.mono (HC.out w0 e0) ?_
  rintro e w1 hr
  obtain ⟨r, rfl, rfl, e1⟩ := ret_ext hr
  go_wp2_with fail
  go_ret
  exact ⟨.bool (kf == 0), rfl, congrArg Value.bool (by by_cases e : kf = 0 <;> simp [e]), e0.trans e1⟩

open Go.ChangeShapes Go.WideShapes Go.ChangeAt Go.RowKit
set_option linter.unusedVariables false

set_option maxRecDepth 20000 in
set_option maxHeartbeats 400000 in
theorem IndexFuncRows_c (w : World) (v : Value) (z : Zone) (xs : List (List Int)) (h : SliceR IntsR z w v xs) (F : FuncId) (hF : Goes Tryz.prog F) (caps : Array Value) (p : List Int → Bool)
    (hf : ∀ i (hi : i < xs.length) (w1 : World) (u : Value), Below w.heap.size w w1 → IntsR ⟨z.lo, z.hi, false⟩ w1 u xs[i] → Calls Tryz.prog F (#[u] ++ caps) w1 (Ret w1 fun r _ => r = .bool (p xs[i]))) :
    Calls Tryz.prog 166 #[v, .func (.func F) #[] caps] w (Ret w fun r _ => r = .int .i64 (idxR p xs)) := by
  obtain ⟨a, n, cap, rfl, hn, hmax, hel⟩ := SliceR.elem stable_ints h
  have Hn := Lib.hid hn; clear hn h
  have Hel := Lib.hid hel; clear hel
  have Hf := Lib.hid hf; clear hf
  unfold Goes at hF
  go_enter Tryz.func166, Tryz.ntmps166
  go_wp2
  go_loopw [5, 8] (fun _ t wr => ∃ k : Nat, k ≤ n ∧ t = .int .i64 k ∧ (∀ j (hj : j < xs.length), j < k → p xs[j] = false) ∧ Below w.heap.size w wr) (fun _ t _ => n - (intOf t).toNat)
  case atStart => exact ⟨0, Nat.zero_le _, rfl, by simp, Below.refl _ _⟩
  case round =>
    obtain ⟨k, hk, rfl, hall, hb⟩ := hrel
    have Hall := Lib.hid hall; clear hall
    by_cases hlt : k < n
    · have l1 : k < xs.length := by rw [← Hn.out]; exact hlt
      obtain ⟨b, off, rfl, hb0, u, hc, hu⟩ := Hel.out k l1
      replace hc := (hb.cell hb0).trans hc
      have Hgo : Hid (p xs[k] = false → ∀ j (hj : j < xs.length), j < k + 1 → p xs[j] = false) := fun hp j hj hjk => by
        by_cases e : j = k
        · subst e; exact hp
        · exact Hall.out j hj (by omega)
      have Hyes : Hid (p xs[k] = true → idxR p xs = k) := fun hp => idxR_at p xs k l1 hp Hall.out
      have hcall := Hf.out k l1 wr u hb (stable_ints.below hu hb)
      generalize p xs[k] = y at *
      clear Hall hu
      have hbk : w.heap.size ≤ wr.heap.size := hb.size
      cases y with
      | true =>
        go_wp2_with fail
        refine Calls.mono hcall ?_
        rintro e w2 ⟨r, rfl, rfl, hb2⟩
        clear hcall
        go_wp2_with fail
        go_ret
        exact ⟨_, rfl, congrArg _ (Hyes.out (by simp)).symm, hb.trans (hb2.mono hbk)⟩
      | false =>
        go_wp2_with fail
        refine Calls.mono hcall ?_
        rintro e w2 ⟨r, rfl, rfl, hb2⟩
        clear hcall
        go_wp2_with fail
        go_roundw
        case rel => exact ⟨k + 1, by omega, by go_num, Hgo.out (by simp), hb.trans (hb2.mono hbk)⟩
        case measure => simp [intOf]; omega
    · have hkn : k = n := by omega
      go_wp2
      go_ret
      exact ⟨_, rfl, congrArg _ (idxR_none p xs (fun j hj => Hall.out j hj (by rw [hkn, Hn.out]; exact hj))).symm, hb⟩

theorem ContainsFuncRows_c (w : World) (v : Value) (z : Zone) (xs : List (List Int)) (h : SliceR IntsR z w v xs) (F : FuncId) (hF : Goes Tryz.prog F) (caps : Array Value) (p : List Int → Bool)
    (hf : ∀ i (hi : i < xs.length) (w1 : World) (u : Value), Below w.heap.size w w1 → IntsR ⟨z.lo, z.hi, false⟩ w1 u xs[i] → Calls Tryz.prog F (#[u] ++ caps) w1 (Ret w1 fun r _ => r = .bool (p xs[i]))) :
    Calls Tryz.prog 136 #[v, .func (.func F) #[] caps] w (Ret w fun r _ => r = .bool (xs.any p)) := by
  have hc := IndexFuncRows_c w v z xs h F hF caps p hf
  have H := Lib.hid (idxR_any p xs)
  clear hf h
  generalize idxR p xs = k at *
  go_enter Tryz.func136, Tryz.ntmps136
  go_wp2_with fail
  refine Calls.mono hc ?_
  rintro e w2 ⟨r, rfl, rfl, hb2⟩
  clear hc
  go_wp2_with fail
  go_ret
  exact ⟨_, rfl, congrArg Value.bool H.out, hb2⟩

open Go.ChangeShapes Go.WideShapes Go.ChangeAt Go.RowKit
set_option linter.unusedVariables false

/-- a maker by value lies in block b -/
def MkAt (w : World) (b : Nat) (mk : MK) : Prop := w.cell? ⟨b, 0, none⟩ = some (.int .i64 mk.c) ∧ w.cell? ⟨b, 1, none⟩ = some (.int .i64 mk.d) ∧ w.cell? ⟨b, 2, none⟩ = some (.int .i64 mk.s) ∧ w.cell? ⟨b, 3, none⟩ = some (.int .i64 mk.m) ∧ w.cell? ⟨b, 4, none⟩ = some (.int .i64 mk.l)
theorem mk_box {w w0 : World} {mk : MK} {t : TypeId} (h : w.alloc (.cells #[.int .i64 mk.c, .int .i64 mk.d, .int .i64 mk.s, .int .i64 mk.m, .int .i64 mk.l] t) = w0) : Ext w w0 ∧ MkAt w0 w.heap.size mk := by
  subst h
  exact ⟨Ext.alloc _ _, by simp, by simp, by simp, by simp, by simp⟩
theorem MkAt.ext {w w' : World} {b : Nat} {mk : MK} (h : MkAt w b mk) (e : Ext w w') : MkAt w' b mk := ⟨e.cell h.1, e.cell h.2.1, e.cell h.2.2.1, e.cell h.2.2.2.1, e.cell h.2.2.2.2⟩

theorem Tryz.goesAreKeys1 : Goes Tryz.prog 151 := goes_of Tryz.func151 (by kernel_rfl) (by kernel_rfl)

set_option maxRecDepth 20000 in
theorem areKeys1_c (w : World) (mk : MK) (hd8 : 2 ≤ mk.d ∧ mk.d ≤ 8) (hm0 : 0 ≤ mk.m) (b : Nat) (hM : MkAt w b mk) (v : Value) (z : Zone) (xs : List Int) (h : IntsR z w v xs) :
    Calls Tryz.prog 151 #[v, .pointer (some ⟨b, 0, none⟩)] w (Ret w fun r _ => r = .bool (!isKeyB mk xs)) := by
  have hcall := isKey_c w mk hd8 hm0 v z xs h
  generalize isKeyB mk xs = q at *
  obtain ⟨a, n, cap, rfl, -⟩ := SliceR.shape h
  obtain ⟨c0, c1, c2, c3, c4⟩ := hM
  unfold MK.v at hcall
  clear h
  go_enter Tryz.func151, Tryz.ntmps151
  go_wp2_with fail
  refine Calls.mono hcall ?_
  rintro e w1 hr
  obtain ⟨r, rfl, rfl, e1⟩ := ret_ext hr
  go_wp2_with fail
  go_ret
  exact ⟨.bool (!q), rfl, rfl, e1⟩

set_option maxRecDepth 20000 in
theorem areKeys_c (w : World) (mk : MK) (hd8 : 2 ≤ mk.d ∧ mk.d ≤ 8) (hm0 : 0 ≤ mk.m) (v : Value) (z : Zone) (xss : List (List Int)) (h : RowsR z w v xss) :
    Calls Tryz.prog 116 #[mk.v, v] w (Ret w fun r _ => r = .bool (areKeysB mk xss)) := by
  have HC : Hid (∀ (w0 : World), Ext w w0 → MkAt w0 w.heap.size mk → Calls Tryz.prog 136 #[v, .func (.func 151) #[] #[.pointer (some ⟨w.heap.size, 0, none⟩)]] w0 (Ret w0 fun r _ => r = .bool (!areKeysB mk xss))) := fun w0 e0 hM => by
    have := ContainsFuncRows_c w0 v z xss (stable_rows.ext h e0) _ Tryz.goesAreKeys1 #[.pointer (some ⟨w.heap.size, 0, none⟩)] (fun x => !isKeyB mk x) (fun i hi w1 u hb hu => areKeys1_c w1 mk hd8 hm0 _ (hM.ext hb) u _ _ hu)
    have e : xss.any (fun x => !isKeyB mk x) = !areKeysB mk xss := by
      unfold areKeysB
      rw [List.any_eq_not_all_not]
      simp
    rw [e] at this
    exact this
  generalize areKeysB mk xss = q at *
  obtain ⟨a, n, cap, rfl, -⟩ := SliceR.shape h
  unfold MK.v
  clear h
  go_enter Tryz.func116, Tryz.ntmps116
  go_wp2_with fail
  generalize hw0 : World.alloc _ _ = w0
  obtain ⟨e0, S0⟩ := mk_box hw0
  clear hw0
  have hcall := HC.out w0 e0 S0
  refine Calls.mono hcall ?_
  rintro e w1 hr
  obtain ⟨r, rfl, rfl, e1⟩ := ret_ext hr
  go_wp2_with fail
  go_ret
  exact ⟨.bool q, rfl, rfl, e0.trans e1⟩

set_option maxRecDepth 20000 in
set_option maxHeartbeats 1000000 in
theorem l04Keys_c (w : World) (mk : MK) (hd8 : 2 ≤ mk.d ∧ mk.d ≤ 8) (v : Value) (z : Zone) (xss : List (List Int)) (h : RowsR z w v xss) :
    Calls Tryz.prog 158 #[mk.v, v] w (Ret w fun r _ => r = .bool (areKeysB mk xss && decide (xss.length ≤ 300))) := by
  have HC := Lib.hid (fun (w' : World) (u : Value) (y : Zone) (xs : List Int) (g : IntsR y w' u xs) => l02Fault_c w' mk hd8 u y xs g)
  obtain ⟨a, n, cap, rfl, hn, hmax, -⟩ := SliceR.shape h
  have HT := Lib.hid (fun (k : Nat) (hk : k < n) => rows_at h hk)
  have Hn := Lib.hid hn
  have HB : Hid (∀ k, k < n → isKeyB mk (xss.getD k []) = false → areKeysB mk xss = false) := fun k hk hb => by
    have hk' : k < xss.length := by omega
    unfold areKeysB; rw [List.all_eq_false]
    exact ⟨xss[k], List.getElem_mem hk', by have e : xss.getD k [] = xss[k] := by simp [hk']
                                            rw [e] at hb; rw [hb]; decide⟩
  have HG : Hid ((∀ k, k < n → isKeyB mk (xss.getD k []) = true) → areKeysB mk xss = true) := fun hb => by
    unfold areKeysB; rw [List.all_eq_true]; intro x hx
    obtain ⟨i, hi, rfl⟩ := List.getElem_of_mem hx
    have := hb i (by omega)
    simpa [hi] using this
  generalize areKeysB mk xss = q at *
  clear hn h
  unfold MK.v at *
  go_enter Tryz.func158, Tryz.ntmps158
  go_wp2_with fail
  generalize hw0 : World.alloc _ _ = w0
  obtain ⟨e0, S0⟩ := mk_box hw0
  clear hw0
  have HS := Lib.hid S0
  clear S0
  go_loopw [5] (fun s wr => ∃ k : Nat, k ≤ n ∧ s = .int .i64 k ∧ (∀ j, j < k → isKeyB mk (xss.getD j []) = true) ∧ Ext w0 wr) (fun s _ => n - (intOf s).toNat)
  case atStart => exact ⟨0, Nat.zero_le _, rfl, by simp, Ext.refl _⟩
  case round =>
    obtain ⟨k, hk, rfl, hall, ew⟩ := hrel
    have Hall := Lib.hid hall
    clear hall
    have et := e0.trans ew
    obtain ⟨c0, c1, c2, c3, c4⟩ := HS.out.ext ew
    by_cases hlt : k < n
    · obtain ⟨b, off, rfl, a1, n1, k1, hn1, hm1, -, hc, ⟨y, -, hy⟩, -⟩ := HT.out k hlt
      have HK : Hid (∀ w', Ext wr w' → w'.cell? ⟨w.heap.size, 0, none⟩ = some (.int .i64 mk.c) ∧ w'.cell? ⟨w.heap.size, 1, none⟩ = some (.int .i64 mk.d) ∧ w'.cell? ⟨w.heap.size, 2, none⟩ = some (.int .i64 mk.s) ∧ w'.cell? ⟨w.heap.size, 3, none⟩ = some (.int .i64 mk.m) ∧ w'.cell? ⟨w.heap.size, 4, none⟩ = some (.int .i64 mk.l) ∧ w'.cell? ⟨b, off + k, none⟩ = some (.slice a1 n1 k1)) := fun w' e => ⟨e.cell c0, e.cell c1, e.cell c2, e.cell c3, e.cell c4, hc w' (et.trans e)⟩
      replace hc := hc wr et
      have HC' := Lib.hid (fun (w' : World) (e : Ext w w') => HC.out w' _ y _ (hy w' e))
      have Hno := Lib.hid (HB.out k hlt)
      have Hgo : Hid (isKeyB mk (xss.getD k []) = true → ∀ j, j < k + 1 → isKeyB mk (xss.getD j []) = true) := fun h j hj => by
        by_cases e : j = k
        · rw [e]; exact h
        · exact Hall.out j (by omega)
      unfold isKeyB at *
      clear hy hn1 HB
      generalize keyFault mk (xss.getD k []) = kf at *
      by_cases hf : kf = 0
      · have HH := Lib.hid (Hgo.out (decide_eq_true hf))
        have hb : (kf != 0) = false := by simpa using hf
        clear hf Hno Hgo
        go_wp2_with fail
        go_region_held3 (fun w' => w'.cell? ⟨w.heap.size, 0, none⟩ = some (.int .i64 mk.c) ∧ w'.cell? ⟨w.heap.size, 1, none⟩ = some (.int .i64 mk.d) ∧ w'.cell? ⟨w.heap.size, 2, none⟩ = some (.int .i64 mk.s) ∧ w'.cell? ⟨w.heap.size, 3, none⟩ = some (.int .i64 mk.m) ∧ w'.cell? ⟨w.heap.size, 4, none⟩ = some (.int .i64 mk.l) ∧ w'.cell? ⟨b, off + k, none⟩ = some (.slice a1 n1 k1)) (exact HK.out _ (by repeat (first | exact Ext.refl _ | assumption | (refine Ext.trans ?_ (Ext.alloc _ _)) | (refine Ext.trans ?_ (Ext.drew _)) | (refine Ext.trans ?_ (by assumption))))) (first | (go_at_call 179; (with_reducible refine (HC'.out _ (by repeat (first | exact Ext.refl _ | assumption | (refine Ext.trans ?_ (Ext.alloc _ _)) | (refine Ext.trans ?_ (Ext.drew _)) | (refine Ext.trans ?_ (by assumption))))).mono ?_); rintro e w7 hr7; obtain ⟨r7, rfl, rfl, e7⟩ := ret_ext hr7; clear hr7; have eX := Ext.trans (Ext.drew wr) e7))
        go_wp2_with fail
        go_roundw
        case rel => exact ⟨k+1, by omega, by go_num, HH.out, ew.trans eX⟩
        case measure => simp [intOf]; omega
      · have HH := Lib.hid (Hno.out (decide_eq_false hf))
        have hb : (kf != 0) = true := by simpa using hf
        clear hf Hno Hgo
        go_wp2_with fail
        go_region_held3 (fun w' => w'.cell? ⟨w.heap.size, 0, none⟩ = some (.int .i64 mk.c) ∧ w'.cell? ⟨w.heap.size, 1, none⟩ = some (.int .i64 mk.d) ∧ w'.cell? ⟨w.heap.size, 2, none⟩ = some (.int .i64 mk.s) ∧ w'.cell? ⟨w.heap.size, 3, none⟩ = some (.int .i64 mk.m) ∧ w'.cell? ⟨w.heap.size, 4, none⟩ = some (.int .i64 mk.l) ∧ w'.cell? ⟨b, off + k, none⟩ = some (.slice a1 n1 k1)) (exact HK.out _ (by repeat (first | exact Ext.refl _ | assumption | (refine Ext.trans ?_ (Ext.alloc _ _)) | (refine Ext.trans ?_ (Ext.drew _)) | (refine Ext.trans ?_ (by assumption))))) (first | (go_at_call 179; (with_reducible refine (HC'.out _ (by repeat (first | exact Ext.refl _ | assumption | (refine Ext.trans ?_ (Ext.alloc _ _)) | (refine Ext.trans ?_ (Ext.drew _)) | (refine Ext.trans ?_ (by assumption))))).mono ?_); rintro e w7 hr7; obtain ⟨r7, rfl, rfl, e7⟩ := ret_ext hr7; clear hr7; have eX := Ext.trans (Ext.drew wr) e7))
        go_wp2_with fail
        go_ret
        exact ⟨.bool false, rfl, congrArg Value.bool (by rw [HH.out]; rfl), et.trans eX⟩
    · have hkn : k = n := by omega
      have HQ : Hid (q = true) := HG.out (fun j hj => Hall.out j (by omega))
      go_wp2_with fail
      go_ret
      exact ⟨.bool (decide ((n : Int) ≤ 300)), rfl, congrArg Value.bool (by rw [HQ.out, Bool.true_and]; exact decide_eq_decide.2 (by rw [Hn.out]; omega)), et⟩

/-- the code of a system and its cuts -/
def sysCode (mk : MK) (t cuts : List (List Int)) : Int := if isSystem mk t = false then 1 else if (decide (cuts.length = t.length) && areKeysB mk cuts) = false then 2 else 0
theorem sysCode_no {mk : MK} {t cuts : List (List Int)} (h : isSystem mk t = false) : sysCode mk t cuts = 1 := by unfold sysCode; rw [if_pos h]
theorem sysCode_len {mk : MK} {t cuts : List (List Int)} (h : isSystem mk t = true) (h2 : cuts.length ≠ t.length) : sysCode mk t cuts = 2 := by unfold sysCode; rw [if_neg (by rw [h]; decide), decide_eq_false h2, Bool.false_and, if_pos rfl]
theorem sysCode_key {mk : MK} {t cuts : List (List Int)} (h : isSystem mk t = true) (h2 : cuts.length = t.length) : sysCode mk t cuts = if areKeysB mk cuts = true then 0 else 2 := by
  unfold sysCode; rw [if_neg (by rw [h]; decide), decide_eq_true h2, Bool.true_and]
  cases areKeysB mk cuts <;> rfl
theorem sysMaker {mk : MK} {t : List (List Int)} (h : isSystem mk t = true) : isMaker mk = true := by
  unfold isSystem at h; exact (Bool.and_eq_true_iff.1 h).1

set_option maxRecDepth 20000 in
set_option maxHeartbeats 1000000 in
theorem cutsCode_c (w : World) (mk : MK) (v : Value) (z : Zone) (t : List (List Int)) (h : RowsR z w v t) (u : Value) (y : Zone) (cuts : List (List Int)) (hc : RowsR y w u cuts) :
    Calls Tryz.prog 81 #[sysV mk v, u] w (Ret w fun r _ => r = .int .i64 (sysCode mk t cuts)) := by
  have H1 : Hid (isSystem mk t = false → sysCode mk t cuts = 1) := sysCode_no
  have H2 : Hid (isSystem mk t = true → cuts.length ≠ t.length → sysCode mk t cuts = 2) := sysCode_len
  have H3 : Hid (isSystem mk t = true → cuts.length = t.length → sysCode mk t cuts = if areKeysB mk cuts = true then 0 else 2) := sysCode_key
  have HM : Hid (isSystem mk t = true → (2 ≤ mk.d ∧ mk.d ≤ 8) ∧ 0 ≤ mk.m) := fun h => by
    obtain ⟨-, a, -, b, -⟩ := isMaker_iff.1 (sysMaker h)
    exact ⟨a, by omega⟩
  generalize sysCode mk t cuts = res at *
  have HC1 := Lib.hid (fun (w' : World) (e : Ext w w') => IsSystem_c w' mk v z t (stable_rows.ext h e))
  have HC2 := Lib.hid (fun (w' : World) (e : Ext w w') (h1 : 2 ≤ mk.d ∧ mk.d ≤ 8) (h2 : 0 ≤ mk.m) => areKeys_c w' mk h1 h2 u y cuts (stable_rows.ext hc e))
  generalize isSystem mk t = q at *
  generalize areKeysB mk cuts = qk at *
  obtain ⟨a, n, cap, rfl, hn, hmax, -⟩ := SliceR.shape h
  obtain ⟨a2, n2, cap2, rfl, hn2, hmax2, -⟩ := SliceR.shape hc
  have Hn := Lib.hid hn
  have Hn2 := Lib.hid hn2
  clear hn hn2 h hc
  unfold sysV MK.v at *
  go_enter Tryz.func81, Tryz.ntmps81
  go_wp2_with fail
  generalize hw0 : World.alloc _ _ = w0
  obtain ⟨e0, S0⟩ := sys_box hw0
  clear hw0
  have HS := Lib.hid S0
  clear S0
  refine Calls.mono (HC1.out w0 e0) ?_
  rintro e w1 hr
  obtain ⟨r, rfl, rfl, e1⟩ := ret_ext hr
  clear hr
  have et := e0.trans e1
  obtain ⟨c0, c1, c2, c3, c4, c5⟩ := HS.out.all e1
  cases q with
  | false =>
    have HH := Lib.hid (H1.out rfl)
    go_wp2_with fail
    go_ret
    exact ⟨.int .i64 1, rfl, congrArg (Value.int .i64) HH.out.symm, et⟩
  | true =>
    by_cases hl : n2 = n
    · have hb : ((n2 : Int) != (n : Int)) = false := by rw [hl]; simp
      have HH := Lib.hid (H3.out rfl (by rw [← Hn.out, ← Hn2.out]; exact hl))
      obtain ⟨m1, m2⟩ := HM.out rfl
      have hcall := HC2.out w1 et m1 m2
      clear hl H1 H2 H3
      go_wp2_with fail
      refine Calls.mono hcall ?_
      rintro e w2 hr
      obtain ⟨r, rfl, rfl, e2⟩ := ret_ext hr
      clear hr hcall
      cases qk with
      | true =>
        go_wp2_with fail
        go_ret
        exact ⟨.int .i64 0, rfl, congrArg (Value.int .i64) (by rw [HH.out]; rfl), et.trans e2⟩
      | false =>
        go_wp2_with fail
        go_ret
        exact ⟨.int .i64 2, rfl, congrArg (Value.int .i64) (by rw [HH.out]; rfl), et.trans e2⟩
    · have hb : ((n2 : Int) != (n : Int)) = true := by rw [bne_iff_ne]; omega
      have HH := Lib.hid (H2.out rfl (by rw [← Hn.out, ← Hn2.out]; exact hl))
      clear hl H1 H2 H3
      go_wp2_with fail
      go_ret
      exact ⟨.int .i64 2, rfl, congrArg (Value.int .i64) HH.out.symm, et⟩

set_option maxRecDepth 20000 in
set_option maxHeartbeats 1000000 in
theorem l15Cuts_c (w : World) (mk : MK) (hd8 : 2 ≤ mk.d ∧ mk.d ≤ 8) (v : Value) (z : Zone) (t : List (List Int)) (h : RowsR z w v t) (ht : t.length ≤ 10) (u : Value) (y : Zone) (cuts : List (List Int)) (hc : RowsR y w u cuts) :
    Calls Tryz.prog 126 #[sysV mk v, u] w (Ret w fun r _ => r = .bool (decide (cuts.length = t.length) && areKeysB mk cuts)) := by
  have HC2 := Lib.hid (fun (w' : World) (e : Ext w w') => l04Keys_c w' mk hd8 u y cuts (stable_rows.ext hc e))
  generalize areKeysB mk cuts = qk at *
  obtain ⟨a, n, cap, rfl, hn, hmax, -⟩ := SliceR.shape h
  obtain ⟨a2, n2, cap2, rfl, hn2, hmax2, -⟩ := SliceR.shape hc
  have Hn := Lib.hid hn
  have Hn2 := Lib.hid hn2
  rw [← hn] at ht
  clear hn hn2 h hc
  unfold sysV MK.v at *
  go_enter Tryz.func126, Tryz.ntmps126
  by_cases hl : n2 = n
  · have hb : ((n2 : Int) == (n : Int)) = true := by rw [hl]; simp
    have H1 : Hid (decide (cuts.length = t.length) = true) := by show _ = _; rw [← Hn.out, ← Hn2.out]; exact decide_eq_true hl
    have H2 : Hid (decide (cuts.length ≤ 300) = true) := by show _ = _; rw [← Hn2.out]; exact decide_eq_true (by omega)
    clear hl
    go_wp2_with fail
    generalize hw0 : World.alloc _ _ = w0
    obtain ⟨e0, S0⟩ := sys_box hw0
    clear hw0
    refine Calls.mono (HC2.out w0 e0) ?_
    rintro e w1 hr
    obtain ⟨r, rfl, rfl, e1⟩ := ret_ext hr
    rw [H2.out, Bool.and_true]
    clear hr
    go_wp2_with fail
    go_ret
    exact ⟨.bool qk, rfl, congrArg Value.bool (by rw [H1.out]; rfl), e0.trans e1⟩
  · have hb : ((n2 : Int) == (n : Int)) = false := by rw [beq_eq_false_iff_ne]; omega
    have H1 : Hid (decide (cuts.length = t.length) = false) := by show _ = _; rw [← Hn.out, ← Hn2.out]; exact decide_eq_false hl
    clear hl
    go_wp2_with fail
    go_ret
    exact ⟨.bool false, rfl, congrArg Value.bool (by rw [H1.out]; rfl), Ext.alloc _ _⟩

set_option maxRecDepth 20000 in
set_option maxHeartbeats 1000000 in
theorem l15Code_c (w : World) (mk : MK) (v : Value) (z : Zone) (t : List (List Int)) (h : RowsR z w v t) (u : Value) (y : Zone) (cuts : List (List Int)) (hc : RowsR y w u cuts) :
    Calls Tryz.prog 93 #[sysV mk v, u] w (Ret w fun r _ => r = .int .i64 (sysCode mk t cuts)) := by
  have H1 : Hid (isSystem mk t = false → sysCode mk t cuts = 1) := sysCode_no
  have H2 : Hid (isSystem mk t = true → sysCode mk t cuts = if (decide (cuts.length = t.length) && areKeysB mk cuts) = false then 2 else 0) := fun h => by unfold sysCode; rw [if_neg (by rw [h]; decide)]
  have HM : Hid (isSystem mk t = true → (2 ≤ mk.d ∧ mk.d ≤ 8) ∧ t.length ≤ 10) := fun h => ⟨(sysOk h).mk2, (sysOk h).len.2⟩
  generalize sysCode mk t cuts = res at *
  have HC1 := Lib.hid (fun (w' : World) (e : Ext w w') => IsSystemSpec_c w' mk v z t (stable_rows.ext h e))
  have HC2 := Lib.hid (fun (w' : World) (e : Ext w w') (h1 : 2 ≤ mk.d ∧ mk.d ≤ 8) (h2 : t.length ≤ 10) => l15Cuts_c w' mk h1 v z t (stable_rows.ext h e) h2 u y cuts (stable_rows.ext hc e))
  generalize isSystem mk t = q at *
  generalize (decide (cuts.length = t.length) && areKeysB mk cuts) = qk at *
  obtain ⟨a, n, cap, rfl, -⟩ := SliceR.shape h
  obtain ⟨a2, n2, cap2, rfl, -⟩ := SliceR.shape hc
  clear h hc
  unfold sysV at *
  go_enter Tryz.func93, Tryz.ntmps93
  go_wp2_with fail
  generalize hw0 : World.alloc _ _ = w0
  obtain ⟨e0, S0⟩ := sys_box hw0
  clear hw0
  have HS := Lib.hid S0
  clear S0
  refine Calls.mono (HC1.out w0 e0) ?_
  rintro e w1 hr
  obtain ⟨r, rfl, rfl, e1⟩ := ret_ext hr
  clear hr
  have et := e0.trans e1
  obtain ⟨c0, c1, c2, c3, c4, c5⟩ := HS.out.all e1
  cases q with
  | false =>
    have HH := Lib.hid (H1.out rfl)
    go_wp2_with fail
    go_ret
    exact ⟨.int .i64 1, rfl, congrArg (Value.int .i64) HH.out.symm, et⟩
  | true =>
    have HH := Lib.hid (H2.out rfl)
    obtain ⟨m1, m2⟩ := HM.out rfl
    have hcall := HC2.out w1 et m1 m2
    clear H1 H2
    go_wp2_with fail
    refine Calls.mono hcall ?_
    rintro e w2 hr
    obtain ⟨r, rfl, rfl, e2⟩ := ret_ext hr
    clear hr hcall
    cases qk with
    | true =>
      go_wp2_with fail
      go_ret
      exact ⟨.int .i64 0, rfl, congrArg (Value.int .i64) (by rw [HH.out]; rfl), et.trans e2⟩
    | false =>
      go_wp2_with fail
      go_ret
      exact ⟨.int .i64 2, rfl, congrArg (Value.int .i64) (by rw [HH.out]; rfl), et.trans e2⟩
end Go.Proofs.YthgmojggpjnckaaGreat
