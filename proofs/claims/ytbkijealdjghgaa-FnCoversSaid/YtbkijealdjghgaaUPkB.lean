/- Proved: the first rule that cuts do not keep; what a system, its locks and its false openings are; a system in memory, and the rows that open a door; IsSystem, program and reference; the first rule that cuts do not keep, as the reference tells it; whether a list are cuts of a maker, as the program tells it; the first rule that cuts do not keep, as the program tells it; slices.IndexFunc and ContainsFunc over lists of lists; whether lists are keys of a maker, and the code of a system and its cuts, program and reference. -/
import Derived.Test.YtbkijealdjghgaaChecked
import Derived.Deep.RegionHeld3
import Derived.Test.YtbkijealdjghgaaUPkA
namespace Go.Proofs.Ytbkijealdjghgaa
open Go.ChangeShapes Go.WideShapes Go.ChangeAt Go.RowKit
set_option linter.unusedVariables false

/-- how many cuts that end at place i are equal -/
def runAt (l : List Int) : Nat → Nat
  | 0 => 1
  | i+1 => if l.getD (i+1) 0 = l.getD i 0 then runAt l i + 1 else 1
/-- the longest run among the first k places -/
def mostTo (l : List Int) : Nat → Nat
  | 0 => 0
  | k+1 => max (mostTo l k) (runAt l k)
theorem runAt_pos (l : List Int) : ∀ i, 1 ≤ runAt l i ∧ runAt l i ≤ i + 1
  | 0 => ⟨Nat.le_refl _, Nat.le_refl _⟩
  | i+1 => by
    have := runAt_pos l i
    unfold runAt
    split <;> omega
theorem mostTo_le (l : List Int) : ∀ k, mostTo l k ≤ k
  | 0 => Nat.le_refl _
  | k+1 => by
    have h1 := mostTo_le l k
    have h2 := (runAt_pos l k).2
    show max (mostTo l k) (runAt l k) ≤ k + 1
    omega
theorem mostTo_gt (l : List Int) (s : Nat) : ∀ k, s < mostTo l k ↔ ∃ i, i < k ∧ s < runAt l i
  | 0 => by simp [mostTo]
  | k+1 => by
    have ih := mostTo_gt l s k
    show s < max (mostTo l k) (runAt l k) ↔ _
    constructor
    · intro h
      by_cases e : s < runAt l k
      · exact ⟨k, by omega, e⟩
      · obtain ⟨i, h1, h2⟩ := ih.1 (by omega)
        exact ⟨i, by omega, h2⟩
    · rintro ⟨i, h1, h2⟩
      by_cases e : i = k
      · subst e; omega
      · have := ih.2 ⟨i, by omega, h2⟩
        omega
theorem runAt_same (l : List Int) : ∀ i j, j < runAt l i → l.getD (i - j) 0 = l.getD i 0
  | 0, j, h => by
    have : j = 0 := by simp [runAt] at h; exact h
    subst this; rfl
  | i+1, j, h => by
    unfold runAt at h
    split at h
    · rename_i he
      cases j with
      | zero => rfl
      | succ j =>
        have := runAt_same l i j (by omega)
        rw [Nat.add_sub_add_right, this, he]
    · have : j = 0 := by omega
      subst this; rfl
theorem runAt_stop (l : List Int) : ∀ i, runAt l i = i + 1 ∨ l.getD (i - runAt l i) 0 ≠ l.getD i 0
  | 0 => .inl rfl
  | i+1 => by
    unfold runAt
    split
    · rename_i he
      rcases runAt_stop l i with h | h
      · left; omega
      · right
        rw [Nat.add_sub_add_right, he]; exact h
    · rename_i he
      right; rw [Nat.add_sub_cancel]; exact fun h => he h.symm
theorem runAt_is (l : List Int) (i r : Nat) (h1 : 1 ≤ r) (h2 : r ≤ i + 1) (h3 : ∀ j, j < r → l.getD (i - j) 0 = l.getD i 0) (h4 : r = i + 1 ∨ l.getD (i - r) 0 ≠ l.getD i 0) : runAt l i = r := by
  have k1 := runAt_pos l i
  rcases Nat.lt_trichotomy (runAt l i) r with h | h | h
  · rcases runAt_stop l i with k | k
    · omega
    · exact absurd (h3 _ h) k
  · exact h
  · rcases h4 with k | k
    · omega
    · exact absurd (runAt_same l i r h) k
theorem getD_take {α : Type} (l : List α) (d : α) {k i : Nat} (h : i < k) : (l.take k).getD i d = l.getD i d := by
  rw [List.getD_eq_getElem?_getD, List.getD_eq_getElem?_getD, List.getElem?_take, if_pos h]
theorem runAt_take (l : List Int) {k : Nat} : ∀ i, i < k → runAt (l.take k) i = runAt l i
  | 0, _ => rfl
  | i+1, h => by
    unfold runAt
    rw [getD_take l 0 h, getD_take l 0 (by omega), runAt_take l i (by omega)]
theorem runAt_succ (l : List Int) (i : Nat) : runAt l (i+1) = if l.getD (i+1) 0 = l.getD i 0 then runAt l i + 1 else 1 := rfl
theorem mostTo_succ (l : List Int) (k : Nat) : mostTo l (k+1) = max (mostTo l k) (runAt l k) := rfl
/-- two cuts that lie too far from each other end at place i -/
def farAt (s : Int) (l : List Int) (i : Nat) : Bool := decide (0 < i) && decide (s < ((l.getD i 0 - l.getD (i-1) 0).natAbs : Int))
def farTo (s : Int) (l : List Int) (k : Nat) : Bool := (List.range k).any (farAt s l)
theorem farTo_succ (s : Int) (l : List Int) (k : Nat) : farTo s l (k+1) = (farTo s l k || farAt s l k) := by
  unfold farTo; rw [List.range_succ, List.any_append]; simp
theorem farTo_yes {s : Int} {l : List Int} {i k : Nat} (hi : i < k) (h : farAt s l i = true) : farTo s l k = true := by
  unfold farTo; exact List.any_eq_true.2 ⟨i, List.mem_range.2 hi, h⟩
/-- the number of the first rule that is not kept, or 0 -/
def keyFault (mk : MK) (l : List Int) : Int :=
  if (l.length : Int) ≠ mk.c then 1 else if cutsOk mk l = false then 2 else if farTo mk.s l l.length = true then 3 else if mk.m < (mostTo l l.length : Int) then 4 else if (kinds l : Int) < mk.l then 5 else 0
def isKeyB (mk : MK) (l : List Int) : Bool := decide (keyFault mk l = 0)

open Go.ChangeShapes Go.WideShapes Go.ChangeAt Go.RowKit
set_option linter.unusedVariables false

/-- some row opens door d -/
def doorOpen (t : List (List Int)) (d : Nat) : Bool := t.any fun r => r.getD d 0 == 1
def doorsOf (t : List (List Int)) : Nat := (t.getD 0 []).length
def isSystem (mk : MK) (t : List (List Int)) : Bool := isMaker mk && (isTable t && (List.range (doorsOf t)).all (doorOpen t))
/-- the rows that open door d -/
def rowsAt (t : List (List Int)) (d : Nat) (n : Nat) : List Nat := (List.range n).filter fun k => (t.getD k []).getD d 0 == 1
def rowsI (t : List (List Int)) (d : Nat) (n : Nat) : List Int := (rowsAt t d n).map fun (k : Nat) => (k : Int)
theorem rowsAt_succ (t : List (List Int)) (d n : Nat) : rowsAt t d (n+1) = rowsAt t d n ++ if (t.getD n []).getD d 0 == 1 then [n] else [] := by
  unfold rowsAt; rw [List.range_succ, List.filter_append, List.filter_cons, List.filter_nil]
theorem rowsI_succ (t : List (List Int)) (d n : Nat) : rowsI t d (n+1) = rowsI t d n ++ if (t.getD n []).getD d 0 == 1 then [(n : Int)] else [] := by
  unfold rowsI; rw [rowsAt_succ, List.map_append]; congr 1; split <;> rfl
theorem rowsAt_lt {t : List (List Int)} {d n k : Nat} (h : k ∈ rowsAt t d n) : k < n := by
  unfold rowsAt at h; exact List.mem_range.1 (List.mem_filter.1 h).1
theorem rowsAt_len (t : List (List Int)) (d n : Nat) : (rowsAt t d n).length ≤ n := by
  have := List.length_filter_le (fun k => (t.getD k []).getD d 0 == 1) (List.range n)
  simpa [rowsAt] using this
theorem rowsI_len (t : List (List Int)) (d n : Nat) : (rowsI t d n).length ≤ n := by unfold rowsI; rw [List.length_map]; exact rowsAt_len t d n
theorem rowsI_nil {t : List (List Int)} {d : Nat} : rowsI t d t.length = [] ↔ doorOpen t d = false := by
  unfold rowsI doorOpen
  rw [List.map_eq_nil_iff, List.any_eq_false, rowsAt, List.filter_eq_nil_iff]
  constructor
  · intro h r hr
    obtain ⟨i, hi, rfl⟩ := List.getElem_of_mem hr
    have := h i (List.mem_range.2 hi)
    simpa [hi] using this
  · intro h k hk
    have hk := List.mem_range.1 hk
    have := h t[k] (List.getElem_mem hk)
    simpa [hk] using this
/-- the cuts of the first rows that open door d -/
def keysAt (t cuts : List (List Int)) (d n : Nat) : List (List Int) := (rowsAt t d n).map fun k => cuts.getD k []
theorem keysAt_succ (t cuts : List (List Int)) (d n : Nat) : keysAt t cuts d (n+1) = keysAt t cuts d n ++ if (t.getD n []).getD d 0 == 1 then [cuts.getD n []] else [] := by
  unfold keysAt; rw [rowsAt_succ, List.map_append]; congr 1; split <;> rfl
theorem keysAt_mem {t cuts : List (List Int)} {d n : Nat} {x : List Int} (hn : n ≤ cuts.length) (h : x ∈ keysAt t cuts d n) : x ∈ cuts := by
  unfold keysAt at h
  obtain ⟨k, hk, rfl⟩ := List.mem_map.1 h
  have := rowsAt_lt hk
  have hl : k < cuts.length := by omega
  have : cuts.getD k [] = cuts[k] := by simp [hl]
  rw [this]; exact List.getElem_mem hl
theorem keysAt_len (t cuts : List (List Int)) (d n : Nat) : (keysAt t cuts d n).length ≤ n := by unfold keysAt; rw [List.length_map]; exact rowsAt_len t d n
/-- the depths that some key has in chamber i -/
def setAt (keys : List (List Int)) (i : Nat) (n : Nat) : List Int := ((List.range n).filter fun (x : Nat) => keys.any fun r => r.getD i 0 == (x : Int)).map fun (x : Nat) => (x : Int)
theorem setAt_succ (keys : List (List Int)) (i n : Nat) : setAt keys i (n+1) = setAt keys i n ++ if keys.any (fun r => r.getD i 0 == (n : Int)) = true then [(n : Int)] else [] := by
  unfold setAt; rw [List.range_succ, List.filter_append, List.filter_cons, List.filter_nil, List.map_append]; congr 1; split <;> rfl
theorem setAt_len (keys : List (List Int)) (i n : Nat) : (setAt keys i n).length ≤ n := by
  have := List.length_filter_le (fun (x : Nat) => keys.any fun r => r.getD i 0 == (x : Int)) (List.range n)
  simpa [setAt] using this
theorem setAt_mem {keys : List (List Int)} {i n : Nat} {x : Int} : x ∈ setAt keys i n ↔ (0 ≤ x ∧ x < n) ∧ ∃ r ∈ keys, r.getD i 0 = x := by
  unfold setAt
  rw [List.mem_map]
  constructor
  · rintro ⟨k, hk, rfl⟩
    obtain ⟨h1, h2⟩ := List.mem_filter.1 hk
    obtain ⟨r, hr, he⟩ := List.any_eq_true.1 h2
    have := List.mem_range.1 h1
    exact ⟨by omega, r, hr, by simpa using he⟩
  · rintro ⟨⟨h1, h2⟩, r, hr, he⟩
    refine ⟨x.toNat, List.mem_filter.2 ⟨List.mem_range.2 (by omega), List.any_eq_true.2 ⟨r, hr, ?_⟩⟩, by omega⟩
    rw [he]; simp; omega
theorem setAt_sorted (keys : List (List Int)) (i n : Nat) : (setAt keys i n).Pairwise (· < ·) := by
  unfold setAt
  rw [List.pairwise_map]
  refine List.Pairwise.imp (fun h => by omega) ((List.pairwise_lt_range (n := n)).filter _)
def hullTo (mk : MK) (keys : List (List Int)) (n : Nat) : List (List Int) := (List.range n).map fun i => setAt keys i mk.d.toNat
def hull (mk : MK) (keys : List (List Int)) : List (List Int) := hullTo mk keys mk.c.toNat
theorem hullTo_succ (mk : MK) (keys : List (List Int)) (n : Nat) : hullTo mk keys (n+1) = hullTo mk keys n ++ [setAt keys n mk.d.toNat] := by
  unfold hullTo; rw [List.range_succ, List.map_append]; rfl
theorem hullTo_len (mk : MK) (keys : List (List Int)) (n : Nat) : (hullTo mk keys n).length = n := by simp [hullTo]
/-- the locks of the first n doors -/
def locksTo (mk : MK) (t cuts : List (List Int)) (n : Nat) : List (List (List Int)) := (List.range n).map fun d => hull mk (keysAt t cuts d cuts.length)
def locks (mk : MK) (t cuts : List (List Int)) : List (List (List Int)) := locksTo mk t cuts (doorsOf t)
theorem locksTo_succ (mk : MK) (t cuts : List (List Int)) (n : Nat) : locksTo mk t cuts (n+1) = locksTo mk t cuts n ++ [hull mk (keysAt t cuts n cuts.length)] := by
  unfold locksTo; rw [List.range_succ, List.map_append]; rfl
theorem locksTo_len (mk : MK) (t cuts : List (List Int)) (n : Nat) : (locksTo mk t cuts n).length = n := by simp [locksTo]
/-- cuts open a lock -/
def opensB (l : List (List Int)) (cuts : List Int) : Bool := (List.range cuts.length).all fun i => has (l.getD i []) (cuts.getD i 0)
/-- the cuts of row k open door d, and have no right to -/
def faultAt (mk : MK) (t cuts : List (List Int)) (k d : Nat) : Bool := (t.getD k []).getD d 0 == 0 && opensB ((locks mk t cuts).getD d []) (cuts.getD k [])
def faultRow (mk : MK) (t cuts : List (List Int)) (k n : Nat) : Nat := ((List.range n).filter (faultAt mk t cuts k)).length
def faultsTo (mk : MK) (t cuts : List (List Int)) : Nat → Nat
  | 0 => 0
  | k+1 => faultsTo mk t cuts k + faultRow mk t cuts k (doorsOf t)
/-- how many false openings there are -/
def faults (mk : MK) (t cuts : List (List Int)) : Nat := faultsTo mk t cuts cuts.length
theorem faultRow_succ (mk : MK) (t cuts : List (List Int)) (k n : Nat) : faultRow mk t cuts k (n+1) = faultRow mk t cuts k n + if faultAt mk t cuts k n = true then 1 else 0 := by
  unfold faultRow; rw [List.range_succ, List.filter_append, List.filter_cons, List.filter_nil, List.length_append]; congr 1; split <;> rfl
theorem faultRow_le (mk : MK) (t cuts : List (List Int)) (k n : Nat) : faultRow mk t cuts k n ≤ n := by
  have := List.length_filter_le (faultAt mk t cuts k) (List.range n)
  simpa [faultRow] using this
theorem faultsTo_le (mk : MK) (t cuts : List (List Int)) (n : Nat) : faultsTo mk t cuts n ≤ n * doorsOf t := by
  induction n with
  | zero => exact Nat.zero_le _
  | succ n ih =>
    have := faultRow_le mk t cuts n (doorsOf t)
    show faultsTo mk t cuts n + _ ≤ _
    rw [Nat.succ_mul]; omega
def areKeysB (mk : MK) (cuts : List (List Int)) : Bool := cuts.all (isKeyB mk)
def isDesign (mk : MK) (t cuts : List (List Int)) : Bool := isSystem mk t && ((decide (cuts.length = t.length) && areKeysB mk cuts) && decide (faults mk t cuts = 0))
/-! ### facts of a system -/
structure SysOk (mk : MK) (t : List (List Int)) : Prop where
  mk1 : 2 ≤ mk.c ∧ mk.c ≤ 6
  mk2 : 2 ≤ mk.d ∧ mk.d ≤ 8
  len : 1 ≤ t.length ∧ t.length ≤ 10
  doors : 1 ≤ doorsOf t ∧ doorsOf t ≤ 12
  row : ∀ k, k < t.length → (t.getD k []).length = doorsOf t
  bit : ∀ k d, k < t.length → d < doorsOf t → 0 ≤ (t.getD k []).getD d 0 ∧ (t.getD k []).getD d 0 ≤ 1
theorem tabOk {t : List (List Int)} (h : isTable t = true) : (1 ≤ t.length ∧ t.length ≤ 10) ∧ (1 ≤ doorsOf t ∧ doorsOf t ≤ 12) ∧ (∀ k, k < t.length → (t.getD k []).length = doorsOf t) ∧ (∀ k d, k < t.length → d < doorsOf t → 0 ≤ (t.getD k []).getD d 0 ∧ (t.getD k []).getD d 0 ≤ 1) := by
  unfold isTable at h
  obtain ⟨h1, h2⟩ := Bool.and_eq_true_iff.1 h
  have h2 := of_decide_eq_true h2
  have hr : ∀ k, k < t.length → (t.getD k []).length = doorsOf t ∧ (1 ≤ (t.getD k []).length ∧ (t.getD k []).length ≤ 12) ∧ allB (t.getD k []) 0 1 = true := by
    intro k hk
    have := (List.all_eq_true.1 h1) t[k] (List.getElem_mem hk)
    unfold tabRow at this
    obtain ⟨a, b⟩ := Bool.and_eq_true_iff.1 this
    obtain ⟨b, c⟩ := Bool.and_eq_true_iff.1 b
    have e : t.getD k [] = t[k] := by simp [hk]
    rw [e]
    exact ⟨of_decide_eq_true a, of_decide_eq_true b, c⟩
  refine ⟨h2, ?_, fun k hk => (hr k hk).1, fun k d hk hd => ?_⟩
  · have := hr 0 (by omega)
    exact this.2.1
  · obtain ⟨e1, -, e2⟩ := hr k hk
    have hd' : d < (t.getD k []).length := by omega
    have := (List.all_eq_true.1 e2) _ (List.getElem_mem hd')
    have e : (t.getD k []).getD d 0 = (t.getD k [])[d] := by rw [List.getD_eq_getElem?_getD, List.getElem?_eq_getElem hd']; rfl
    rw [e]; exact inB_iff.1 this
theorem sysOk {mk : MK} {t : List (List Int)} (h : isSystem mk t = true) : SysOk mk t := by
  unfold isSystem at h
  obtain ⟨h1, h2⟩ := Bool.and_eq_true_iff.1 h
  obtain ⟨h2, -⟩ := Bool.and_eq_true_iff.1 h2
  obtain ⟨a, b, -⟩ := isMaker_iff.1 h1
  obtain ⟨c, d, e, f⟩ := tabOk h2
  exact ⟨a, b, c, d, e, f⟩
/-! ### facts of keys -/
structure KeyOk (mk : MK) (l : List Int) : Prop where
  len : (l.length : Int) = mk.c
  cut : ∀ i, i < l.length → 0 ≤ l.getD i 0 ∧ l.getD i 0 ≤ mk.d - 1
theorem cutsOk_iff {mk : MK} {l : List Int} (h : cutsOk mk l = true) : KeyOk mk l := by
  unfold cutsOk at h
  obtain ⟨h1, h2⟩ := Bool.and_eq_true_iff.1 h
  refine ⟨of_decide_eq_true h2, fun i hi => ?_⟩
  have := (List.all_eq_true.1 h1) _ (List.getElem_mem hi)
  have e : l.getD i 0 = l[i] := by simp [hi]
  rw [e]; exact inB_iff.1 this
theorem keyOk {mk : MK} {l : List Int} (h : isKeyB mk l = true) : KeyOk mk l := by
  unfold isKeyB keyFault at h
  have h := of_decide_eq_true h
  split at h
  · omega
  · split at h
    · omega
    · rename_i h2
      exact cutsOk_iff (by simpa using h2)
theorem keysOk {mk : MK} {cuts : List (List Int)} (h : areKeysB mk cuts = true) : ∀ r ∈ cuts, KeyOk mk r := fun r hr => keyOk ((List.all_eq_true.1 h) r hr)
/-! ### strictly increasing lists with the same elements are the same -/
theorem rise_eq : ∀ {a b : List Int}, a.Pairwise (· < ·) → b.Pairwise (· < ·) → (∀ x, x ∈ a ↔ x ∈ b) → a = b
  | [], [], _, _, _ => rfl
  | [], y :: b, _, _, h => absurd ((h y).2 List.mem_cons_self) (by simp)
  | x :: a, [], _, _, h => absurd ((h x).1 List.mem_cons_self) (by simp)
  | x :: a, y :: b, ha, hb, h => by
    obtain ⟨ha1, ha2⟩ := List.pairwise_cons.1 ha
    obtain ⟨hb1, hb2⟩ := List.pairwise_cons.1 hb
    have hxy : x = y := by
      rcases List.mem_cons.1 ((h x).1 List.mem_cons_self) with e | e
      · exact e
      · rcases List.mem_cons.1 ((h y).2 List.mem_cons_self) with e' | e'
        · exact e'.symm
        · have := hb1 x e; have := ha1 y e'; omega
    subst hxy
    congr 1
    refine rise_eq ha2 hb2 (fun z => ⟨fun hz => ?_, fun hz => ?_⟩)
    · rcases List.mem_cons.1 ((h z).1 (List.mem_cons_of_mem _ hz)) with e | e
      · have := ha1 z hz; omega
      · exact e
    · rcases List.mem_cons.1 ((h z).2 (List.mem_cons_of_mem _ hz)) with e | e
      · have := hb1 z hz; omega
      · exact e

open Go.ChangeShapes Go.WideShapes Go.ChangeAt Go.RowKit
set_option linter.unusedVariables false

def sysV (mk : MK) (u : Value) : Value := .agg #[.int .i64 mk.c, .int .i64 mk.d, .int .i64 mk.s, .int .i64 mk.m, .int .i64 mk.l, u]
/-- a system by value lies in block b -/
structure SysAt (w : World) (b : Nat) (mk : MK) (u : Value) : Prop where
  c0 : w.cell? ⟨b, 0, none⟩ = some (.int .i64 mk.c)
  c1 : w.cell? ⟨b, 1, none⟩ = some (.int .i64 mk.d)
  c2 : w.cell? ⟨b, 2, none⟩ = some (.int .i64 mk.s)
  c3 : w.cell? ⟨b, 3, none⟩ = some (.int .i64 mk.m)
  c4 : w.cell? ⟨b, 4, none⟩ = some (.int .i64 mk.l)
  c5 : w.cell? ⟨b, 5, none⟩ = some u
theorem sys_box {w w0 : World} {mk : MK} {u : Value} {t : TypeId} (h : w.alloc (.cells #[.int .i64 mk.c, .int .i64 mk.d, .int .i64 mk.s, .int .i64 mk.m, .int .i64 mk.l, u] t) = w0) : Ext w w0 ∧ SysAt w0 w.heap.size mk u := by
  subst h
  exact ⟨Ext.alloc _ _, by simp, by simp, by simp, by simp, by simp, by simp⟩
theorem SysAt.ext {w w' : World} {b : Nat} {mk : MK} {u : Value} (h : SysAt w b mk u) (e : Ext w w') : SysAt w' b mk u := ⟨e.cell h.c0, e.cell h.c1, e.cell h.c2, e.cell h.c3, e.cell h.c4, e.cell h.c5⟩
theorem SysAt.drew {w w' : World} {b : Nat} {mk : MK} {u : Value} (h : SysAt w b mk u) (e : Drew w w') : SysAt w' b mk u := h.ext (Ext.ofDrew e)
theorem SysAt.all {w w' : World} {b : Nat} {mk : MK} {u : Value} (h : SysAt w b mk u) (e : Ext w w') : w'.cell? ⟨b, 0, none⟩ = some (.int .i64 mk.c) ∧ w'.cell? ⟨b, 1, none⟩ = some (.int .i64 mk.d) ∧ w'.cell? ⟨b, 2, none⟩ = some (.int .i64 mk.s) ∧ w'.cell? ⟨b, 3, none⟩ = some (.int .i64 mk.m) ∧ w'.cell? ⟨b, 4, none⟩ = some (.int .i64 mk.l) ∧ w'.cell? ⟨b, 5, none⟩ = some u :=
  ⟨e.cell h.c0, e.cell h.c1, e.cell h.c2, e.cell h.c3, e.cell h.c4, e.cell h.c5⟩
theorem MK.veq (mk : MK) : mk.v = .agg #[.int .i64 mk.c, .int .i64 mk.d, .int .i64 mk.s, .int .i64 mk.m, .int .i64 mk.l] := rfl
theorem Ext.lt {w w' : World} (h : Ext w w') {b : Nat} (hb : b < w.heap.size) : b < w'.heap.size := Nat.lt_of_lt_of_le hb h.size
theorem SysAt.lt {w : World} {b : Nat} {mk : MK} {u : Value} (h : SysAt w b mk u) : b < w.heap.size := World.block_lt_of_cell? _ _ h.c0

/-- row k of a table, in any later world: where its slice lies, and its elements -/
theorem rows_at {w : World} {a : Option Addr} {n cap : Nat} {z : Zone} {t : List (List Int)} (h : RowsR z w (.slice a n cap) t) {k : Nat} (hk : k < n) :
    ∃ b off, a = some ⟨b, off, none⟩ ∧ ∃ a1 n1 c1, n1 = (t.getD k []).length ∧ n1 ≤ 9223372036854775807 ∧ n1 ≤ c1 ∧ (∀ w', Ext w w' → w'.cell? ⟨b, off + k, none⟩ = some (.slice a1 n1 c1)) ∧ (∃ y : Zone, y.Sub ⟨z.lo, z.hi, false⟩ ∧ ∀ w', Ext w w' → IntsR y w' (.slice a1 n1 c1) (t.getD k [])) ∧
      ∀ j, j < n1 → ∃ b1 o1, a1 = some ⟨b1, o1, none⟩ ∧ I64 ((t.getD k []).getD j 0) ∧ ∀ w', Ext w w' → w'.cell? ⟨b1, o1 + j, none⟩ = some (.int .i64 ((t.getD k []).getD j 0)) := by
  obtain ⟨a', n', c', he, hn, -, hel⟩ := SliceR.elem stable_ints h
  injection he with e1 e2 e3
  subst e1; subst e2; subst e3
  obtain ⟨b, off, rfl, hb, u, hc, hu⟩ := hel k (by omega)
  have e0 : t[k]'(by omega) = t.getD k [] := by simp [show k < t.length by omega]
  rw [e0] at hu
  obtain ⟨a1, n1, c1, rfl, hn1, hm1, hcap, -, -, h1⟩ := IntsR.shape hu
  refine ⟨b, off, rfl, a1, n1, c1, hn1, hm1, hcap, fun w' e => e.cell hc, ⟨_, Zone.Sub.refl _, fun w' e => stable_ints.ext hu e⟩, fun j hj => ?_⟩
  obtain ⟨b1, o1, rfl, hx, hi, -⟩ := h1 j hj
  exact ⟨b1, o1, rfl, hi, fun w' e => e.cell hx⟩

open Go.ChangeShapes Go.WideShapes Go.ChangeAt Go.RowKit
set_option linter.unusedVariables false

theorem isSystem_maker {mk : MK} {t : List (List Int)} (h : isMaker mk = false) : isSystem mk t = false := by unfold isSystem; rw [h]; rfl
theorem isSystem_table {mk : MK} {t : List (List Int)} (h : isTable t = false) : isSystem mk t = false := by unfold isSystem; rw [h]; simp
theorem isSystem_shut {mk : MK} {t : List (List Int)} (d : Nat) (hd : d < doorsOf t) (h : doorOpen t d = false) : isSystem mk t = false := by
  have : (List.range (doorsOf t)).all (doorOpen t) = false := by rw [List.all_eq_false]; exact ⟨d, List.mem_range.2 hd, by rw [h]; decide⟩
  unfold isSystem; rw [this]; simp
theorem isSystem_yes {mk : MK} {t : List (List Int)} (h1 : isMaker mk = true) (h2 : isTable t = true) (h : ∀ d, d < doorsOf t → doorOpen t d = true) : isSystem mk t = true := by
  have : (List.range (doorsOf t)).all (doorOpen t) = true := by rw [List.all_eq_true]; intro d hd; exact h d (List.mem_range.1 hd)
  unfold isSystem; rw [this, h1, h2]; rfl

theorem anyTake_succ {α : Type} (l : List α) (p : α → Bool) (d : α) {i : Nat} (h : i < l.length) : (l.take (i+1)).any p = ((l.take i).any p || p (l.getD i d)) := by
  rw [List.take_add_one, List.getElem?_eq_getElem h, List.any_append]
  simp [h]

open Go.ChangeShapes Go.WideShapes Go.ChangeAt Go.RowKit
set_option linter.unusedVariables false

def runBefore (l : List Int) : Nat → Nat
  | 0 => 0
  | i+1 => runAt l i
theorem runBefore_le (l : List Int) (i : Nat) : runBefore l i ≤ i := by
  cases i with
  | zero => exact Nat.le_refl _
  | succ i => exact (runAt_pos l i).2
theorem farAt_zero (s : Int) (l : List Int) : farAt s l 0 = false := rfl
theorem farAt_pos {s : Int} {l : List Int} {i : Nat} (h : 0 < i) : farAt s l i = decide (s < ((l.getD i 0 - l.getD (i-1) 0).natAbs : Int)) := by
  unfold farAt; rw [decide_eq_true h]; rfl
theorem keyFault_len {mk : MK} {l : List Int} (h : (l.length : Int) ≠ mk.c) : keyFault mk l = 1 := by unfold keyFault; rw [if_pos h]
theorem keyFault_cuts {mk : MK} {l : List Int} (h : (l.length : Int) = mk.c) (h2 : cutsOk mk l = false) : keyFault mk l = 2 := by
  unfold keyFault; rw [if_neg (by omega), if_pos h2]
theorem keyFault_far {mk : MK} {l : List Int} (h : (l.length : Int) = mk.c) (h2 : cutsOk mk l = true) (h3 : farTo mk.s l l.length = true) : keyFault mk l = 3 := by
  unfold keyFault; rw [if_neg (by omega), if_neg (by rw [h2]; decide), if_pos h3]
theorem keyFault_run {mk : MK} {l : List Int} (h : (l.length : Int) = mk.c) (h2 : cutsOk mk l = true) (h3 : farTo mk.s l l.length = false) (h4 : mk.m < (mostTo l l.length : Int)) : keyFault mk l = 4 := by
  unfold keyFault; rw [if_neg (by omega), if_neg (by rw [h2]; decide), if_neg (by rw [h3]; decide), if_pos h4]
theorem keyFault_kinds {mk : MK} {l : List Int} (h : (l.length : Int) = mk.c) (h2 : cutsOk mk l = true) (h3 : farTo mk.s l l.length = false) (h4 : ¬ mk.m < (mostTo l l.length : Int)) : keyFault mk l = if (kinds l : Int) < mk.l then 5 else 0 := by
  unfold keyFault; rw [if_neg (by omega), if_neg (by rw [h2]; decide), if_neg (by rw [h3]; decide), if_neg h4]
theorem cuts_in {mk : MK} {l : List Int} (h : cutsOk mk l = true) (i : Nat) (hi : i < l.length) : 0 ≤ l.getD i 0 ∧ l.getD i 0 ≤ mk.d - 1 := by
  unfold cutsOk at h
  obtain ⟨h1, -⟩ := Bool.and_eq_true_iff.1 h
  have := (List.all_eq_true.1 h1) _ (List.getElem_mem hi)
  have e : l.getD i 0 = l[i] := by simp [hi]
  rw [e]; exact inB_iff.1 this

open Go.ChangeShapes Go.WideShapes Go.ChangeAt Go.RowKit
set_option linter.unusedVariables false

open Go.ChangeShapes Go.WideShapes Go.ChangeAt Go.RowKit
set_option linter.unusedVariables false

open Go.ChangeShapes Go.WideShapes Go.ChangeAt Go.RowKit
set_option linter.unusedVariables false

open Go.ChangeShapes Go.WideShapes Go.ChangeAt Go.RowKit
set_option linter.unusedVariables false

/-- a maker by value lies in block b -/
def MkAt (w : World) (b : Nat) (mk : MK) : Prop := w.cell? ⟨b, 0, none⟩ = some (.int .i64 mk.c) ∧ w.cell? ⟨b, 1, none⟩ = some (.int .i64 mk.d) ∧ w.cell? ⟨b, 2, none⟩ = some (.int .i64 mk.s) ∧ w.cell? ⟨b, 3, none⟩ = some (.int .i64 mk.m) ∧ w.cell? ⟨b, 4, none⟩ = some (.int .i64 mk.l)
theorem mk_box {w w0 : World} {mk : MK} {t : TypeId} (h : w.alloc (.cells #[.int .i64 mk.c, .int .i64 mk.d, .int .i64 mk.s, .int .i64 mk.m, .int .i64 mk.l] t) = w0) : Ext w w0 ∧ MkAt w0 w.heap.size mk := by
  subst h
  exact ⟨Ext.alloc _ _, by simp, by simp, by simp, by simp, by simp⟩
theorem MkAt.ext {w w' : World} {b : Nat} {mk : MK} (h : MkAt w b mk) (e : Ext w w') : MkAt w' b mk := ⟨e.cell h.1, e.cell h.2.1, e.cell h.2.2.1, e.cell h.2.2.2.1, e.cell h.2.2.2.2⟩

/-- the code of a system and its cuts -/
def sysCode (mk : MK) (t cuts : List (List Int)) : Int := if isSystem mk t = false then 1 else if (decide (cuts.length = t.length) && areKeysB mk cuts) = false then 2 else 0
theorem sysCode_no {mk : MK} {t cuts : List (List Int)} (h : isSystem mk t = false) : sysCode mk t cuts = 1 := by unfold sysCode; rw [if_pos h]
theorem sysCode_len {mk : MK} {t cuts : List (List Int)} (h : isSystem mk t = true) (h2 : cuts.length ≠ t.length) : sysCode mk t cuts = 2 := by unfold sysCode; rw [if_neg (by rw [h]; decide), decide_eq_false h2, Bool.false_and, if_pos rfl]
theorem sysCode_key {mk : MK} {t cuts : List (List Int)} (h : isSystem mk t = true) (h2 : cuts.length = t.length) : sysCode mk t cuts = if areKeysB mk cuts = true then 0 else 2 := by
  unfold sysCode; rw [if_neg (by rw [h]; decide), decide_eq_true h2, Bool.true_and]
  cases areKeysB mk cuts <;> rfl
theorem sysMaker {mk : MK} {t : List (List Int)} (h : isSystem mk t = true) : isMaker mk = true := by
  unfold isSystem at h; exact (Bool.and_eq_true_iff.1 h).1
end Go.Proofs.Ytbkijealdjghgaa
