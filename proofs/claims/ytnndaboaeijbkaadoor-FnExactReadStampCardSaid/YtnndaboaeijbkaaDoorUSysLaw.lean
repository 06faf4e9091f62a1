/- Proved: what a system, its locks and its false openings are. -/
import Derived.Test.YtnndaboaeijbkaaDoorUKeyLaw
import Derived.Test.YtnndaboaeijbkaaDoorUHasList
namespace Go.Proofs.YtnndaboaeijbkaaDoor
open Go.ChangeShapes Go.WideShapes Go.ChangeAt Go.RowKit
set_option linter.unusedVariables false

/-- some row opens door d -/
def doorOpen (t : List (List Int)) (d : Nat) : Bool := t.any fun r => r.getD d 0 == 1
def doorsOf (t : List (List Int)) : Nat := (t.getD 0 []).length
def isSystem (mk : MK) (t : List (List Int)) : Bool := isMaker mk && (isTable t && (List.range (doorsOf t)).all (doorOpen t))
/-- the rows that open door d -/
def rowsAt (t : List (List Int)) (d : Nat) (n : Nat) : List Nat := (List.range n).filter fun k => (t.getD k []).getD d 0 == 1
def rowsI (t : List (List Int)) (d : Nat) (n : Nat) : List Int := (rowsAt t d n).map fun (k : Nat) => (k : Int)
theorem rowsAt_succ (t : List (List Int)) (d n : Nat) : rowsAt t d (n+1) = rowsAt t d n ++ if (t.getD n []).getD d 0 == 1 then [n] else [] := by
  unfold rowsAt; rw [List.range_succ, List.filter_append, List.filter_cons, List.filter_nil]
theorem rowsI_succ (t : List (List Int)) (d n : Nat) : rowsI t d (n+1) = rowsI t d n ++ if (t.getD n []).getD d 0 == 1 then [(n : Int)] else [] := by
  unfold rowsI; rw [rowsAt_succ, List.map_append]; congr 1; split <;> rfl
theorem rowsAt_lt {t : List (List Int)} {d n k : Nat} (h : k ∈ rowsAt t d n) : k < n := by
  unfold rowsAt at h; exact List.mem_range.1 (List.mem_filter.1 h).1
theorem rowsAt_len (t : List (List Int)) (d n : Nat) : (rowsAt t d n).length ≤ n := by
  have := List.length_filter_le (fun k => (t.getD k []).getD d 0 == 1) (List.range n)
  simpa [rowsAt] using this
theorem rowsI_len (t : List (List Int)) (d n : Nat) : (rowsI t d n).length ≤ n := by unfold rowsI; rw [List.length_map]; exact rowsAt_len t d n
theorem rowsI_nil {t : List (List Int)} {d : Nat} : rowsI t d t.length = [] ↔ doorOpen t d = false := by
  unfold rowsI doorOpen
  rw [List.map_eq_nil_iff, List.any_eq_false, rowsAt, List.filter_eq_nil_iff]
  constructor
  · intro h r hr
    obtain ⟨i, hi, rfl⟩ := List.getElem_of_mem hr
    have := h i (List.mem_range.2 hi)
    simpa [hi] using this
  · intro h k hk
    have hk := List.mem_range.1 hk
    have := h t[k] (List.getElem_mem hk)
    simpa [hk] using this
/-- the cuts of the first rows that open door d -/
def keysAt (t cuts : List (List Int)) (d n : Nat) : List (List Int) := (rowsAt t d n).map fun k => cuts.getD k []
theorem keysAt_succ (t cuts : List (List Int)) (d n : Nat) : keysAt t cuts d (n+1) = keysAt t cuts d n ++ if (t.getD n []).getD d 0 == 1 then [cuts.getD n []] else [] := by
  unfold keysAt; rw [rowsAt_succ, List.map_append]; congr 1; split <;> rfl
theorem keysAt_mem {t cuts : List (List Int)} {d n : Nat} {x : List Int} (hn : n ≤ cuts.length) (h : x ∈ keysAt t cuts d n) : x ∈ cuts := by
  unfold keysAt at h
  obtain ⟨k, hk, rfl⟩ := List.mem_map.1 h
  have := rowsAt_lt hk
  have hl : k < cuts.length := by omega
  have : cuts.getD k [] = cuts[k] := by simp [hl]
  rw [this]; exact List.getElem_mem hl
theorem keysAt_len (t cuts : List (List Int)) (d n : Nat) : (keysAt t cuts d n).length ≤ n := by unfold keysAt; rw [List.length_map]; exact rowsAt_len t d n
/-- the depths that some key has in chamber i -/
def setAt (keys : List (List Int)) (i : Nat) (n : Nat) : List Int := ((List.range n).filter fun (x : Nat) => keys.any fun r => r.getD i 0 == (x : Int)).map fun (x : Nat) => (x : Int)
theorem setAt_succ (keys : List (List Int)) (i n : Nat) : setAt keys i (n+1) = setAt keys i n ++ if keys.any (fun r => r.getD i 0 == (n : Int)) = true then [(n : Int)] else [] := by
  unfold setAt; rw [List.range_succ, List.filter_append, List.filter_cons, List.filter_nil, List.map_append]; congr 1; split <;> rfl
theorem setAt_len (keys : List (List Int)) (i n : Nat) : (setAt keys i n).length ≤ n := by
  have := List.length_filter_le (fun (x : Nat) => keys.any fun r => r.getD i 0 == (x : Int)) (List.range n)
  simpa [setAt] using this
theorem setAt_mem {keys : List (List Int)} {i n : Nat} {x : Int} : x ∈ setAt keys i n ↔ (0 ≤ x ∧ x < n) ∧ ∃ r ∈ keys, r.getD i 0 = x := by
  unfold setAt
  rw [List.mem_map]
  constructor
  · rintro ⟨k, hk, rfl⟩
    obtain ⟨h1, h2⟩ := List.mem_filter.1 hk
    obtain ⟨r, hr, he⟩ := List.any_eq_true.1 h2
    have := List.mem_range.1 h1
    exact ⟨by omega, r, hr, by simpa using he⟩
  · rintro ⟨⟨h1, h2⟩, r, hr, he⟩
    refine ⟨x.toNat, List.mem_filter.2 ⟨List.mem_range.2 (by omega), List.any_eq_true.2 ⟨r, hr, ?_⟩⟩, by omega⟩
    rw [he]; simp; omega
theorem setAt_sorted (keys : List (List Int)) (i n : Nat) : (setAt keys i n).Pairwise (· < ·) := by
  unfold setAt
  rw [List.pairwise_map]
  refine List.Pairwise.imp (fun h => by omega) ((List.pairwise_lt_range (n := n)).filter _)
def hullTo (mk : MK) (keys : List (List Int)) (n : Nat) : List (List Int) := (List.range n).map fun i => setAt keys i mk.d.toNat
def hull (mk : MK) (keys : List (List Int)) : List (List Int) := hullTo mk keys mk.c.toNat
theorem hullTo_succ (mk : MK) (keys : List (List Int)) (n : Nat) : hullTo mk keys (n+1) = hullTo mk keys n ++ [setAt keys n mk.d.toNat] := by
  unfold hullTo; rw [List.range_succ, List.map_append]; rfl
theorem hullTo_len (mk : MK) (keys : List (List Int)) (n : Nat) : (hullTo mk keys n).length = n := by simp [hullTo]
/-- the locks of the first n doors -/
def locksTo (mk : MK) (t cuts : List (List Int)) (n : Nat) : List (List (List Int)) := (List.range n).map fun d => hull mk (keysAt t cuts d cuts.length)
def locks (mk : MK) (t cuts : List (List Int)) : List (List (List Int)) := locksTo mk t cuts (doorsOf t)
theorem locksTo_succ (mk : MK) (t cuts : List (List Int)) (n : Nat) : locksTo mk t cuts (n+1) = locksTo mk t cuts n ++ [hull mk (keysAt t cuts n cuts.length)] := by
  unfold locksTo; rw [List.range_succ, List.map_append]; rfl
theorem locksTo_len (mk : MK) (t cuts : List (List Int)) (n : Nat) : (locksTo mk t cuts n).length = n := by simp [locksTo]
/-- cuts open a lock -/
def opensB (l : List (List Int)) (cuts : List Int) : Bool := (List.range cuts.length).all fun i => has (l.getD i []) (cuts.getD i 0)
/-- the cuts of row k open door d, and have no right to -/
def faultAt (mk : MK) (t cuts : List (List Int)) (k d : Nat) : Bool := (t.getD k []).getD d 0 == 0 && opensB ((locks mk t cuts).getD d []) (cuts.getD k [])
def faultRow (mk : MK) (t cuts : List (List Int)) (k n : Nat) : Nat := ((List.range n).filter (faultAt mk t cuts k)).length
def faultsTo (mk : MK) (t cuts : List (List Int)) : Nat → Nat
  | 0 => 0
  | k+1 => faultsTo mk t cuts k + faultRow mk t cuts k (doorsOf t)
/-- how many false openings there are -/
def faults (mk : MK) (t cuts : List (List Int)) : Nat := faultsTo mk t cuts cuts.length
theorem faultRow_succ (mk : MK) (t cuts : List (List Int)) (k n : Nat) : faultRow mk t cuts k (n+1) = faultRow mk t cuts k n + if faultAt mk t cuts k n = true then 1 else 0 := by
  unfold faultRow; rw [List.range_succ, List.filter_append, List.filter_cons, List.filter_nil, List.length_append]; congr 1; split <;> rfl
theorem faultRow_le (mk : MK) (t cuts : List (List Int)) (k n : Nat) : faultRow mk t cuts k n ≤ n := by
  have := List.length_filter_le (faultAt mk t cuts k) (List.range n)
  simpa [faultRow] using this
theorem faultsTo_le (mk : MK) (t cuts : List (List Int)) (n : Nat) : faultsTo mk t cuts n ≤ n * doorsOf t := by
  induction n with
  | zero => exact Nat.zero_le _
  | succ n ih =>
    have := faultRow_le mk t cuts n (doorsOf t)
    show faultsTo mk t cuts n + _ ≤ _
    rw [Nat.succ_mul]; omega
def areKeysB (mk : MK) (cuts : List (List Int)) : Bool := cuts.all (isKeyB mk)
def isDesign (mk : MK) (t cuts : List (List Int)) : Bool := isSystem mk t && ((decide (cuts.length = t.length) && areKeysB mk cuts) && decide (faults mk t cuts = 0))
/-! ### facts of a system -/
structure SysOk (mk : MK) (t : List (List Int)) : Prop where
  mk1 : 2 ≤ mk.c ∧ mk.c ≤ 6
  mk2 : 2 ≤ mk.d ∧ mk.d ≤ 8
  len : 1 ≤ t.length ∧ t.length ≤ 10
  doors : 1 ≤ doorsOf t ∧ doorsOf t ≤ 12
  row : ∀ k, k < t.length → (t.getD k []).length = doorsOf t
  bit : ∀ k d, k < t.length → d < doorsOf t → 0 ≤ (t.getD k []).getD d 0 ∧ (t.getD k []).getD d 0 ≤ 1
theorem tabOk {t : List (List Int)} (h : isTable t = true) : (1 ≤ t.length ∧ t.length ≤ 10) ∧ (1 ≤ doorsOf t ∧ doorsOf t ≤ 12) ∧ (∀ k, k < t.length → (t.getD k []).length = doorsOf t) ∧ (∀ k d, k < t.length → d < doorsOf t → 0 ≤ (t.getD k []).getD d 0 ∧ (t.getD k []).getD d 0 ≤ 1) := by
  unfold isTable at h
  obtain ⟨h1, h2⟩ := Bool.and_eq_true_iff.1 h
  have h2 := of_decide_eq_true h2
  have hr : ∀ k, k < t.length → (t.getD k []).length = doorsOf t ∧ (1 ≤ (t.getD k []).length ∧ (t.getD k []).length ≤ 12) ∧ allB (t.getD k []) 0 1 = true := by
    intro k hk
    have := (List.all_eq_true.1 h1) t[k] (List.getElem_mem hk)
    unfold tabRow at this
    obtain ⟨a, b⟩ := Bool.and_eq_true_iff.1 this
    obtain ⟨b, c⟩ := Bool.and_eq_true_iff.1 b
    have e : t.getD k [] = t[k] := by simp [hk]
    rw [e]
    exact ⟨of_decide_eq_true a, of_decide_eq_true b, c⟩
  refine ⟨h2, ?_, fun k hk => (hr k hk).1, fun k d hk hd => ?_⟩
  · have := hr 0 (by omega)
    exact this.2.1
  · obtain ⟨e1, -, e2⟩ := hr k hk
    have hd' : d < (t.getD k []).length := by omega
    have := (List.all_eq_true.1 e2) _ (List.getElem_mem hd')
    have e : (t.getD k []).getD d 0 = (t.getD k [])[d] := by rw [List.getD_eq_getElem?_getD, List.getElem?_eq_getElem hd']; rfl
    rw [e]; exact inB_iff.1 this
theorem sysOk {mk : MK} {t : List (List Int)} (h : isSystem mk t = true) : SysOk mk t := by
  unfold isSystem at h
  obtain ⟨h1, h2⟩ := Bool.and_eq_true_iff.1 h
  obtain ⟨h2, -⟩ := Bool.and_eq_true_iff.1 h2
  obtain ⟨a, b, -⟩ := isMaker_iff.1 h1
  obtain ⟨c, d, e, f⟩ := tabOk h2
  exact ⟨a, b, c, d, e, f⟩
/-! ### facts of keys -/
structure KeyOk (mk : MK) (l : List Int) : Prop where
  len : (l.length : Int) = mk.c
  cut : ∀ i, i < l.length → 0 ≤ l.getD i 0 ∧ l.getD i 0 ≤ mk.d - 1
theorem cutsOk_iff {mk : MK} {l : List Int} (h : cutsOk mk l = true) : KeyOk mk l := by
  unfold cutsOk at h
  obtain ⟨h1, h2⟩ := Bool.and_eq_true_iff.1 h
  refine ⟨of_decide_eq_true h2, fun i hi => ?_⟩
  have := (List.all_eq_true.1 h1) _ (List.getElem_mem hi)
  have e : l.getD i 0 = l[i] := by simp [hi]
  rw [e]; exact inB_iff.1 this
theorem keyOk {mk : MK} {l : List Int} (h : isKeyB mk l = true) : KeyOk mk l := by
  unfold isKeyB keyFault at h
  have h := of_decide_eq_true h
  split at h
  · omega
  · split at h
    · omega
    · rename_i h2
      exact cutsOk_iff (by simpa using h2)
theorem keysOk {mk : MK} {cuts : List (List Int)} (h : areKeysB mk cuts = true) : ∀ r ∈ cuts, KeyOk mk r := fun r hr => keyOk ((List.all_eq_true.1 h) r hr)
/-! ### strictly increasing lists with the same elements are the same -/
theorem rise_eq : ∀ {a b : List Int}, a.Pairwise (· < ·) → b.Pairwise (· < ·) → (∀ x, x ∈ a ↔ x ∈ b) → a = b
  | [], [], _, _, _ => rfl
  | [], y :: b, _, _, h => absurd ((h y).2 List.mem_cons_self) (by simp)
  | x :: a, [], _, _, h => absurd ((h x).1 List.mem_cons_self) (by simp)
  | x :: a, y :: b, ha, hb, h => by
    obtain ⟨ha1, ha2⟩ := List.pairwise_cons.1 ha
    obtain ⟨hb1, hb2⟩ := List.pairwise_cons.1 hb
    have hxy : x = y := by
      rcases List.mem_cons.1 ((h x).1 List.mem_cons_self) with e | e
      · exact e
      · rcases List.mem_cons.1 ((h y).2 List.mem_cons_self) with e' | e'
        · exact e'.symm
        · have := hb1 x e; have := ha1 y e'; omega
    subst hxy
    congr 1
    refine rise_eq ha2 hb2 (fun z => ⟨fun hz => ?_, fun hz => ?_⟩)
    · rcases List.mem_cons.1 ((h z).1 (List.mem_cons_of_mem _ hz)) with e | e
      · have := ha1 z hz; omega
      · exact e
    · rcases List.mem_cons.1 ((h z).2 (List.mem_cons_of_mem _ hz)) with e | e
      · have := hb1 z hz; omega
      · exact e
end Go.Proofs.YtnndaboaeijbkaaDoor
