/- Proved: the rooms that can be reached: rounds over the doors until nothing changes, or as many rounds as rooms. -/
import Derived.Test.YtbkijealdjghgaaURooms
namespace Go.Proofs.Ytbkijealdjghgaa
open Go.ChangeShapes Go.WideShapes Go.ChangeAt Go.RowKit
set_option linter.unusedVariables false

def stepE (s : List Bool) (p : Nat × Nat) : List Bool := if s.getD p.1 false || s.getD p.2 false then (s.set p.1 true).set p.2 true else s
def passE (es : List (Nat × Nat)) (s : List Bool) : List Bool := es.foldl stepE s
def roundsE (es : List (Nat × Nat)) (s : List Bool) : Nat → List Bool
  | 0 => s
  | n+1 => passE es (roundsE es s n)

def leB : List Bool → List Bool → Prop
  | [], [] => True
  | a :: s, b :: t => (a = true → b = true) ∧ leB s t
  | _, _ => False
theorem leB_refl : ∀ s, leB s s
  | [] => trivial
  | _ :: s => ⟨id, leB_refl s⟩
theorem leB_trans : ∀ {r s t}, leB r s → leB s t → leB r t
  | [], [], [], _, _ => trivial
  | _ :: _, _ :: _, _ :: _, ⟨h1, h2⟩, ⟨k1, k2⟩ => ⟨fun h => k1 (h1 h), leB_trans h2 k2⟩
  | [], [], _ :: _, _, h => h.elim
  | [], _ :: _, _, h, _ => h.elim
  | _ :: _, [], _, h, _ => h.elim
  | _ :: _, _ :: _, [], _, h => h.elim
theorem leB_set : ∀ (s : List Bool) (i : Nat), leB s (s.set i true)
  | [], _ => by simp [leB]
  | a :: s, 0 => by simp only [List.set_cons_zero]; exact ⟨fun _ => rfl, leB_refl s⟩
  | a :: s, i+1 => by simp only [List.set_cons_succ]; exact ⟨id, leB_set s i⟩
theorem leB_count : ∀ {s t}, leB s t → s.count true ≤ t.count true ∧ (s ≠ t → s.count true < t.count true)
  | [], [], _ => ⟨Nat.le_refl _, fun h => (h rfl).elim⟩
  | a :: s, b :: t, ⟨h1, h2⟩ => by
    obtain ⟨k1, k2⟩ := leB_count h2
    cases a <;> cases b
    · refine ⟨by simpa using k1, fun h => ?_⟩
      have : s ≠ t := fun e => h (by rw [e])
      simpa using k2 this
    · refine ⟨by simp; omega, fun h => by simp; omega⟩
    · simp at h1
    · refine ⟨by simpa using k1, fun h => ?_⟩
      have : s ≠ t := fun e => h (by rw [e])
      have := k2 this
      simp; omega
  | [], _ :: _, h => h.elim
  | _ :: _, [], h => h.elim

theorem leB_step (s : List Bool) (p : Nat × Nat) : leB s (stepE s p) := by
  unfold stepE
  split
  · exact leB_trans (leB_set _ _) (leB_set _ _)
  · exact leB_refl _
theorem leB_pass (es : List (Nat × Nat)) : ∀ s, leB s (passE es s) := by
  induction es with
  | nil => exact leB_refl
  | cons p es ih => exact fun s => leB_trans (leB_step s p) (ih _)
theorem step_length (s : List Bool) (p : Nat × Nat) : (stepE s p).length = s.length := by unfold stepE; split <;> simp
theorem pass_length (es : List (Nat × Nat)) : ∀ s, (passE es s).length = s.length := by
  induction es with
  | nil => exact fun _ => rfl
  | cons p es ih => exact fun s => (ih _).trans (step_length s p)
theorem rounds_length (es : List (Nat × Nat)) (s : List Bool) : ∀ n, (roundsE es s n).length = s.length
  | 0 => rfl
  | n+1 => (pass_length _ _).trans (rounds_length es s n)

theorem set_same {s : List Bool} {i : Nat} (h : s.getD i false = true) : s.set i true = s := by
  refine List.ext_getElem (by simp) fun j h1 h2 => ?_
  by_cases e : i = j
  · subst e
    rw [List.getElem_set_self]
    rw [List.getD_eq_getElem?_getD, List.getElem?_eq_getElem h2] at h
    exact h.symm
  · rw [List.getElem_set_ne e]
theorem step_no {s : List Bool} {p : Nat × Nat} (h : s.getD p.1 false = s.getD p.2 false) : stepE s p = s := by
  unfold stepE
  split
  · next h' =>
    rw [h, Bool.or_self] at h'
    rw [set_same (h.trans h'), set_same h']
  · rfl
theorem step_yes {s : List Bool} {p : Nat × Nat} (h : s.getD p.1 false ≠ s.getD p.2 false) : stepE s p = (s.set p.1 true).set p.2 true := by
  unfold stepE
  rw [if_pos]
  revert h; cases s.getD p.1 false <;> cases s.getD p.2 false <;> simp
theorem step_ne {s : List Bool} {p : Nat × Nat} (h : s.getD p.1 false ≠ s.getD p.2 false) (h1 : p.1 < s.length) (h2 : p.2 < s.length) : s.count true < (stepE s p).count true := by
  refine (leB_count (leB_step s p)).2 fun e => ?_
  rw [step_yes h] at e
  have e1 : s.getD p.1 false = true := by
    rw [e, List.getD_eq_getElem?_getD, List.getElem?_set]
    split
    · rw [if_pos (by simpa using h2)]; rfl
    · simp [h1]
  have e2 : s.getD p.2 false = true := by
    rw [e, List.getD_eq_getElem?_getD, List.getElem?_set]
    simp [h2]
  exact h (e1.trans e2.symm)

theorem rounds_or (es : List (Nat × Nat)) (s : List Bool) (h : 1 ≤ s.count true) : ∀ n, passE es (roundsE es s n) = roundsE es s n ∨ n + 1 ≤ (roundsE es s n).count true
  | 0 => .inr h
  | n+1 => by
    rcases rounds_or es s h n with h' | h'
    · left; show passE es (passE es (roundsE es s n)) = passE es (roundsE es s n); rw [h']; exact h'
    · by_cases e : passE es (roundsE es s n) = roundsE es s n
      · left; show passE es (passE es (roundsE es s n)) = passE es (roundsE es s n); rw [e]; exact e
      · right
        have := (leB_count (leB_pass es (roundsE es s n))).2 (fun h => e h.symm)
        show n + 1 + 1 ≤ (passE es (roundsE es s n)).count true
        omega
theorem rounds_fix (es : List (Nat × Nat)) (s : List Bool) (h : 1 ≤ s.count true) : passE es (roundsE es s s.length) = roundsE es s s.length := by
  rcases rounds_or es s h s.length with h' | h'
  · exact h'
  · have := List.count_le_length (a := true) (l := roundsE es s s.length)
    rw [rounds_length] at this
    omega
theorem rounds_add {es : List (Nat × Nat)} {s : List Bool} {n : Nat} (h : passE es (roundsE es s n) = roundsE es s n) : ∀ m, roundsE es s (n + m) = roundsE es s n
  | 0 => rfl
  | m+1 => by show passE es (roundsE es s (n + m)) = _; rw [rounds_add h m]; exact h
theorem rounds_eq {es : List (Nat × Nat)} {s : List Bool} {n : Nat} (h1 : 1 ≤ s.count true) (h : passE es (roundsE es s n) = roundsE es s n) : roundsE es s n = roundsE es s s.length := by
  rw [← rounds_add h s.length, ← rounds_add (rounds_fix es s h1) n, Nat.add_comm]

/-- the two sides of a door -/
def sides (ds : List (List Int)) (d : Int) : Nat × Nat := (((ds.getD d.toNat []).getD 0 0).toNat, ((ds.getD d.toNat []).getD 1 0).toNat)
/-- the start: one room -/
def reach0 (c f : Int) : List Bool := (List.replicate c.toNat false).set f.toNat true
def reachL (c : Int) (ds : List (List Int)) (f : Int) (op : List Int) : List Bool := roundsE (op.map (sides ds)) (reach0 c f) c.toNat
theorem reach0_length (c f : Int) : (reach0 c f).length = c.toNat := by simp [reach0]
theorem reachL_length (c : Int) (ds : List (List Int)) (f : Int) (op : List Int) : (reachL c ds f op).length = c.toNat := by rw [reachL, rounds_length, reach0_length]
theorem reach0_one {c f : Int} (h : 0 ≤ f) (h' : f < c) : 1 ≤ (reach0 c f).count true := by
  refine List.count_pos_iff.2 ?_
  refine List.mem_iff_getElem.2 ⟨f.toNat, by rw [reach0_length]; omega, ?_⟩
  simp [reach0]
theorem reachL_eq {c : Int} {ds : List (List Int)} {f : Int} {op : List Int} {n : Nat} (h : 0 ≤ f) (h' : f < c) (hf : passE (op.map (sides ds)) (roundsE (op.map (sides ds)) (reach0 c f) n) = roundsE (op.map (sides ds)) (reach0 c f) n) :
    roundsE (op.map (sides ds)) (reach0 c f) n = reachL c ds f op := by
  rw [rounds_eq (reach0_one h h') hf, reachL, reach0_length]
theorem passE_take {es : List (Nat × Nat)} {s : List Bool} {k : Nat} (hk : k < es.length) : passE (es.take (k+1)) s = stepE (passE (es.take k) s) es[k] := by
  unfold passE
  rw [List.take_succ_eq_append_getElem hk, List.foldl_append]
  rfl
theorem passE_all {es : List (Nat × Nat)} {s : List Bool} : passE (es.take es.length) s = passE es s := by rw [List.take_length]

/-- the doors of a plan have sides that are rooms -/
theorem roomsOk_sides {c : Int} {ds : List (List Int)} (h : roomsOk c ds = true) : (2 ≤ c ∧ c ≤ 8) ∧ ds.length ≤ 12 ∧ ∀ p ∈ ds, p.length = 2 ∧ 0 ≤ p.getD 0 0 ∧ p.getD 0 0 < p.getD 1 0 ∧ p.getD 1 0 < c := by
  unfold roomsOk at h
  rw [Bool.and_eq_true, Bool.and_eq_true] at h
  obtain ⟨h1, h2, h3⟩ := h
  have e2 : 2 ≤ c ∧ c ≤ 8 := by simpa [inB] using h2
  have e3 : ds.length ≤ 12 := by simpa using h3
  refine ⟨e2, e3, fun p hp => ?_⟩
  have hb : badDoor c p = false := by
    rw [Bool.not_eq_true', List.any_eq_false] at h1
    simpa using h1 p hp
  unfold badDoor at hb
  rw [Bool.or_eq_false_iff] at hb
  obtain ⟨b1, b2⟩ := hb
  have hl : p.length = 2 := by simpa using b1
  match p, hl with
  | [x, y], _ =>
    have hr : rising [x, y] c = (decide (0 ≤ x ∧ x < c) && decide (0 ≤ y ∧ y < c ∧ x < y)) := by
      simp [rising, List.range_succ, risingAt]
    rw [hr] at b2
    simp only [Bool.not_eq_false', Bool.and_eq_true, decide_eq_true_eq] at b2
    refine ⟨rfl, ?_, ?_, ?_⟩ <;> simp only [List.getD_cons_zero, List.getD_cons_succ] <;> omega
end Go.Proofs.Ytbkijealdjghgaa
