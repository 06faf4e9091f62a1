/- Proved: the routes from one room to another one, in order. -/
import Derived.Test.YtbkijealdjghgaaUReachLaw
import Derived.Test.YtbkijealdjghgaaUHas
namespace Go.Proofs.Ytbkijealdjghgaa
open Go.ChangeShapes Go.WideShapes Go.ChangeAt Go.RowKit
set_option linter.unusedVariables false

/-- the room at the other side of a door, or -1 -/
def other (ds : List (List Int)) (d p : Int) : Int :=
  if p = (ds.getD d.toNat []).getD 0 0 then (ds.getD d.toNat []).getD 1 0 else if p = (ds.getD d.toNat []).getD 1 0 then (ds.getD d.toNat []).getD 0 0 else -1
/-- a room can be entered: it is one, and was not entered yet -/
def canGo (s : List Bool) (q : Int) : Bool := decide (0 ≤ q) && !s.getD q.toNat false

/-- the routes from a room, by so many rooms more; s: the rooms that have been entered -/
def routesN (ds : List (List Int)) (op : List Int) (t : Int) : Nat → List Bool → Int → List (List Int)
  | 0, _, p => if p = t then [[]] else []
  | n+1, s, p => if p = t then [[]] else op.flatMap fun d => if canGo s (other ds d p) = true then (routesN ds op t n (s.set (other ds d p).toNat true) (other ds d p)).map (d :: ·) else []
/-- .. by one door first -/
def routesBy (ds : List (List Int)) (op : List Int) (t : Int) (n : Nat) (s : List Bool) (p d : Int) : List (List Int) :=
  if canGo s (other ds d p) = true then (routesN ds op t n (s.set (other ds d p).toNat true) (other ds d p)).map (d :: ·) else []
/-- .. by the first doors -/
def routesTo' (ds : List (List Int)) (op : List Int) (t : Int) (n : Nat) (s : List Bool) (p : Int) (k : Nat) : List (List Int) := (op.take k).flatMap (routesBy ds op t n s p)

theorem routesN_end {ds : List (List Int)} {op : List Int} {t : Int} {n : Nat} {s : List Bool} : routesN ds op t n s t = [[]] := by cases n <;> simp [routesN]
theorem routesN_zero {ds : List (List Int)} {op : List Int} {t : Int} {s : List Bool} {p : Int} (h : p ≠ t) : routesN ds op t 0 s p = [] := by simp [routesN, h]
theorem routesN_succ {ds : List (List Int)} {op : List Int} {t : Int} {n : Nat} {s : List Bool} {p : Int} (h : p ≠ t) : routesN ds op t (n+1) s p = op.flatMap (routesBy ds op t n s p) := by
  rw [routesN, if_neg h]; rfl
theorem routesTo_zero {ds : List (List Int)} {op : List Int} {t : Int} {n : Nat} {s : List Bool} {p : Int} : routesTo' ds op t n s p 0 = [] := rfl
theorem routesTo_all {ds : List (List Int)} {op : List Int} {t : Int} {n : Nat} {s : List Bool} {p : Int} (h : p ≠ t) : routesTo' ds op t n s p op.length = routesN ds op t (n+1) s p := by
  rw [routesTo', List.take_length, routesN_succ h]
theorem routesTo_succ {ds : List (List Int)} {op : List Int} {t : Int} {n : Nat} {s : List Bool} {p : Int} {k : Nat} (hk : k < op.length) : routesTo' ds op t n s p (k+1) = routesTo' ds op t n s p k ++ routesBy ds op t n s p op[k] := by
  unfold routesTo'
  rw [List.take_succ_eq_append_getElem hk, List.flatMap_append]
  simp
theorem routesBy_no {ds : List (List Int)} {op : List Int} {t : Int} {n : Nat} {s : List Bool} {p d : Int} (h : canGo s (other ds d p) = false) : routesBy ds op t n s p d = [] := by unfold routesBy; rw [if_neg (by simp [h])]
theorem routesBy_yes {ds : List (List Int)} {op : List Int} {t : Int} {n : Nat} {s : List Bool} {p d : Int} (h : canGo s (other ds d p) = true) : routesBy ds op t n s p d = (routesN ds op t n (s.set (other ds d p).toNat true) (other ds d p)).map (d :: ·) := by unfold routesBy; rw [if_pos h]

/-- how many there can be -/
theorem flatMap_length_le {α β : Type} (f : α → List β) (c : Nat) (l : List α) (h : ∀ x ∈ l, (f x).length ≤ c) : (l.flatMap f).length ≤ l.length * c := by
  induction l with
  | nil => simp
  | cons x l ih =>
    rw [List.flatMap_cons, List.length_append, List.length_cons, Nat.succ_mul]
    have h1 := h x (List.mem_cons_self ..)
    have h2 := ih (fun y hy => h y (List.mem_cons_of_mem _ hy))
    omega
theorem routesN_length {ds : List (List Int)} {op : List Int} {t : Int} (h12 : op.length ≤ 12) : ∀ (n : Nat) (s : List Bool) (p : Int), (routesN ds op t n s p).length ≤ 12 ^ n
  | 0, s, p => by unfold routesN; split <;> simp
  | n+1, s, p => by
    by_cases hp : p = t
    · rw [hp, routesN_end]; exact Nat.one_le_pow _ _ (by omega)
    · rw [routesN_succ hp, Nat.pow_succ, Nat.mul_comm]
      refine Nat.le_trans (flatMap_length_le _ (12 ^ n) op (fun d _ => ?_)) (Nat.mul_le_mul_right _ h12)
      unfold routesBy
      split
      · rw [List.length_map]; exact routesN_length h12 n _ _
      · simp
theorem routesN_rlen {ds : List (List Int)} {op : List Int} {t : Int} : ∀ (n : Nat) (s : List Bool) (p : Int), ∀ r ∈ routesN ds op t n s p, r.length ≤ n
  | 0, s, p => by unfold routesN; split <;> simp
  | n+1, s, p => by
    by_cases hp : p = t
    · rw [hp, routesN_end]; simp
    · rw [routesN_succ hp]
      intro r hr
      obtain ⟨d, _, hr⟩ := List.mem_flatMap.1 hr
      unfold routesBy at hr
      split at hr
      · obtain ⟨r', hr', rfl⟩ := List.mem_map.1 hr
        have := routesN_rlen n _ _ r' hr'
        simp; omega
      · simp at hr
theorem routesN_mem {ds : List (List Int)} {op : List Int} {t : Int} : ∀ (n : Nat) (s : List Bool) (p : Int), ∀ r ∈ routesN ds op t n s p, ∀ d ∈ r, d ∈ op
  | 0, s, p => by unfold routesN; split <;> simp
  | n+1, s, p => by
    by_cases hp : p = t
    · rw [hp, routesN_end]; simp
    · rw [routesN_succ hp]
      intro r hr
      obtain ⟨d, hd, hr⟩ := List.mem_flatMap.1 hr
      unfold routesBy at hr
      split at hr
      · obtain ⟨r', hr', rfl⟩ := List.mem_map.1 hr
        intro x hx
        rcases List.mem_cons.1 hx with rfl | hx
        · exact hd
        · exact routesN_mem n _ _ r' hr' x hx
      · simp at hr

/-- the rooms that are left -/
theorem set_count {s : List Bool} {i : Nat} (hi : i < s.length) (h : s.getD i false = false) : (s.set i true).count false + 1 = s.count false := by
  induction s generalizing i with
  | nil => simp at hi
  | cons a s ih =>
    cases i with
    | zero => simp at h; subst h; simp
    | succ i =>
      simp at hi h
      have := ih hi (by simpa using h)
      rw [List.set_cons_succ, List.count_cons, List.count_cons]
      omega
theorem count_pos_of {s : List Bool} {i : Nat} (hi : i < s.length) (h : s.getD i false = false) : 0 < s.count false := by
  rw [List.count_pos_iff]
  refine List.mem_iff_getElem.2 ⟨i, hi, ?_⟩
  simpa [hi] using h

/-- where a door leads -/
theorem other_range {c : Int} {ds : List (List Int)} (hok : roomsOk c ds = true) {d p : Int} (h0 : 0 ≤ d) (h1 : d < ds.length) : other ds d p = -1 ∨ (0 ≤ other ds d p ∧ other ds d p < c) := by
  obtain ⟨-, -, h⟩ := roomsOk_sides hok
  have hd : d.toNat < ds.length := by omega
  have e : ds.getD d.toNat [] = ds[d.toNat] := by simp [hd]
  have := h ds[d.toNat] (List.getElem_mem hd)
  unfold other
  rw [e]
  split
  · right; omega
  · split
    · right; omega
    · left; rfl
/-- the entered rooms as a list of marks -/
def Marked (c : Nat) (rs : List Int) (s : List Bool) : Prop := s.length = c ∧ ∀ q : Int, 0 ≤ q → q < c → has rs q = s.getD q.toNat false

/-! ### there are few routes: a door at a room that has been left is never used again -/
def fresh (s : List Bool) (p a : Int) : Bool := decide (a = p) || !s.getD a.toNat false
def usable (ds : List (List Int)) (s : List Bool) (p d : Int) : Bool := fresh s p ((ds.getD d.toNat []).getD 0 0) && fresh s p ((ds.getD d.toNat []).getD 1 0)
theorem other_cases (ds : List (List Int)) (d p : Int) : other ds d p = -1 ∨ (p = (ds.getD d.toNat []).getD 0 0 ∧ other ds d p = (ds.getD d.toNat []).getD 1 0) ∨ (p = (ds.getD d.toNat []).getD 1 0 ∧ other ds d p = (ds.getD d.toNat []).getD 0 0) := by
  unfold other
  split
  · next h => exact .inr (.inl ⟨h, rfl⟩)
  · split
    · next h => exact .inr (.inr ⟨h, rfl⟩)
    · exact .inl rfl
theorem canGo_neg (s : List Bool) : canGo s (-1) = false := by simp [canGo]
theorem canGo_iff {s : List Bool} {q : Int} : canGo s q = true ↔ 0 ≤ q ∧ s.getD q.toNat false = false := by simp [canGo]
theorem usable_of_go {ds : List (List Int)} {s : List Bool} {p d : Int} (h : canGo s (other ds d p) = true) : usable ds s p d = true := by
  rcases other_cases ds d p with e | ⟨e1, e2⟩ | ⟨e1, e2⟩
  · rw [e, canGo_neg] at h; cases h
  · rw [e2] at h
    have := (canGo_iff.1 h).2
    simp only [usable, fresh, ← e1, this]; simp
  · rw [e2] at h
    have := (canGo_iff.1 h).2
    simp only [usable, fresh, ← e1, this]; simp
theorem getD_set_true {s : List Bool} {i j : Nat} (h : s.getD j false = true) : (s.set i true).getD j false = true := by
  rw [List.getD_eq_getElem?_getD] at *
  rw [List.getElem?_set]
  split
  · split
    · rfl
    · next h1 h2 => subst h1; rw [List.getElem?_eq_none (by omega)] at h; simp at h
  · exact h
theorem getD_set_false {s : List Bool} {i j : Nat} (h : (s.set i true).getD j false = false) : s.getD j false = false := by
  cases e : s.getD j false with
  | false => rfl
  | true => rw [getD_set_true e] at h; cases h
theorem usable_used {ds : List (List Int)} {s : List Bool} {p d q : Int} (hp : s.getD p.toNat false = true) (h : canGo s (other ds d p) = true) (hq : canGo s q = true) : usable ds (s.set q.toNat true) q d = false := by
  have hpq : ¬ p = q := fun e => by rw [e, (canGo_iff.1 hq).2] at hp; cases hp
  have hf : fresh (s.set q.toNat true) q p = false := by simp only [fresh, hpq, getD_set_true hp]; rfl
  rcases other_cases ds d p with e | ⟨e1, e2⟩ | ⟨e1, e2⟩
  · rw [e, canGo_neg] at h; cases h
  · unfold usable; rw [← e1, hf]; rfl
  · unfold usable; rw [← e1, hf]; simp
theorem fresh_mono {s : List Bool} {p q a : Int} (hq : canGo s q = true) (h : fresh (s.set q.toNat true) q a = true) : fresh s p a = true := by
  unfold fresh at *
  rw [Bool.or_eq_true] at *
  right
  rcases h with h | h
  · have : a = q := by simpa using h
    rw [this, (canGo_iff.1 hq).2]; rfl
  · have : (s.set q.toNat true).getD a.toNat false = false := by simpa using h
    rw [getD_set_false this]; rfl
theorem usable_mono {ds : List (List Int)} {s : List Bool} {p q d : Int} (hq : canGo s q = true) (h : usable ds (s.set q.toNat true) q d = true) : usable ds s p d = true := by
  unfold usable at *
  rw [Bool.and_eq_true] at *
  exact ⟨fresh_mono hq h.1, fresh_mono hq h.2⟩
theorem usable_count {ds : List (List Int)} {s : List Bool} {p q : Int} (hp : s.getD p.toNat false = true) (hq : canGo s q = true) (op : List Int) :
    op.countP (usable ds (s.set q.toNat true) q) + op.countP (fun d => canGo s (other ds d p)) ≤ op.countP (usable ds s p) := by
  induction op with
  | nil => simp
  | cons d op ih =>
    rw [List.countP_cons, List.countP_cons, List.countP_cons]
    cases hg : canGo s (other ds d p) with
    | true =>
      rw [usable_used hp hg hq, usable_of_go hg]
      simp only [if_true, if_false, Bool.false_eq_true]
      omega
    | false =>
      cases hu : usable ds (s.set q.toNat true) q d with
      | true => rw [usable_mono hq hu]; simp only [if_true, if_false, Bool.false_eq_true]; omega
      | false => simp only [if_false, Bool.false_eq_true]; split <;> omega
theorem lt_two_pow (n : Nat) : n ≤ 2 ^ n := Nat.le_of_lt Nat.lt_two_pow_self
theorem flatMap_count {α β : Type} (f : α → List β) (g : α → Bool) (c : Nat) (l : List α) (h : ∀ x ∈ l, g x = true → (f x).length ≤ c) (h' : ∀ x ∈ l, g x = false → f x = []) : (l.flatMap f).length ≤ l.countP g * c := by
  induction l with
  | nil => simp
  | cons x l ih =>
    rw [List.flatMap_cons, List.length_append, List.countP_cons]
    have h2 := ih (fun y hy => h y (List.mem_cons_of_mem _ hy)) (fun y hy => h' y (List.mem_cons_of_mem _ hy))
    cases hg : g x with
    | true =>
      have h1 := h x (List.mem_cons_self ..) hg
      simp only [if_true, Nat.add_mul, Nat.one_mul]
      omega
    | false => rw [h' x (List.mem_cons_self ..) hg]; simpa using h2
theorem routesN_few {ds : List (List Int)} {op : List Int} {t : Int} : ∀ (n : Nat) (s : List Bool) (p : Int), s.getD p.toNat false = true → s.count false ≤ n → (∀ d ∈ op, ∀ p, other ds d p < s.length) → (routesN ds op t n s p).length ≤ 2 ^ op.countP (usable ds s p)
  | 0, s, p, _, _, _ => by unfold routesN; split <;> simp [Nat.one_le_two_pow]
  | n+1, s, p, hp, hn, hl => by
    by_cases hpt : p = t
    · rw [hpt, routesN_end]; exact Nat.one_le_two_pow
    · rw [routesN_succ hpt]
      refine Nat.le_trans (flatMap_count _ (fun d => canGo s (other ds d p)) (2 ^ (op.countP (usable ds s p) - op.countP (fun d => canGo s (other ds d p)))) op (fun d hd hg => ?_) (fun d hd hg => routesBy_no hg)) ?_
      · obtain ⟨g1, g2⟩ := canGo_iff.1 hg
        have hlt : (other ds d p).toNat < s.length := by have := hl d hd p; omega
        have hc := set_count hlt g2
        rw [routesBy_yes hg, List.length_map]
        refine Nat.le_trans (routesN_few n _ _ ?_ (by omega) (by simpa using hl)) (Nat.pow_le_pow_right (by omega) ?_)
        · rw [List.getD_eq_getElem?_getD, List.getElem?_set_self hlt]; rfl
        · have := usable_count hp hg op (ds := ds); omega
      · have hle : op.countP (fun d => canGo s (other ds d p)) ≤ op.countP (usable ds s p) := List.countP_mono_left (fun d _ hg => usable_of_go hg)
        generalize op.countP (fun d => canGo s (other ds d p)) = g at *
        generalize op.countP (usable ds s p) = u at *
        calc g * 2 ^ (u - g) ≤ 2 ^ g * 2 ^ (u - g) := Nat.mul_le_mul_right _ (lt_two_pow g)
          _ = 2 ^ u := by rw [← Nat.pow_add]; congr 1; omega
theorem routesN_4096 {ds : List (List Int)} {op : List Int} {t : Int} {n : Nat} {s : List Bool} {p : Int} (h1 : s.getD p.toNat false = true) (h2 : s.count false ≤ n) (h3 : ∀ d ∈ op, ∀ p, other ds d p < s.length) (h12 : op.length ≤ 12) : (routesN ds op t n s p).length ≤ 4096 :=
  Nat.le_trans (routesN_few n s p h1 h2 h3) (Nat.pow_le_pow_right (n := 2) (by omega) (Nat.le_trans List.countP_le_length h12))

/-! ### the routes, door by door, and cut at a number -/
def stepR (ds : List (List Int)) (op : List Int) (t : Int) (m : Nat) (s : List Bool) (p d : Int) : List (List Int) := match m with
  | 0 => []
  | n+1 => routesBy ds op t n s p d
def partR (ds : List (List Int)) (op : List Int) (t : Int) (m : Nat) (s : List Bool) (p : Int) (k : Nat) : List (List Int) := (op.take k).flatMap (stepR ds op t m s p)
theorem partR_zero {ds : List (List Int)} {op : List Int} {t : Int} {m : Nat} {s : List Bool} {p : Int} : partR ds op t m s p 0 = [] := rfl
theorem partR_succ {ds : List (List Int)} {op : List Int} {t : Int} {m : Nat} {s : List Bool} {p : Int} {k : Nat} (hk : k < op.length) : partR ds op t m s p (k+1) = partR ds op t m s p k ++ stepR ds op t m s p op[k] := by
  unfold partR
  rw [List.take_succ_eq_append_getElem hk, List.flatMap_append]
  simp
theorem partR_all {ds : List (List Int)} {op : List Int} {t : Int} {m : Nat} {s : List Bool} {p : Int} (h : p ≠ t) : partR ds op t m s p op.length = routesN ds op t m s p := by
  unfold partR
  rw [List.take_length]
  cases m with
  | zero => rw [routesN_zero h]; simp [stepR]
  | succ n => rw [routesN_succ h]; rfl
theorem stepR_no {ds : List (List Int)} {op : List Int} {t : Int} {m : Nat} {s : List Bool} {p d : Int} (h : canGo s (other ds d p) = false) : stepR ds op t m s p d = [] := by
  cases m with
  | zero => rfl
  | succ n => exact routesBy_no h
theorem stepR_yes {ds : List (List Int)} {op : List Int} {t : Int} {n : Nat} {s : List Bool} {p d : Int} (h : canGo s (other ds d p) = true) : stepR ds op t (n+1) s p d = (routesN ds op t n (s.set (other ds d p).toNat true) (other ds d p)).map (d :: ·) := routesBy_yes h
theorem take_more {α : Type} {l k : List α} {n : Nat} (h : (l.take n).length < n) : (l ++ k).take n = l.take n ++ k.take (n - (l.take n).length) := by
  rw [List.length_take] at h
  rw [List.take_append, List.length_take]
  congr 2
  omega
theorem take_stop {α : Type} {l k : List α} {n : Nat} (h : ¬ (l.take n).length < n) : (l ++ k).take n = l.take n := by
  rw [List.length_take] at h
  rw [List.take_append_of_le_length (by omega)]
theorem partR_stop {ds : List (List Int)} {op : List Int} {t : Int} {m : Nat} {s : List Bool} {p : Int} {k n : Nat} (hp : p ≠ t) (hk : k ≤ op.length) (h : ¬ ((partR ds op t m s p k).take n).length < n) : (partR ds op t m s p k).take n = (routesN ds op t m s p).take n := by
  rw [← partR_all hp]
  have : partR ds op t m s p op.length = partR ds op t m s p k ++ (op.drop k).flatMap (stepR ds op t m s p) := by
    unfold partR
    rw [List.take_length, ← List.flatMap_append, List.take_append_drop]
  rw [this, take_stop h]
theorem Marked.next {c : Nat} {rs : List Int} {s : List Bool} (h : Marked c rs s) {q : Int} (h0 : 0 ≤ q) (hq : q < c) : Marked c (rs ++ [q]) (s.set q.toNat true) := by
  obtain ⟨h1, h2⟩ := h
  refine ⟨by simpa using h1, fun x hx hxc => ?_⟩
  have e : has (rs ++ [q]) x = (has rs x || decide (q = x)) := by
    rw [Bool.eq_iff_iff]
    simp [has]
  rw [e, h2 x hx hxc, List.getD_eq_getElem?_getD, List.getD_eq_getElem?_getD, List.getElem?_set]
  by_cases hqx : q = x
  · subst hqx; rw [if_pos rfl, if_pos (by omega)]; simp
  · rw [if_neg (by omega)]; simp [hqx]
theorem has_snoc_last {rs : List Int} {q : Int} : (rs ++ [q]).getLast? = some q := by simp
end Go.Proofs.Ytbkijealdjghgaa
