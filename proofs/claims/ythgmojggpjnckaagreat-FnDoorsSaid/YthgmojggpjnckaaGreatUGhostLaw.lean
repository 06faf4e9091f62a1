/- Proved: the openers of a lock, its ghosts, and how many each door has (plain). -/
import Derived.Test.YthgmojggpjnckaaGreatUPkF1
import Derived.Test.YthgmojggpjnckaaGreatUDoorsOp
import Derived.Test.YthgmojggpjnckaaGreatUMostLaw
import Derived.Test.YthgmojggpjnckaaGreatUPkF2
import Derived.Test.YthgmojggpjnckaaGreatUCountSpec
namespace Go.Proofs.YthgmojggpjnckaaGreat
open Go.ChangeShapes Go.WideShapes Go.ChangeAt Go.RowKit
set_option linter.unusedVariables false

/-- the keys that open a lock, begin with pre and have r more cuts, in order -/
def opsR (mk : MK) (l : List (List Int)) : Nat → List Int → List (List Int)
  | 0, pre => if begins mk pre = true then (if mk.l ≤ (kinds pre : Int) then [pre] else []) else []
  | r + 1, pre => if begins mk pre = true then (l.getD pre.length []).flatMap fun (d : Int) => opsR mk l r (pre ++ [d]) else []
theorem opsR_zero (mk : MK) (l : List (List Int)) (pre : List Int) : opsR mk l 0 pre = if begins mk pre = true then (if mk.l ≤ (kinds pre : Int) then [pre] else []) else [] := rfl
theorem opsR_succ (mk : MK) (l : List (List Int)) (r : Nat) (pre : List Int) : opsR mk l (r + 1) pre = if begins mk pre = true then (l.getD pre.length []).flatMap fun (d : Int) => opsR mk l r (pre ++ [d]) else [] := rfl
/-- .. of the first n next cuts -/
def opsTo (mk : MK) (l : List (List Int)) (r : Nat) (pre set : List Int) (n : Nat) : List (List Int) := (set.take n).flatMap fun (d : Int) => opsR mk l r (pre ++ [d])
theorem opsTo_zero (mk : MK) (l : List (List Int)) (r : Nat) (pre set : List Int) : opsTo mk l r pre set 0 = [] := rfl
theorem opsTo_succ (mk : MK) (l : List (List Int)) (r : Nat) (pre set : List Int) {n : Nat} (h : n < set.length) : opsTo mk l r pre set (n + 1) = opsTo mk l r pre set n ++ opsR mk l r (pre ++ [set.getD n 0]) := by
  unfold opsTo
  have e : set.take (n + 1) = set.take n ++ [set.getD n 0] := by rw [List.take_add_one, List.getElem?_eq_getElem h]; simp [h]
  rw [e, List.flatMap_append]
  simp
theorem opsTo_all (mk : MK) (l : List (List Int)) (r : Nat) (pre set : List Int) : opsTo mk l r pre set set.length = set.flatMap fun (d : Int) => opsR mk l r (pre ++ [d]) := by
  unfold opsTo; rw [List.take_length]
theorem flat_len {α β : Type} {f : α → List β} {m : Nat} (h : ∀ x, (f x).length ≤ m) : ∀ (l : List α), (l.flatMap f).length ≤ l.length * m
  | [] => by simp
  | a :: l => by
    rw [List.flatMap_cons, List.length_append, List.length_cons, Nat.succ_mul]
    have := flat_len h l
    have := h a
    omega
theorem opsR_len (mk : MK) {l : List (List Int)} (hl : ∀ i, (l.getD i []).length ≤ 8) : ∀ (r : Nat) (pre : List Int), (opsR mk l r pre).length ≤ 8 ^ r
  | 0, pre => by
    rw [opsR_zero]
    split
    · split <;> simp
    · simp
  | r + 1, pre => by
    rw [opsR_succ]
    split
    · have h1 := flat_len (f := fun (d : Int) => opsR mk l r (pre ++ [d])) (fun d => opsR_len mk hl r (pre ++ [d])) (l.getD pre.length [])
      have h2 : (l.getD pre.length []).length * 8 ^ r ≤ 8 * 8 ^ r := Nat.mul_le_mul_right _ (hl _)
      rw [Nat.pow_succ, Nat.mul_comm (8 ^ r) 8]
      omega
    · simp
theorem opsTo_len (mk : MK) {l : List (List Int)} (hl : ∀ i, (l.getD i []).length ≤ 8) (r : Nat) (pre set : List Int) (n : Nat) : (opsTo mk l r pre set n).length ≤ n * 8 ^ r := by
  unfold opsTo
  have h1 := flat_len (f := fun (d : Int) => opsR mk l r (pre ++ [d])) (fun d => opsR_len mk hl r (pre ++ [d])) (set.take n)
  have h2 : (set.take n).length * 8 ^ r ≤ n * 8 ^ r := Nat.mul_le_mul_right _ (List.length_take_le _ _)
  omega
theorem opsR_row (mk : MK) {l : List (List Int)} : ∀ (r : Nat) (pre : List Int), ∀ k ∈ opsR mk l r pre, k.length = pre.length + r
  | 0, pre, k, h => by
    rw [opsR_zero] at h
    split at h
    · split at h
      · rw [List.mem_singleton.1 h]; rfl
      · simp at h
    · simp at h
  | r + 1, pre, k, h => by
    rw [opsR_succ] at h
    split at h
    · obtain ⟨d, -, hd⟩ := List.mem_flatMap.1 h
      have := opsR_row mk r (pre ++ [d]) k hd
      simp at this
      omega
    · simp at h

/-- cuts from j on lie in the lock -/
def opensFrom (l : List (List Int)) (k : List Int) (j : Nat) : Bool := (List.range k.length).all fun i => decide (i < j) || has (l.getD i []) (k.getD i 0)
theorem opensFrom_zero (l : List (List Int)) (k : List Int) : opensFrom l k 0 = opensB l k := by
  unfold opensFrom opensB
  congr 1
theorem opensFrom_end (l : List (List Int)) (k : List Int) {j : Nat} (h : k.length ≤ j) : opensFrom l k j = true := by
  unfold opensFrom
  rw [List.all_eq_true]
  intro i hi
  have := List.mem_range.1 hi
  rw [decide_eq_true (by omega)]; rfl
theorem opensFrom_step (l : List (List Int)) (k : List Int) {j : Nat} (h : j < k.length) : opensFrom l k j = (has (l.getD j []) (k.getD j 0) && opensFrom l k (j + 1)) := by
  rw [Bool.eq_iff_iff, Bool.and_eq_true]
  unfold opensFrom
  rw [List.all_eq_true, List.all_eq_true]
  constructor
  · intro hh
    refine ⟨?_, fun i hi => ?_⟩
    · have := hh j (List.mem_range.2 h)
      rw [decide_eq_false (by omega)] at this
      simpa using this
    · have := hh i hi
      by_cases hij : i < j
      · rw [decide_eq_true (by omega)]; rfl
      · rw [decide_eq_false hij] at this
        rw [show has (l.getD i []) (k.getD i 0) = true by simpa using this, Bool.or_true]
  · rintro ⟨h1, h2⟩ i hi
    have := h2 i hi
    by_cases hij : i < j
    · rw [decide_eq_true hij]; rfl
    · by_cases he : i = j
      · subst he; rw [h1, Bool.or_true]
      · rw [decide_eq_false (by omega)] at this
        rw [show has (l.getD i []) (k.getD i 0) = true by simpa using this, Bool.or_true]
theorem flat_congr {α β : Type} {f g : α → List β} : ∀ {l : List α}, (∀ x ∈ l, f x = g x) → l.flatMap f = l.flatMap g
  | [], _ => rfl
  | a :: l, h => by
    rw [List.flatMap_cons, List.flatMap_cons, h a List.mem_cons_self, flat_congr (fun x hx => h x (List.mem_cons_of_mem _ hx))]
theorem flat_filter {α β : Type} {f : α → List β} {p : α → Bool} : ∀ (l : List α), (l.filter p).flatMap f = l.flatMap fun x => if p x = true then f x else []
  | [] => rfl
  | a :: l => by
    rw [List.flatMap_cons, ← flat_filter l]
    cases h : p a with
    | true => rw [List.filter_cons_of_pos h, List.flatMap_cons, if_pos rfl]
    | false => rw [List.filter_cons_of_neg (by rw [h]; decide), if_neg (by decide)]; rfl
theorem filter_flat {α β : Type} {f : α → List β} {p : β → Bool} : ∀ (l : List α), (l.flatMap f).filter p = l.flatMap fun x => (f x).filter p
  | [] => rfl
  | a :: l => by rw [List.flatMap_cons, List.filter_append, filter_flat l, List.flatMap_cons]
theorem filter_none {α : Type} {p : α → Bool} : ∀ {l : List α}, (∀ x ∈ l, p x = false) → l.filter p = []
  | [], _ => rfl
  | a :: l, h => by
    rw [List.filter_cons_of_neg (by rw [h a List.mem_cons_self]; decide), filter_none (fun x hx => h x (List.mem_cons_of_mem _ hx))]
theorem filter_same {α : Type} {p q : α → Bool} : ∀ {l : List α}, (∀ x ∈ l, p x = q x) → l.filter p = l.filter q
  | [], _ => rfl
  | a :: l, h => by
    have ih := filter_same (l := l) (fun x hx => h x (List.mem_cons_of_mem _ hx))
    have ha := h a List.mem_cons_self
    cases hq : q a with
    | true => rw [List.filter_cons_of_pos (by rw [ha, hq]), List.filter_cons_of_pos hq, ih]
    | false => rw [List.filter_cons_of_neg (by rw [ha, hq]; decide), List.filter_cons_of_neg (by rw [hq]; decide), ih]
theorem keysR_front {mk : MK} {D r : Nat} {pre k : List Int} (h : k ∈ keysR mk D r pre) : k.length = pre.length + r ∧ k.take pre.length = pre := by
  obtain ⟨A, B, h⟩ := List.append_of_mem h
  obtain ⟨h1, h2, -⟩ := keys_split r h
  exact ⟨h1, h2⟩
/-- the openers are those keys that open the lock -/
theorem opsR_eq {mk : MK} {D : Nat} {l : List (List Int)} (hl : ∀ i, i < mk.c.toNat → l.getD i [] = ((List.range D).filter fun (x : Nat) => has (l.getD i []) (x : Int)).map fun (x : Nat) => (x : Int)) :
    ∀ (r : Nat) (pre : List Int), pre.length + r = mk.c.toNat → opsR mk l r pre = (keysR mk D r pre).filter fun k => opensFrom l k pre.length
  | 0, pre, _ => by
    rw [opsR_zero, keysR_zero]
    split
    · split
      · rw [List.filter_cons_of_pos (p := fun k => opensFrom l k pre.length) (opensFrom_end l pre (Nat.le_refl _))]; rfl
      · rfl
    · rfl
  | r + 1, pre, h => by
    rw [opsR_succ, keysR_succ]
    split
    · unfold sweep
      rw [List.drop_zero, filter_flat, hl pre.length (by omega), List.flatMap_map, flat_filter]
      refine flat_congr (fun x _ => ?_)
      have key : ∀ k ∈ keysR mk D r (pre ++ [(x : Int)]), opensFrom l k pre.length = (has (l.getD pre.length []) (x : Int) && opensFrom l k (pre ++ [(x : Int)]).length) := fun k hk => by
        obtain ⟨h1, h2⟩ := keysR_front hk
        rw [List.length_append, List.length_singleton] at h1 h2 ⊢
        rw [opensFrom_step l k (by omega)]
        have e : k.getD pre.length 0 = (x : Int) := by
          have e1 : (k.take (pre.length + 1)).getD pre.length 0 = (x : Int) := by rw [h2]; simp
          rw [List.getD_eq_getElem?_getD, List.getElem?_take, if_pos (by omega)] at e1
          rw [List.getD_eq_getElem?_getD]; exact e1
        rw [e]
      cases hx : has (l.getD pre.length []) (x : Int) with
      | true =>
        rw [if_pos rfl, opsR_eq hl r (pre ++ [(x : Int)]) (by rw [List.length_append, List.length_singleton]; omega)]
        refine filter_same (fun k hk => ?_)
        rw [key k hk, hx, Bool.true_and]
      | false =>
        rw [if_neg (by decide)]
        refine (filter_none (fun k hk => ?_)).symm
        rw [key k hk, hx, Bool.false_and]
    · rfl
theorem setAt_form (ks : List (List Int)) (i D : Nat) : setAt ks i D = ((List.range D).filter fun (x : Nat) => has (setAt ks i D) (x : Int)).map fun (x : Nat) => (x : Int) := by
  have h : ((List.range D).filter fun (x : Nat) => has (setAt ks i D) (x : Int)) = (List.range D).filter fun (x : Nat) => ks.any fun r => r.getD i 0 == (x : Int) := by
    refine filter_same (fun x hx => ?_)
    have hx := List.mem_range.1 hx
    rw [Bool.eq_iff_iff, has_iff, setAt_mem, List.any_eq_true]
    constructor
    · rintro ⟨-, r, hr, he⟩; exact ⟨r, hr, by simpa using he⟩
    · rintro ⟨r, hr, he⟩; exact ⟨by omega, r, hr, by simpa using he⟩
  rw [h]; rfl
theorem lock_form {mk : MK} {t cuts : List (List Int)} {d : Nat} (hd : d < doorsOf t) {i : Nat} (hi : i < mk.c.toNat) : ((locks mk t cuts).getD d []).getD i [] = ((List.range mk.d.toNat).filter fun (x : Nat) => has (((locks mk t cuts).getD d []).getD i []) (x : Int)).map fun (x : Nat) => (x : Int) := by
  rw [lock_at hd, hull_at hi]
  exact setAt_form _ _ _
theorem openers_eq {mk : MK} {t cuts : List (List Int)} {d : Nat} (hd : d < doorsOf t) : opsR mk ((locks mk t cuts).getD d []) mk.c.toNat [] = (allK mk).filter (opensB ((locks mk t cuts).getD d [])) := by
  rw [opsR_eq (D := mk.d.toNat) (fun i hi => lock_form hd hi) mk.c.toNat [] (by simp)]
  unfold allK
  exact filter_same (fun k _ => opensFrom_zero _ k)
/-- the keys that are not cut and open a lock -/
def ghostN (mk : MK) (cuts : List (List Int)) (l : List (List Int)) : Nat := (((allK mk).filter fun k => !hasL cuts k).filter (opensB l)).length
def ghosts (mk : MK) (t cuts : List (List Int)) : List Int := (List.range (doorsOf t)).map fun d => (ghostN mk cuts ((locks mk t cuts).getD d []) : Int)
theorem ghosts_len (mk : MK) (t cuts : List (List Int)) : (ghosts mk t cuts).length = doorsOf t := by simp [ghosts]
theorem ghosts_at {mk : MK} {t cuts : List (List Int)} {d : Nat} (h : d < doorsOf t) : (ghosts mk t cuts).getD d 0 = (ghostN mk cuts ((locks mk t cuts).getD d []) : Int) := by simp [ghosts, h]
theorem ghostN_le {mk : MK} (ok : MkOk mk) (cuts l : List (List Int)) : ghostN mk cuts l ≤ 262144 := by
  unfold ghostN
  have h1 := List.length_filter_le (opensB l) ((allK mk).filter fun k => !hasL cuts k)
  have h2 := List.length_filter_le (fun k => !hasL cuts k) (allK mk)
  have h3 := allK_length ok
  omega
theorem ghostN_spec {mk : MK} {t cuts : List (List Int)} {d : Nat} (hd : d < doorsOf t) : ((opsR mk ((locks mk t cuts).getD d []) mk.c.toNat []).filter fun k => !hasL cuts k).length = ghostN mk cuts ((locks mk t cuts).getD d []) := by
  rw [openers_eq hd]
  unfold ghostN
  rw [List.filter_filter, List.filter_filter]
  congr 1
  exact filter_same (fun k _ => Bool.and_comm _ _)
theorem ghosts_i64 {mk : MK} (ok : MkOk mk) (t cuts : List (List Int)) : ∀ x ∈ ghosts mk t cuts, I64 x := fun x hx => by
  unfold ghosts at hx
  obtain ⟨d, -, rfl⟩ := List.mem_map.1 hx
  have := ghostN_le ok cuts ((locks mk t cuts).getD d [])
  unfold I64; omega

/-- one more for door d -/
def bumpG (l : List Int) (d : Int) : List Int := l.set d.toNat (IntKind.i64.wrap (l.getD d.toNat 0 + 1))
theorem bumpG_len (l : List Int) (d : Int) : (bumpG l d).length = l.length := by simp [bumpG]
def bumps (s : List Int) (ds : List Int) (n : Nat) : List Int := (ds.take n).foldl bumpG s
theorem bumps_zero (s ds : List Int) : bumps s ds 0 = s := rfl
theorem bumps_succ (s ds : List Int) {n : Nat} (h : n < ds.length) : bumps s ds (n + 1) = bumpG (bumps s ds n) (ds.getD n 0) := by
  unfold bumps
  have e : ds.take (n + 1) = ds.take n ++ [ds.getD n 0] := by rw [List.take_add_one, List.getElem?_eq_getElem h]; simp [h]
  rw [e, List.foldl_append]; rfl
theorem bumps_len (s ds : List Int) (n : Nat) : (bumps s ds n).length = s.length := by
  unfold bumps
  generalize ds.take n = l
  induction l generalizing s with
  | nil => rfl
  | cons a l ih => rw [List.foldl_cons, ih, bumpG_len]
/-- what a visit of a key that is not cut does -/
def ghostStep (ls : List (List (List Int))) (s : List Int) (k : List Int) : List Int := bumps s (openedB ls k ls.length) (openedB ls k ls.length).length
def ghostMore (_ : List Int) (_ : List Int) : Bool := true
def cntOf (ls : List (List (List Int))) (L : List (List Int)) : List Int := (List.range ls.length).map fun d => ((L.filter (opensB (ls.getD d []))).length : Int)
theorem foldl_upto {p : Int → Bool} {s0 : List Int} {N : Nat} (hs : s0.length = N) (hb : ∀ d, d < N → 0 ≤ s0.getD d 0 ∧ s0.getD d 0 < 1000000) : ∀ (n : Nat), n ≤ N → ((upto p n).foldl bumpG s0).length = N ∧ ∀ d, d < N → ((upto p n).foldl bumpG s0).getD d 0 = s0.getD d 0 + (if d < n ∧ p d = true then 1 else 0)
  | 0, _ => ⟨by rw [upto_zero]; exact hs, fun d _ => by rw [upto_zero, if_neg (by omega)]; simp⟩
  | n + 1, hn => by
    obtain ⟨i1, i2⟩ := foldl_upto (p := p) hs hb n (by omega)
    cases hp : p (n : Int) with
    | true =>
      rw [upto_yes hp, List.foldl_append]
      generalize hS : (upto p n).foldl bumpG s0 = S at *
      show (bumpG S (n : Int)).length = N ∧ ∀ d, d < N → (bumpG S (n : Int)).getD d 0 = _
      refine ⟨by rw [bumpG_len]; exact i1, fun d hd => ?_⟩
      have hn0 := i2 n (by omega)
      rw [if_neg (by omega)] at hn0
      have hbn := hb n (by omega)
      have hw : IntKind.i64.wrap (S.getD n 0 + 1) = S.getD n 0 + 1 := IntWalk.i64_in _ (by omega)
      unfold bumpG
      rw [Int.toNat_natCast, hw, List.getD_eq_getElem?_getD]
      by_cases he : d = n
      · subst he
        rw [List.getElem?_set_self (by omega), if_pos ⟨by omega, hp⟩]
        simp only [Option.getD_some]
        omega
      · rw [List.getElem?_set_ne (fun q => he q.symm), ← List.getD_eq_getElem?_getD, i2 d hd]
        by_cases hdn : d < n ∧ p (d : Int) = true
        · rw [if_pos hdn, if_pos ⟨by omega, hdn.2⟩]
        · rw [if_neg hdn, if_neg (fun q => hdn ⟨by omega, q.2⟩)]
    | false =>
      rw [upto_no hp]
      refine ⟨i1, fun d hd => ?_⟩
      rw [i2 d hd]
      by_cases he : d = n
      · subst he
        rw [if_neg (by omega), if_neg (fun q => by rw [hp] at q; exact absurd q.2 (by decide))]
      · by_cases hdn : d < n ∧ p (d : Int) = true
        · rw [if_pos hdn, if_pos ⟨by omega, hdn.2⟩]
        · rw [if_neg hdn, if_neg (fun q => hdn ⟨by omega, q.2⟩)]
theorem cntOf_len (ls : List (List (List Int))) (L : List (List Int)) : (cntOf ls L).length = ls.length := by simp [cntOf]
theorem cntOf_at (ls : List (List (List Int))) (L : List (List Int)) {d : Nat} (h : d < ls.length) : (cntOf ls L).getD d 0 = ((L.filter (opensB (ls.getD d []))).length : Int) := by simp [cntOf, h]
theorem ghostStep_cnt {ls : List (List (List Int))} {A : List (List Int)} {k : List Int} (hA : A.length < 1000000) : ghostStep ls (cntOf ls A) k = cntOf ls (A ++ [k]) := by
  unfold ghostStep bumps
  rw [List.take_length]
  unfold openedB
  obtain ⟨h1, h2⟩ := foldl_upto (p := openP ls k) (s0 := cntOf ls A) (N := ls.length) (cntOf_len ls A) (fun d hd => by
    rw [cntOf_at ls A hd]
    have := List.length_filter_le (opensB (ls.getD d [])) A
    omega) ls.length (Nat.le_refl _)
  refine List.ext_getElem (by rw [h1, cntOf_len]) (fun d g1 g2 => ?_)
  have hd : d < ls.length := by rw [cntOf_len] at g2; exact g2
  have h3 := h2 d hd
  rw [cntOf_at ls A hd] at h3
  have e1 : ∀ {l : List Int} (h : d < l.length), l[d] = l.getD d 0 := fun h => by simp [h]
  rw [e1 g1, e1 g2, h3, cntOf_at ls _ hd, List.filter_append, List.length_append]
  have hp : openP ls k (d : Int) = opensB (ls.getD d []) k := rfl
  rw [hp]
  cases hq : opensB (ls.getD d []) k with
  | true => rw [if_pos ⟨hd, rfl⟩, List.filter_cons_of_pos hq]; simp
  | false => rw [if_neg (fun q => by cases q.2), List.filter_cons_of_neg (by rw [hq]; decide)]; simp
theorem visits_ghost {ls : List (List (List Int))} : ∀ (L A : List (List Int)), A.length + L.length ≤ 1000000 → (visits (ghostStep ls) ghostMore (cntOf ls A) L).1 = cntOf ls (A ++ L)
  | [], A, _ => by rw [List.append_nil]; rfl
  | k :: L, A, h => by
    rw [List.length_cons] at h
    have e : visits (ghostStep ls) ghostMore (cntOf ls A) (k :: L) = visits (ghostStep ls) ghostMore (ghostStep ls (cntOf ls A) k) L := rfl
    rw [e, ghostStep_cnt (by omega), visits_ghost L (A ++ [k]) (by rw [List.length_append, List.length_singleton]; omega), List.append_assoc]; rfl
theorem cntOf_nil (ls : List (List (List Int))) : cntOf ls [] = List.replicate ls.length 0 := by
  unfold cntOf
  refine List.ext_getElem (by simp) (fun d g1 g2 => ?_)
  simp
theorem cntOf_ghosts {mk : MK} {t cuts : List (List Int)} : cntOf (locks mk t cuts) ((allK mk).filter fun k => !hasL cuts k) = ghosts mk t cuts := by
  unfold cntOf ghosts ghostN
  rw [locks_len]
/-- the table of ghosts -/
def ghostTab (mk : MK) (t cuts : List (List Int)) : List Int × Int := if designCode mk t cuts ≠ 0 then ([], designCode mk t cuts) else (ghosts mk t cuts, 0)
theorem ghostTab_bad {mk : MK} {t cuts : List (List Int)} (h : designCode mk t cuts ≠ 0) : ghostTab mk t cuts = ([], designCode mk t cuts) := by unfold ghostTab; rw [if_pos h]
theorem ghostTab_ok {mk : MK} {t cuts : List (List Int)} (h : designCode mk t cuts = 0) : ghostTab mk t cuts = (ghosts mk t cuts, 0) := by unfold ghostTab; rw [if_neg (by omega)]
end Go.Proofs.YthgmojggpjnckaaGreat
