/- Proved: the least list that has something: the first one of all lists in order, or the best one of all sets. -/
import Derived.Test.YtbkijealdjghgaaUPkA
namespace Go.Proofs.Ytbkijealdjghgaa
open Go.ChangeShapes Go.WideShapes Go.ChangeAt Go.RowKit
set_option linter.unusedVariables false

/-- how slices.Compare compares -/
def cmpL : List Int → List Int → Int
  | [], [] => 0
  | [], _ :: _ => -1
  | _ :: _, [] => 1
  | a :: s, b :: t => if a < b then -1 else if b < a then 1 else cmpL s t
theorem cmpL_self : ∀ a, cmpL a a = 0
  | [] => rfl
  | a :: s => by simp [cmpL, cmpL_self s]
theorem cmpL_trans : ∀ {a b c : List Int}, cmpL a b < 0 → cmpL b c < 0 → cmpL a c < 0
  | [], [], _, h, _ => by simp [cmpL] at h
  | [], _ :: _, [], _, h => by simp [cmpL] at h
  | [], _ :: _, _ :: _, _, _ => by simp [cmpL]
  | _ :: _, [], _, h, _ => by simp [cmpL] at h
  | _ :: _, _ :: _, [], _, h => by simp [cmpL] at h
  | a :: s, b :: t, c :: u, h1, h2 => by
    simp only [cmpL] at *
    split at h1
    · split at h2
      · rw [if_pos (by omega)]; decide
      · split at h2
        · omega
        · rw [if_pos (by omega)]; decide
    · split at h1
      · omega
      · split at h2
        · rw [if_pos (by omega)]; decide
        · split at h2
          · omega
          · rw [if_neg (by omega), if_neg (by omega)]; exact cmpL_trans h1 h2
theorem cmpL_rng : ∀ a b, cmpL a b = -1 ∨ cmpL a b = 0 ∨ cmpL a b = 1
  | [], [] => by simp [cmpL]
  | [], _ :: _ => by simp [cmpL]
  | _ :: _, [] => by simp [cmpL]
  | a :: s, b :: t => by
    simp only [cmpL]
    split
    · simp
    · split
      · simp
      · exact cmpL_rng s t

/-- fewer elements, or as many and less -/
def lessL (a b : List Int) : Bool := decide (a.length < b.length) || (decide (a.length = b.length) && decide (cmpL a b < 0))
theorem lessL_iff {a b : List Int} : lessL a b = true ↔ a.length < b.length ∨ (a.length = b.length ∧ cmpL a b < 0) := by simp [lessL]
theorem lessL_irrefl (a : List Int) : lessL a a = false := by simp [lessL, cmpL_self]
theorem lessL_trans {a b c : List Int} (h1 : lessL a b = true) (h2 : lessL b c = true) : lessL a c = true := by
  rw [lessL_iff] at *
  rcases h1 with h1 | ⟨h1, h1'⟩ <;> rcases h2 with h2 | ⟨h2, h2'⟩
  · left; omega
  · left; omega
  · left; omega
  · right; exact ⟨by omega, cmpL_trans h1' h2'⟩

/-- the best one of some lists -/
def bestStep (p : List Int → Bool) (best : Option (List Int)) (x : List Int) : Option (List Int) :=
  match best with
  | none => if p x = true then some x else none
  | some b => if (p x && lessL x b) = true then some x else some b
def bestOf (p : List Int → Bool) (l : List (List Int)) : Option (List Int) := l.foldl (bestStep p) none
def IsBest (p : List Int → Bool) (l : List (List Int)) : Option (List Int) → Prop
  | none => ∀ x ∈ l, p x = false
  | some b => b ∈ l ∧ p b = true ∧ ∀ x ∈ l, p x = true → lessL x b = false
theorem bestStep_is {p : List Int → Bool} {l : List (List Int)} {o : Option (List Int)} (h : IsBest p l o) (x : List Int) : IsBest p (l ++ [x]) (bestStep p o x) := by
  cases o with
  | none =>
    unfold bestStep
    simp only
    split
    · next hx =>
      refine ⟨by simp, hx, fun y hy hpy => ?_⟩
      rcases List.mem_append.1 hy with hy | hy
      · rw [h y hy] at hpy; cases hpy
      · rw [List.mem_singleton.1 hy]; exact lessL_irrefl x
    · next hx =>
      intro y hy
      rcases List.mem_append.1 hy with hy | hy
      · exact h y hy
      · rw [List.mem_singleton.1 hy]; simpa using hx
  | some b =>
    obtain ⟨h1, h2, h3⟩ := h
    unfold bestStep
    simp only
    split
    · next hx =>
      rw [Bool.and_eq_true] at hx
      refine ⟨by simp, hx.1, fun y hy hpy => ?_⟩
      rcases List.mem_append.1 hy with hy | hy
      · cases e : lessL y x with
        | false => rfl
        | true => have := h3 y hy hpy; rw [lessL_trans e hx.2] at this; cases this
      · rw [List.mem_singleton.1 hy]; exact lessL_irrefl x
    · next hx =>
      refine ⟨List.mem_append_left _ h1, h2, fun y hy hpy => ?_⟩
      rcases List.mem_append.1 hy with hy | hy
      · exact h3 y hy hpy
      · rw [List.mem_singleton.1 hy] at hpy ⊢
        simpa [hpy] using hx
theorem bestOf_is (p : List Int → Bool) (l : List (List Int)) : IsBest p l (bestOf p l) := by
  have : ∀ (l k : List (List Int)) (o : Option (List Int)), IsBest p k o → IsBest p (k ++ l) (l.foldl (bestStep p) o) := by
    intro l
    induction l with
    | nil => intro k o h; simpa using h
    | cons x l ih =>
      intro k o h
      have := ih (k ++ [x]) _ (bestStep_is h x)
      simpa using this
  have h := this l [] none (fun x hx => by simp at hx)
  rw [List.nil_append] at h
  exact h
theorem first_eq_best {p : List Int → Bool} {s l : List (List Int)} (hs : s.Pairwise (fun a b => lessL a b = true)) (hm : ∀ x, x ∈ s ↔ x ∈ l) : s.find? p = bestOf p l := by
  have hb := bestOf_is p l
  cases hf : s.find? p with
  | none =>
    rw [List.find?_eq_none] at hf
    cases ho : bestOf p l with
    | none => rfl
    | some b =>
      rw [ho] at hb
      exact absurd hb.2.1 (hf b ((hm b).2 hb.1))
  | some a =>
    obtain ⟨hpa, l1, l2, e, hno⟩ := List.find?_eq_some_iff_append.1 hf
    have has : a ∈ s := by rw [e]; simp
    cases ho : bestOf p l with
    | none =>
      rw [ho] at hb
      have := hb a ((hm a).1 has)
      rw [this] at hpa; cases hpa
    | some b =>
      rw [ho] at hb
      obtain ⟨h1, h2, h3⟩ := hb
      have hbs := (hm b).2 h1
      have hn := h3 a ((hm a).1 has) hpa
      rw [e] at hbs hs
      rcases List.mem_append.1 hbs with h | h
      · have := hno b h; rw [h2] at this; cases this
      · rcases List.mem_cons.1 h with h | h
        · rw [h]
        · have := (List.pairwise_cons.1 (List.pairwise_append.1 hs).2.1).1 b h
          rw [this] at hn; cases hn

/-! ### rising lists -/
def Rises (n : Nat) (x : List Int) : Prop := x.Pairwise (· < ·) ∧ ∀ y ∈ x, 0 ≤ y ∧ y < n
/-- all lists of k numbers below n, in order -/
def choices : Nat → Nat → List (List Int)
  | 0, _ => [[]]
  | k+1, n => (List.range (n - k)).flatMap fun f => (choices k (n - f - 1)).map fun r => (f : Int) :: r.map (· + f + 1)
theorem choices_zero (n : Nat) : choices 0 n = [[]] := rfl
def choicesBy (k n f : Nat) : List (List Int) := (choices k (n - f - 1)).map fun r => (f : Int) :: r.map (· + f + 1)
theorem choices_succ (k n : Nat) : choices (k+1) n = (List.range (n - k)).flatMap (choicesBy k n) := rfl
theorem rises_length {n : Nat} {x : List Int} (h : Rises n x) : x.length ≤ n := by
  obtain ⟨h1, h2⟩ := h
  have : ∀ (x : List Int) (lo : Nat), x.Pairwise (· < ·) → (∀ y ∈ x, (lo : Int) ≤ y ∧ y < n) → lo ≤ n → x.length + lo ≤ n := by
    intro x
    induction x with
    | nil => intro lo _ _ h; simpa using h
    | cons a x ih =>
      intro lo hp hy hlo
      obtain ⟨g1, g2⟩ := List.pairwise_cons.1 hp
      have ha := hy a (List.mem_cons_self ..)
      have := ih (a.toNat + 1) g2 (fun y hy' => by have := g1 y hy'; have := hy y (List.mem_cons_of_mem _ hy'); omega) (by omega)
      simp only [List.length_cons]; omega
  have := this x 0 h1 (fun y hy => by have := h2 y hy; omega) (Nat.zero_le _)
  omega
theorem mem_choices : ∀ {k n : Nat} {x : List Int}, x ∈ choices k n ↔ x.length = k ∧ Rises n x
  | 0, n, x => by
    simp only [choices, List.mem_singleton]
    constructor
    · rintro rfl; exact ⟨rfl, List.Pairwise.nil, by simp⟩
    · rintro ⟨h, _⟩; exact List.eq_nil_of_length_eq_zero h
  | k+1, n, x => by
    rw [choices_succ, List.mem_flatMap]
    constructor
    · rintro ⟨f, hf, hx⟩
      obtain ⟨r, hr, rfl⟩ := List.mem_map.1 hx
      obtain ⟨h1, h2, h3⟩ := mem_choices.1 hr
      have hfn := List.mem_range.1 hf
      refine ⟨by simp [h1], List.pairwise_cons.2 ⟨fun y hy => ?_, ?_⟩, fun y hy => ?_⟩
      · obtain ⟨q, hq, rfl⟩ := List.mem_map.1 hy
        have := h3 q hq; omega
      · rw [List.pairwise_map]; exact h2.imp (fun h => by omega)
      · rcases List.mem_cons.1 hy with rfl | hy
        · omega
        · obtain ⟨q, hq, rfl⟩ := List.mem_map.1 hy
          have := h3 q hq; omega
    · rintro ⟨h1, h2, h3⟩
      cases x with
      | nil => simp at h1
      | cons a r =>
        obtain ⟨g1, g2⟩ := List.pairwise_cons.1 h2
        have ha := h3 a (List.mem_cons_self ..)
        obtain ⟨f, rfl⟩ : ∃ f : Nat, a = f := ⟨a.toNat, by omega⟩
        have hm : r.map (· - (f : Int) - 1) ∈ choices k (n - f - 1) := by
          refine mem_choices.2 ⟨by simpa using h1, ?_, fun y hy => ?_⟩
          · rw [List.pairwise_map]; exact g2.imp (fun h => by omega)
          · obtain ⟨q, hq, rfl⟩ := List.mem_map.1 hy
            have := h3 q (List.mem_cons_of_mem _ hq)
            have := g1 q hq
            omega
        have hlen := rises_length (mem_choices.1 hm).2
        rw [(mem_choices.1 hm).1] at hlen
        refine ⟨f, List.mem_range.2 (by omega), List.mem_map.2 ⟨_, hm, ?_⟩⟩
        rw [List.map_map]
        congr 1
        conv => rhs; rw [← List.map_id r]
        exact List.map_congr_left (fun y _ => by simp only [Function.comp, id]; omega)
theorem cmpL_cons_self (a : Int) (s t : List Int) : cmpL (a :: s) (a :: t) = cmpL s t := by simp [cmpL]
theorem cmpL_map_add (c : Int) : ∀ s t : List Int, cmpL (s.map (· + c + 1)) (t.map (· + c + 1)) = cmpL s t
  | [], [] => rfl
  | [], _ :: _ => rfl
  | _ :: _, [] => rfl
  | a :: s, b :: t => by
    simp only [List.map_cons, cmpL, cmpL_map_add c s t]
    by_cases h : a < b
    · rw [if_pos h, if_pos (by omega)]
    · rw [if_neg h, if_neg (by omega)]
      by_cases h' : b < a
      · rw [if_pos h', if_pos (by omega)]
      · rw [if_neg h', if_neg (by omega)]
theorem choices_sorted : ∀ k n : Nat, (choices k n).Pairwise (fun a b => cmpL a b < 0)
  | 0, n => by simp [choices]
  | k+1, n => by
    rw [choices_succ, List.flatMap, List.pairwise_flatten]
    constructor
    · intro l hl
      obtain ⟨f, _, rfl⟩ := List.mem_map.1 hl
      unfold choicesBy
      rw [List.pairwise_map]
      exact (choices_sorted k _).imp (fun h => by rw [cmpL_cons_self, cmpL_map_add]; exact h)
    · rw [List.pairwise_map]
      refine List.pairwise_lt_range.imp (fun {f g} hfg x hx y hy => ?_)
      obtain ⟨r, _, rfl⟩ := List.mem_map.1 hx
      obtain ⟨q, _, rfl⟩ := List.mem_map.1 hy
      simp only [cmpL]
      rw [if_pos (by omega)]; decide
/-- all rising lists, fewer elements first -/
def allChoices (n : Nat) : List (List Int) := (List.range (n + 1)).flatMap fun k => choices k n
theorem mem_allChoices {n : Nat} {x : List Int} : x ∈ allChoices n ↔ Rises n x := by
  unfold allChoices
  rw [List.mem_flatMap]
  constructor
  · rintro ⟨k, _, h⟩; exact (mem_choices.1 h).2
  · intro h
    refine ⟨x.length, List.mem_range.2 ?_, mem_choices.2 ⟨rfl, h⟩⟩
    have := rises_length h
    omega
theorem allChoices_sorted (n : Nat) : (allChoices n).Pairwise (fun a b => lessL a b = true) := by
  unfold allChoices
  rw [List.flatMap, List.pairwise_flatten]
  constructor
  · intro l hl
    obtain ⟨k, _, rfl⟩ := List.mem_map.1 hl
    refine (choices_sorted k n).imp_of_mem (fun {a b} ha hb h => ?_)
    rw [lessL_iff]; right
    exact ⟨by rw [(mem_choices.1 ha).1, (mem_choices.1 hb).1], h⟩
  · rw [List.pairwise_map]
    refine List.pairwise_lt_range.imp (fun {f g} hfg x hx y hy => ?_)
    rw [lessL_iff]; left
    rw [(mem_choices.1 hx).1, (mem_choices.1 hy).1]; exact hfg

/-! ### sets told by bits -/
def bitsL (n s : Nat) : List Int := upto (fun i => s.testBit i.toNat) n
def allSets (n : Nat) : List (List Int) := (List.range (2 ^ n)).map (bitsL n)
theorem upto_pairwise (p : Int → Bool) (k : Nat) : (upto p k).Pairwise (· < ·) := by
  unfold upto
  rw [List.pairwise_map]
  exact List.Pairwise.imp (fun h => by omega) ((List.pairwise_lt_range).filter _)
theorem bitsL_rises (n s : Nat) : Rises n (bitsL n s) := ⟨upto_pairwise _ _, fun y hy => by have := upto_mem.1 hy; omega⟩
theorem bitsL_succ (n s : Nat) : bitsL (n+1) s = bitsL n s ++ if s.testBit n = true then [(n : Int)] else [] := by
  unfold bitsL
  split
  · next h => exact upto_yes (p := fun i : Int => s.testBit i.toNat) (by simpa using h)
  · next h => rw [upto_no (p := fun i : Int => s.testBit i.toNat) (by simpa using h), List.append_nil]
theorem bitsL_congr {n s t : Nat} (h : ∀ i, i < n → s.testBit i = t.testBit i) : bitsL n s = bitsL n t := by
  unfold bitsL upto
  congr 1
  refine List.filter_congr (fun i hi => ?_)
  have := h i (List.mem_range.1 hi)
  simpa using this
theorem rises_bits : ∀ {n : Nat} {x : List Int}, Rises n x → ∃ s, s < 2 ^ n ∧ bitsL n s = x
  | 0, x, ⟨_, h⟩ => by
    cases x with
    | nil => exact ⟨0, by simp, rfl⟩
    | cons a x => have := h a (List.mem_cons_self ..); omega
  | n+1, x, ⟨h1, h2⟩ => by
    by_cases hl : x.getLast? = some (n : Int)
    · obtain ⟨y, rfl⟩ := List.getLast?_eq_some_iff.1 hl
      obtain ⟨g1, g2, g3⟩ := List.pairwise_append.1 h1
      obtain ⟨s, hs, e⟩ := rises_bits (n := n) (x := y) ⟨g1, fun z hz => ⟨(h2 z (by simp [hz])).1, g3 z hz _ (by simp)⟩⟩
      refine ⟨2 ^ n + s, by rw [Nat.pow_succ]; omega, ?_⟩
      have hb : s.testBit n = false := Nat.testBit_lt_two_pow hs
      rw [bitsL_succ, Nat.testBit_two_pow_add_eq, hb]
      simp only [Bool.not_false, if_true]
      rw [← e]
      congr 1
      exact bitsL_congr (fun i hi => Nat.testBit_two_pow_add_gt hi s)
    · have hn : ∀ z ∈ x, 0 ≤ z ∧ z < n := fun z hz => by
        have := h2 z hz
        refine ⟨this.1, ?_⟩
        rcases List.eq_nil_or_concat x with rfl | ⟨y, a, rfl⟩
        · simp at hz
        · have e : (y.concat a).getLast? = some a := by simp
          have han : a ≠ n := fun e' => hl (by rw [e, e'])
          rw [List.concat_eq_append] at hz h1 h2
          have := h2 a (by simp)
          rcases List.mem_append.1 hz with hz | hz
          · have := (List.pairwise_append.1 h1).2.2 z hz a (by simp); omega
          · have : z = a := by simpa using hz
            omega
      obtain ⟨s, hs, e⟩ := rises_bits (n := n) (x := x) ⟨h1, hn⟩
      refine ⟨s, by rw [Nat.pow_succ]; omega, ?_⟩
      rw [bitsL_succ, Nat.testBit_lt_two_pow hs]
      simpa using e
theorem mem_allSets {n : Nat} {x : List Int} : x ∈ allSets n ↔ Rises n x := by
  unfold allSets
  rw [List.mem_map]
  constructor
  · rintro ⟨s, _, rfl⟩; exact bitsL_rises n s
  · intro h
    obtain ⟨s, hs, e⟩ := rises_bits h
    exact ⟨s, List.mem_range.2 hs, e⟩
/-- the first list in order that has it: the best one of all sets -/
theorem least_eq (p : List Int → Bool) (n : Nat) : (allChoices n).find? p = bestOf p (allSets n) :=
  first_eq_best (allChoices_sorted n) (fun _ => mem_allChoices.trans mem_allSets.symm)
theorem bitsL_stop {n k s : Nat} (hn : s < 2 ^ n) (hk : s < 2 ^ k) : bitsL k s = bitsL n s := by
  have h1 : ∀ j, bitsL (k + j) s = bitsL k s := fun j => by
    induction j with
    | zero => rfl
    | succ j ih =>
      rw [← Nat.add_assoc, bitsL_succ, Nat.testBit_lt_two_pow (Nat.lt_of_lt_of_le hk (Nat.pow_le_pow_right (by omega) (by omega))), ih]
      simp
  have h2 : ∀ j, bitsL (n + j) s = bitsL n s := fun j => by
    induction j with
    | zero => rfl
    | succ j ih =>
      rw [← Nat.add_assoc, bitsL_succ, Nat.testBit_lt_two_pow (Nat.lt_of_lt_of_le hn (Nat.pow_le_pow_right (by omega) (by omega))), ih]
      simp
  rw [← h1 n, ← h2 k, Nat.add_comm]
end Go.Proofs.Ytbkijealdjghgaa
