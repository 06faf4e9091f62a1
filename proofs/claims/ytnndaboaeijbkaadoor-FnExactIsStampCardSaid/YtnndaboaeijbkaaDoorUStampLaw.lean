/- Proved: the text of a stamp (plain). -/
import Derived.Test.YtnndaboaeijbkaaDoorUPkW
namespace Go.Proofs.YtnndaboaeijbkaaDoor
open Go.ChangeShapes Go.WideShapes Go.ChangeAt Go.RowKit
set_option linter.unusedVariables false

theorem dec_mono : ∀ (m n : Nat), n ≤ m → (Lib.decDigits n).length ≤ (Lib.decDigits m).length := by
  intro m
  induction m using Nat.strongRecOn with
  | _ m ih =>
    intro n h
    by_cases h1 : n < 10
    · rw [dec_one h1]
      by_cases h2 : m < 10
      · rw [dec_one h2]; simp
      · rw [dec_more h2]; simp
    · rw [dec_more h1, dec_more (show ¬ m < 10 by omega), List.length_append, List.length_append]
      have := ih (m / 10) (by omega) (n / 10) (by omega)
      simp only [List.length_singleton]
      omega
theorem dec_pos (n : Nat) : 1 ≤ (Lib.decDigits n).length := by
  have h := dec_mono n 0 (Nat.zero_le _)
  rw [dec_one (show 0 < 10 by decide), List.length_singleton] at h
  exact h
theorem dec_le6 {n : Nat} (h : n ≤ 999999) : (Lib.decDigits n).length ≤ 6 := by
  refine Nat.le_trans (dec_mono 999999 n h) ?_
  rw [dec_more (by decide), dec_more (by decide), dec_more (by decide), dec_more (by decide), dec_more (by decide), dec_one (by decide)]
  simp
theorem dec_le2 {n : Nat} (h : n ≤ 99) : (Lib.decDigits n).length ≤ 2 := by
  refine Nat.le_trans (dec_mono 99 n h) ?_
  rw [dec_more (by decide), dec_one (by decide)]
  simp
theorem dec_digit (n : Nat) : ∀ x ∈ Lib.decDigits n, 48 ≤ x.toNat ∧ x.toNat ≤ 57 := by
  have h1 : ∀ k, k < 10 → 48 ≤ (UInt8.ofNat (48 + k)).toNat ∧ (UInt8.ofNat (48 + k)).toNat ≤ 57 := by
    intro k hk
    rw [UInt8.toNat_ofNat', Nat.mod_eq_of_lt (by omega)]
    omega
  induction n using Nat.strongRecOn with
  | _ n ih =>
    by_cases h : n < 10
    · rw [dec_one h]
      intro x hx
      rw [List.mem_singleton.1 hx]
      exact h1 n h
    · rw [dec_more h]
      intro x hx
      rcases List.mem_append.1 hx with hx | hx
      · exact ih (n / 10) (by omega) x hx
      · rw [List.mem_singleton.1 hx]
        exact h1 (n % 10) (Nat.mod_lt _ (by decide))
/-- a number with at least k digits -/
def padD (n k : Nat) : List UInt8 := List.replicate (k - (Lib.decDigits n).length) 48 ++ Lib.decDigits n
def padV (n k : Nat) : Value := .string ⟨(padD n k).toArray⟩
theorem padD_len {n k : Nat} (h : (Lib.decDigits n).length ≤ k) : (padD n k).length = k := by
  unfold padD
  rw [List.length_append, List.length_replicate]
  omega
theorem padD_digit {n k : Nat} : ∀ x ∈ padD n k, 48 ≤ x.toNat ∧ x.toNat ≤ 57 := by
  intro x hx
  unfold padD at hx
  rcases List.mem_append.1 hx with hx | hx
  · rw [(List.mem_replicate.1 hx).2]; decide
  · exact dec_digit n x hx
/-- a stamp: a letter, a number, a check number -/
def stampD (W ser num : Nat) : List UInt8 := UInt8.ofNat (65 + ser) :: (padD num W ++ 45 :: padD ((100 * num + ser) % 97) 2)
def stampV (W ser num : Nat) : Value := .string ⟨(stampD W ser num).toArray⟩
theorem stampD_len {W ser num : Nat} (h : (Lib.decDigits num).length ≤ W) : (stampD W ser num).length = W + 4 := by
  unfold stampD
  have h2 : (100 * num + ser) % 97 < 97 := Nat.mod_lt _ (by decide)
  rw [List.length_cons, List.length_append, List.length_cons, padD_len h, padD_len (dec_le2 (by omega))]
theorem stampD_digit {W ser num : Nat} (h : (Lib.decDigits num).length ≤ W) {i : Nat} (h1 : 1 ≤ i) (h2 : i ≤ W) : 48 ≤ ((stampD W ser num).getD i 0).toNat ∧ ((stampD W ser num).getD i 0).toNat ≤ 57 := by
  obtain ⟨j, rfl⟩ : ∃ j, i = j + 1 := ⟨i - 1, by omega⟩
  unfold stampD
  have hl := padD_len h
  have e : (UInt8.ofNat (65 + ser) :: (padD num W ++ 45 :: padD ((100 * num + ser) % 97) 2)).getD (j + 1) 0 = (padD num W)[j]'(by omega) := by
    rw [List.getD_cons_succ, List.getD_eq_getElem?_getD, List.getElem?_append_left (by omega), List.getElem?_eq_getElem (by omega)]
    rfl
  rw [e]
  exact padD_digit _ (List.getElem_mem _)
/-- byte i of a text -/
def byteN (s : List UInt8) (i : Nat) : Nat := (s.getD i 0).toNat
theorem byteN_lt (s : List UInt8) (i : Nat) : byteN s i < 256 := UInt8.toNat_lt _
/-- the number that bytes 1 to i tell -/
def numI (s : List UInt8) : Nat → Int
  | 0 => 0
  | i + 1 => numI s i * 10 + (byteN s (i + 1) : Int) - 48
theorem numI_succ (s : List UInt8) (i : Nat) : numI s (i + 1) = numI s i * 10 + (byteN s (i + 1) : Int) - 48 := rfl
theorem numI_in (s : List UInt8) : ∀ i, i ≤ 7 → -1000000000 ≤ numI s i ∧ numI s i ≤ 1000000000 := by
  have h : ∀ i, -6 * ((10 ^ i : Nat) : Int) + 6 ≤ numI s i ∧ numI s i ≤ 23 * ((10 ^ i : Nat) : Int) - 23 := by
    intro i
    induction i with
    | zero => constructor <;> simp [numI]
    | succ i ih =>
      have hb := byteN_lt s (i + 1)
      rw [numI_succ, Nat.pow_succ]
      omega
  intro i hi
  have h1 := h i
  have h2 : 10 ^ i ≤ 10 ^ 7 := Nat.pow_le_pow_right (by decide) hi
  have h3 : 10 ^ 7 = 10000000 := by decide
  omega
/-- whether a text is a stamp: W digits of the number N of the keys -/
def readB (W N : Nat) (s : List UInt8) : Bool :=
  decide (s.length = W + 4 ∧ 65 ≤ byteN s 0 ∧ byteN s 0 ≤ 90 ∧ 0 ≤ numI s W ∧ numI s W < N) && (stampD W (byteN s 0 - 65) (numI s W).toNat == s)
theorem readB_yes {W N : Nat} {s : List UInt8} (h : readB W N s = true) : s.length = W + 4 ∧ 65 ≤ byteN s 0 ∧ byteN s 0 ≤ 90 ∧ 0 ≤ numI s W ∧ numI s W < N ∧ stampD W (byteN s 0 - 65) (numI s W).toNat = s := by
  unfold readB at h
  rw [Bool.and_eq_true, decide_eq_true_iff, beq_iff_eq] at h
  obtain ⟨⟨h1, h2, h3, h4, h5⟩, h6⟩ := h
  exact ⟨h1, h2, h3, h4, h5, h6⟩
theorem readB_no {W N : Nat} {s : List UInt8} (h : ¬ (s.length = W + 4 ∧ 65 ≤ byteN s 0 ∧ byteN s 0 ≤ 90 ∧ 0 ≤ numI s W ∧ numI s W < N)) : readB W N s = false := by
  unfold readB; rw [decide_eq_false h]; rfl
theorem readB_is {W N : Nat} {s : List UInt8} (h : s.length = W + 4 ∧ 65 ≤ byteN s 0 ∧ byteN s 0 ≤ 90 ∧ 0 ≤ numI s W ∧ numI s W < N) : readB W N s = (stampD W (byteN s 0 - 65) (numI s W).toNat == s) := by
  unfold readB; rw [decide_eq_true h]; rfl
/-- a byte that is no digit -/
theorem readB_digit {W N : Nat} (hW : W = (Lib.decDigits N).length) {s : List UInt8} {i : Nat} (h1 : 1 ≤ i) (h2 : i ≤ W) (h : byteN s i < 48 ∨ 57 < byteN s i) : readB W N s = false := by
  cases hq : readB W N s with
  | false => rfl
  | true =>
    exfalso
    obtain ⟨-, -, -, h4, h5, h6⟩ := readB_yes hq
    have hd : (Lib.decDigits (numI s W).toNat).length ≤ W := by
      have h7 : (numI s W).toNat ≤ N := by omega
      have h8 := dec_mono N _ h7
      omega
    have := stampD_digit (ser := byteN s 0 - 65) hd h1 h2
    rw [h6] at this
    unfold byteN at h
    omega
end Go.Proofs.YtnndaboaeijbkaaDoor
