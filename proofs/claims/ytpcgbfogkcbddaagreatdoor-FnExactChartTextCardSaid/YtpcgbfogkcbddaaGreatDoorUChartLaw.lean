/- Proved: the lines of a chart (plain). -/
import Derived.Lib.Join
import Derived.Test.YtpcgbfogkcbddaaGreatDoorUTextNum
import Derived.Test.YtpcgbfogkcbddaaGreatDoorUSplitS
namespace Go.Proofs.YtpcgbfogkcbddaaGreatDoor
open Go.ChangeShapes Go.WideShapes Go.ChangeAt Go.RowKit
set_option linter.unusedVariables false

def numD (x : Int) : List UInt8 := Lib.decDigits x.toNat
def joinI (xs : List Int) (sep : List UInt8) : List UInt8 := Lib.join (xs.map numD) sep
/-- digits one behind the other -/
def digsD (xs : List Int) : List UInt8 := xs.map fun x => UInt8.ofNat (48 + x.toNat)
theorem strOf_app (a b : List UInt8) : strOf a ++ strOf b = strOf (a ++ b) := by
  apply ByteArray.ext
  rw [ByteArray.data_append]
  unfold strOf
  simp
theorem strOf_data (s : ByteArray) : strOf s.data.toList = s := by
  apply ByteArray.ext
  unfold strOf
  simp
theorem data_strOf (l : List UInt8) : (strOf l).data.toList = l := by unfold strOf; simp
theorem join_snoc (xs : List (List UInt8)) (y sep : List UInt8) : Lib.join (xs ++ [y]) sep = if xs = [] then y else Lib.join xs sep ++ (sep ++ y) := by
  cases xs with
  | nil => rw [if_pos rfl]; exact Lib.join_one y sep
  | cons x r =>
    rw [if_neg (by simp), List.cons_append, Lib.join_cons, Lib.join_cons]
    unfold Lib.joinTail
    simp [List.append_assoc]
theorem numD_digit {x : Int} (h : 0 ≤ x ∧ x < 10) : numD x = [UInt8.ofNat (48 + x.toNat)] := dec_one (by omega)
theorem joinI_digs : ∀ {xs : List Int}, (∀ x ∈ xs, 0 ≤ x ∧ x < 10) → joinI xs [] = digsD xs
  | [], _ => rfl
  | x :: r, h => by
    have h1 : Lib.joinTail [] (r.map numD) = digsD r := by
      have hr : ∀ y ∈ r, 0 ≤ y ∧ y < 10 := fun y hy => h y (List.mem_cons_of_mem _ hy)
      clear h
      induction r with
      | nil => rfl
      | cons y r ih =>
        have e : Lib.joinTail [] ((y :: r).map numD) = numD y ++ Lib.joinTail [] (r.map numD) := by unfold Lib.joinTail; simp
        rw [e, ih (fun z hz => hr z (List.mem_cons_of_mem _ hz)), numD_digit (hr y (by simp))]
        rfl
    unfold joinI
    rw [List.map_cons, Lib.join_cons, h1, numD_digit (h x (by simp))]
    rfl
theorem join_len (sep : List UInt8) (m : Nat) : ∀ (xs : List (List UInt8)), (∀ x ∈ xs, x.length ≤ m) → (Lib.join xs sep).length ≤ xs.length * (m + sep.length)
  | [], _ => by simp [Lib.join]
  | x :: r, h => by
    have hr : ∀ (l : List (List UInt8)), (∀ y ∈ l, y.length ≤ m) → (Lib.joinTail sep l).length ≤ l.length * (m + sep.length) := by
      intro l
      induction l with
      | nil => intro _; simp [Lib.joinTail]
      | cons y l ih =>
        intro hl
        have e : Lib.joinTail sep (y :: l) = (sep ++ y) ++ Lib.joinTail sep l := by unfold Lib.joinTail; simp
        have h1 := ih (fun z hz => hl z (List.mem_cons_of_mem _ hz))
        have h2 := hl y (by simp)
        rw [e, List.length_append, List.length_append, List.length_cons, Nat.succ_mul]
        omega
    have h1 := hr r (fun y hy => h y (List.mem_cons_of_mem _ hy))
    have h2 := h x (by simp)
    rw [Lib.join_cons, List.length_append, List.length_cons, Nat.succ_mul]
    omega
theorem dec_len10 {n : Nat} (h : n ≤ 1000000000) : (Lib.decDigits n).length ≤ 11 := by
  have hstep : ∀ k n, n < 10 ^ (k + 1) → (Lib.decDigits n).length ≤ k + 1 := by
    intro k
    induction k with
    | zero => intro n hn; rw [dec_one (by omega)]; simp
    | succ k ih =>
      intro n hn
      by_cases h10 : n < 10
      · rw [dec_one h10]; simp
      · rw [dec_more h10, List.length_append, List.length_singleton]
        have := ih (n / 10) (by rw [Nat.div_lt_iff_lt_mul (by decide)]; rw [Nat.pow_succ] at hn; omega)
        omega
  exact hstep 10 n (by have : 10 ^ (10 + 1) = 100000000000 := by decide
                       omega)
/-- the pins of a lock -/
def pinsD (pins : List (List Int)) : List UInt8 := Lib.join (pins.map fun st => joinI st [43]) [32]
/-- the line of a row -/
def keyLineV (t cuts : List (List Int)) (k : Nat) : ByteArray := (((((⟨#[107, 101, 121, 32]⟩ : ByteArray) ++ strOf (numD k)) ++ (⟨#[32]⟩ : ByteArray)) ++ strOf (digsD (cuts.getD k []))) ++ (⟨#[32]⟩ : ByteArray)) ++ strOf (digsD (t.getD k []))
/-- the line of a door -/
def doorLineV (d : Nat) (pins : List (List Int)) : ByteArray := (((⟨#[100, 111, 111, 114, 32]⟩ : ByteArray) ++ strOf (numD d)) ++ (⟨#[32]⟩ : ByteArray)) ++ strOf (pinsD pins)
end Go.Proofs.YtpcgbfogkcbddaaGreatDoor
