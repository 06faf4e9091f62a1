/- Proved: the number of the keys that begin with some cuts, the reference. -/
import Derived.Test.YthgmojggpjnckaaGreatChecked
import Derived.Deep.RegionHeld3
import Derived.Test.YthgmojggpjnckaaGreatUKeyFirst
import Derived.Test.YthgmojggpjnckaaGreatUPkE
namespace Go.Proofs.YthgmojggpjnckaaGreat
open Go.ChangeShapes Go.WideShapes Go.ChangeAt Go.RowKit
set_option linter.unusedVariables false

theorem kinds_le6 {l : List Int} : kinds l ≤ l.length := kindsTo_le l l.length
theorem sweep_len (mk : MK) {D : Nat} (r : Nat) (pre : List Int) {d : Nat} (h : d < D) : (sweep mk D r pre d).length = (keysR mk D r (pre ++ [(d : Int)])).length + (sweep mk D r pre (d + 1)).length := by
  rw [sweep_step mk r pre h, List.length_append]
/-- at most 8 to the r keys -/
theorem keysR_len (mk : MK) (D : Nat) (hD : D ≤ 8) : ∀ (r : Nat) (pre : List Int), (keysR mk D r pre).length ≤ 8 ^ r
  | 0, pre => by
    rw [keysR_zero]
    split
    · split <;> simp
    · simp
  | r + 1, pre => by
    rw [keysR_succ]
    split
    · have hs : ∀ n d, d + n = D → (sweep mk D r pre d).length ≤ n * 8 ^ r := by
        intro n
        induction n with
        | zero => intro d hd; rw [sweep_end mk r pre (by omega)]; simp
        | succ n ih =>
          intro d hd
          rw [sweep_len mk r pre (by omega)]
          have h1 := keysR_len mk D hD r (pre ++ [(d : Int)])
          have h2 := ih (d + 1) (by omega)
          rw [Nat.succ_mul]
          omega
      have := hs D 0 (by omega)
      have h3 : D * 8 ^ r ≤ 8 * 8 ^ r := Nat.mul_le_mul_right _ hD
      rw [Nat.pow_succ, Nat.mul_comm (8 ^ r) 8]
      omega
    · simp
theorem pow8_le {r : Nat} (h : r ≤ 6) : 8 ^ r ≤ 262144 := by
  have := Nat.pow_le_pow_right (show 0 < 8 by decide) h
  have e : 8 ^ 6 = 262144 := by decide
  omega
end Go.Proofs.YthgmojggpjnckaaGreat
