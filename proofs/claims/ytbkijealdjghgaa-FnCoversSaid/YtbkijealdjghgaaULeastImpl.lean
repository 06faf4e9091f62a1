/- Proved: the least list that hits sets, as the program finds it. -/
import Derived.Test.YtbkijealdjghgaaChecked
import Derived.Test.YtbkijealdjghgaaUMembers
import Derived.Test.YtbkijealdjghgaaUSets
import Derived.Test.YtbkijealdjghgaaUSetsFacts
namespace Go.Proofs.Ytbkijealdjghgaa
open Go.ChangeShapes Go.WideShapes Go.ChangeAt Go.RowKit
set_option linter.unusedVariables false

/-- the best list so far; none: a slice that is nil -/
def BestR (e : TypeId) (B : Nat) (w : World) (v : Value) : Option (List Int) → Prop
  | none => v = .slice none 0 0
  | some b => OwnP (Value.int .i64) e B w v b ∧ ∃ g m c, v = .slice (some ⟨g, 0, none⟩) m c
theorem BestR.ext {e : TypeId} {B : Nat} {w w' : World} {v : Value} {o : Option (List Int)} (h : BestR e B w v o) (he : Ext w w') : BestR e B w' v o := by
  cases o with
  | none => exact h
  | some b => exact ⟨h.1.ext he, h.2⟩
/-- the list, none: empty -/
def leastL (p : List Int → Bool) (n : Nat) : List Int := (bestOf p (allSets n)).getD []
def bestUpto (p : List Int → Bool) (n s : Nat) : Option (List Int) := bestOf p ((List.range s).map (bitsL n))
theorem bestUpto_succ (p : List Int → Bool) (n s : Nat) : bestUpto p n (s+1) = bestStep p (bestUpto p n s) (bitsL n s) := by
  unfold bestUpto bestOf; rw [List.range_succ, List.map_append, List.foldl_append]; rfl
theorem bestUpto_all (p : List Int → Bool) (n : Nat) : bestUpto p n (2 ^ n) = bestOf p (allSets n) := rfl
theorem bitsL_i64 {n s : Nat} (hn : n ≤ 40) : ∀ x ∈ bitsL n s, I64 x := upto_i64 (by omega)
theorem bestUpto_i64 {p : List Int → Bool} {n s : Nat} (hn : n ≤ 40) {b : List Int} (h : bestUpto p n s = some b) : ∀ x ∈ b, I64 x := by
  have := bestOf_is p ((List.range s).map (bitsL n))
  unfold bestUpto at h
  rw [h] at this
  obtain ⟨q, -, rfl⟩ := List.mem_map.1 this.1
  exact bitsL_i64 hn

theorem shl_run (n : Nat) (h2 : n ≤ 12) : wrap64 (2 ^ n) = ((2 ^ n : Nat) : Int) := by
  have h : ((2 ^ n : Nat) : Int) = (2 : Int) ^ n := Int.natCast_pow 2 n
  have hle : 2 ^ n ≤ 4096 := Nat.le_trans (Nat.pow_le_pow_right (by omega) h2) (by decide)
  rw [← h]
  generalize 2 ^ n = N at *
  unfold wrap64; omega
end Go.Proofs.Ytbkijealdjghgaa
