/- Proved: each key that is visited is a key (plain). -/
import Derived.Test.YtnndaboaeijbkaaDoorUCandLaw
namespace Go.Proofs.YtnndaboaeijbkaaDoor
open Go.ChangeShapes Go.WideShapes Go.ChangeAt Go.RowKit
set_option linter.unusedVariables false

theorem keysR_in {mk : MK} {D : Nat} : ∀ (r : Nat) {pre k : List Int}, k ∈ keysR mk D r pre → begins mk k = true ∧ mk.l ≤ (kinds k : Int)
  | 0, pre, k, h => by
    rw [keysR_zero] at h
    split at h
    · split at h
      · rename_i h1 h2
        rw [List.mem_singleton.1 h]; exact ⟨h1, h2⟩
      · cases h
    · cases h
  | r + 1, pre, k, h => by
    rw [keysR_succ] at h
    split at h
    · unfold sweep at h
      obtain ⟨d, -, hd⟩ := List.mem_flatMap.1 h
      exact keysR_in r hd
    · cases h
theorem allK_isKey {mk : MK} (ok : MkOk mk) {k : List Int} (h : k ∈ allK mk) : isKeyB mk k = true := by
  obtain ⟨hb, hk⟩ := keysR_in mk.c.toNat h
  obtain ⟨h1, h2⟩ := allK_mem h
  have hc := ok.c6
  have hd := ok.d8
  have hcut : cutsOk mk k = true := by
    unfold cutsOk
    rw [Bool.and_eq_true, decide_eq_true_iff]
    refine ⟨?_, by omega⟩
    unfold allB
    rw [List.all_eq_true]
    intro x hx
    have := h2 x hx
    unfold inB
    rw [Bool.and_eq_true, decide_eq_true_iff, decide_eq_true_iff]
    omega
  unfold begins at hb
  obtain ⟨hf, hm⟩ := Bool.and_eq_true_iff.1 hb
  have hm := of_decide_eq_true hm
  unfold isKeyB keyFault
  rw [decide_eq_true_iff, if_neg (by omega), if_neg (by rw [hcut]; decide), if_neg (by simpa using hf), if_neg (by omega), if_neg (by omega)]
end Go.Proofs.YtnndaboaeijbkaaDoor
