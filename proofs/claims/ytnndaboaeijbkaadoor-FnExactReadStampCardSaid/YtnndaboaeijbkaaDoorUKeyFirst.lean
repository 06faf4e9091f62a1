/- Proved: the first key and the next key, the reference. -/
import Derived.Test.YtnndaboaeijbkaaDoorChecked
import Derived.Deep.RegionHeld3
import Derived.Test.YtnndaboaeijbkaaDoorUKeyBegins
import Derived.Test.YtnndaboaeijbkaaDoorUAppend1
import Derived.Test.YtnndaboaeijbkaaDoorUCopyLists
namespace Go.Proofs.YtnndaboaeijbkaaDoor
open Go.ChangeShapes Go.WideShapes Go.ChangeAt Go.RowKit
set_option linter.unusedVariables false

/-- what a search for a key hands back -/
def KeyRes (lo : Nat) (L : List (List Int)) (r : Value) (w' : World) : Prop :=
  (L = [] → ∃ u ks, r = .tuple #[u, .bool false] ∧ IntsR ⟨lo, w'.heap.size, true⟩ w' u ks) ∧ ∀ k L', L = k :: L' → ∃ u, r = .tuple #[u, .bool true] ∧ IntsR ⟨lo, w'.heap.size, true⟩ w' u k
theorem KeyRes.none {lo : Nat} {L : List (List Int)} {u : Value} {ks : List Int} {w : World} (h : L = []) (i : IntsR ⟨lo, w.heap.size, true⟩ w u ks) : KeyRes lo L (.tuple #[u, .bool false]) w := ⟨fun _ => ⟨_, _, rfl, i⟩, fun k L' h2 => by rw [h] at h2; cases h2⟩
theorem KeyRes.some {lo : Nat} {L L' : List (List Int)} {k : List Int} {u : Value} {w : World} (h : L = k :: L') (i : IntsR ⟨lo, w.heap.size, true⟩ w u k) : KeyRes lo L (.tuple #[u, .bool true]) w := ⟨fun h2 => by (rw [h] at h2; cases h2), fun k2 L2 h2 => by
  rw [h] at h2
  injection h2 with h3 h4
  subst h3
  exact ⟨_, rfl, i⟩⟩
theorem Small.snoc {pre : List Int} (h : Small pre) {d : Nat} (hd : d ≤ 7) : Small (pre ++ [(d : Int)]) := by
  intro i hi
  rw [List.length_append, List.length_singleton] at hi
  by_cases e : i < pre.length
  · have := h i e
    rw [List.getD_eq_getElem?_getD, List.getElem?_append_left e, ← List.getD_eq_getElem?_getD]
    exact this
  · have : i = pre.length := by omega
    subst this
    simp
    omega

theorem Small.take {l : List Int} (h : Small l) (i : Nat) : Small (l.take i) := by
  intro j hj
  rw [List.length_take] at hj
  rw [getD_take l 0 (by omega)]
  exact h j (by omega)
end Go.Proofs.YtnndaboaeijbkaaDoor
