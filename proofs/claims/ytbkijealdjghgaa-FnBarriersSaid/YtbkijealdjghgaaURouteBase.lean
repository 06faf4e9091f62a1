/- Proved: codes that are none, lists of doors that rise. -/
import Derived.Test.YtbkijealdjghgaaURouteFacts
import Derived.Test.YtbkijealdjghgaaURiseLaw
import Derived.Test.YtbkijealdjghgaaURoutesCode
import Derived.Test.YtbkijealdjghgaaUReachDef
import Derived.Test.YtbkijealdjghgaaUHas
namespace Go.Proofs.Ytbkijealdjghgaa
open Go.ChangeShapes Go.WideShapes Go.ChangeAt Go.RowKit
set_option linter.unusedVariables false

theorem roomsCode_mk {c : Int} {ds : List (List Int)} {doors rooms : List Int} (h1 : roomsOk c ds = true) (h2 : rising doors ds.length = true) (h3 : ∀ f ∈ rooms, 0 ≤ f ∧ f < c) : roomsCode c ds doors rooms = 0 := by
  unfold roomsCode
  rw [if_pos h1, if_pos]
  rw [h2, Bool.and_true]
  unfold allB
  rw [List.all_eq_true]
  intro f hf
  have := h3 f hf
  simp [inB]; omega
theorem routesCode_mk {c : Int} {ds : List (List Int)} {doors : List Int} {f t : Int} (h1 : roomsOk c ds = true) (h2 : rising doors ds.length = true) (h3 : 0 ≤ f ∧ f < c) (h4 : 0 ≤ t ∧ t < c) (h5 : f ≠ t) : routesCode c ds f t doors = 0 :=
  routesCode_ne (roomsCode_mk h1 h2 (fun g hg => by
    rcases List.mem_cons.1 hg with rfl | hg
    · exact h3
    · rw [List.mem_singleton.1 hg]; exact h4)) h5
theorem rising_doors {n : Nat} {l : List Int} (h : rising l n = true) : ∀ d ∈ l, 0 ≤ d ∧ d < n := fun d hd => by
  have := (rises_of_rising h).2 d hd
  omega
theorem rising_sub {n : Nat} {a b : List Int} (h : a.Sublist b) (hb : rising b n = true) : rising a n = true := by
  have := rises_of_rising hb
  rw [Int.toNat_natCast] at this
  exact rising_of_rises (rises_sublist h this)
theorem reachInts_has {c : Int} {ds : List (List Int)} {f : Int} {op : List Int} {q : Int} (hc : 0 ≤ c) (h0 : 0 ≤ q) (h1 : q < c) : has (reachInts c ds f op) q = (reachL c ds f op).getD q.toNat false := by
  cases e : (reachL c ds f op).getD q.toNat false with
  | true => exact has_iff.2 (upto_mem.2 ⟨h0, by omega, e⟩)
  | false =>
    cases e2 : has (reachInts c ds f op) q with
    | false => rfl
    | true => have := (upto_mem.1 (has_iff.1 e2)).2.2; rw [e] at this; cases this
end Go.Proofs.Ytbkijealdjghgaa
