/- Proved: what the law of barriers wants of barriers and of rooms behind a door (the two facts of RouteLaws, without its needs). -/
import Derived.Test.YtbkijealdjghgaaURouteBase
import Derived.Test.YtbkijealdjghgaaURouteFacts
import Derived.Test.YtbkijealdjghgaaURiseLaw
import Derived.Test.YtbkijealdjghgaaUBehindLaw
import Derived.Test.YtbkijealdjghgaaUIsBarrier
import Derived.Test.YtbkijealdjghgaaUReachDef
namespace Go.Proofs.Ytbkijealdjghgaa
open Go.ChangeShapes Go.WideShapes Go.ChangeAt Go.RowKit
set_option linter.unusedVariables false

theorem barrier_reach {x : Int × List (List Int)} {f t : Int} {shut : List Int} (h : (isBarrier x f t shut).2 = 0) :
    (reachWith x f (otherDoors x.2.length shut)).2 = 0 ∧ (isBarrier x f t shut).1 = !has (reachWith x f (otherDoors x.2.length shut)).1 t := by
  unfold isBarrier at h ⊢
  split at h
  · next hk =>
    rw [if_pos hk]
    obtain ⟨k1, k2, k3, k4, k5⟩ := routesCode_ok hk
    have hris : rising (otherDoors x.2.length shut) x.2.length = true := rising_of_rises ⟨upto_pairwise _ _, fun y hy => by have := upto_mem.1 hy; omega⟩
    have hc : roomsCode x.1 x.2 (otherDoors x.2.length shut) [f] = 0 := roomsCode_mk k1 hris (fun g hg => by rw [List.mem_singleton.1 hg]; exact k3)
    have hr : reachWith x f (otherDoors x.2.length shut) = (reachInts x.1 x.2 f (otherDoors x.2.length shut), 0) := by unfold reachWith; rw [if_pos hc]
    rw [hr]
    exact ⟨rfl, by simp only; rw [reachInts_has (by omega) k4.1 k4.2]⟩
  · next hk => exact absurd h hk
theorem behind_facts {x : Int × List (List Int)} {f d : Int} (h : (roomsBehind x f d).2 = 0) :
    has (roomsBehind x f d).1 f = false ∧ ∀ q ∈ (roomsBehind x f d).1, isBarrier x f q [d] = (true, 0) := by
  by_cases hk : roomsCode x.1 x.2 [d] [f] = 0
  · rw [roomsBehind_ok hk]
    obtain ⟨k1, k2, k3⟩ := roomsCode_ok hk
    have k3 := k3 f (by simp)
    refine ⟨?_, fun q hq => ?_⟩
    · cases e : has (upto (behindB x.1 x.2 f d) x.1.toNat) f with
      | false => rfl
      | true =>
        have := (upto_mem.1 (has_iff.1 e)).2.2
        unfold behindB at this
        rw [reach_self k3.1 k3.2, reach_self k3.1 k3.2] at this
        simp at this
    · have hq := upto_mem.1 hq
      have hb := hq.2.2
      unfold behindB at hb
      rw [Bool.and_eq_true] at hb
      have hne : f ≠ q := fun e => by
        have := hb.2
        rw [← e, reach_self k3.1 k3.2] at this
        cases this
      unfold isBarrier
      rw [if_pos (routesCode_mk k1 k2 k3 ⟨hq.1, by omega⟩ hne), hb.2]
  · rw [roomsBehind_no hk] at h; exact absurd h hk
end Go.Proofs.Ytbkijealdjghgaa
