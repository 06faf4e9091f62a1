/- Proved: what the laws want of routes, reach, barriers and rooms behind a door. -/
import Derived.Test.YtoaoonmeoeifgaaURouteFacts
import Derived.Test.YtoaoonmeoeifgaaURiseLaw
import Derived.Test.YtoaoonmeoeifgaaUShort
import Derived.Test.YtoaoonmeoeifgaaURoutesTo
import Derived.Test.YtoaoonmeoeifgaaUBehindLaw
import Derived.Test.YtoaoonmeoeifgaaUReachWith
import Derived.Test.YtoaoonmeoeifgaaUIsBarrier
namespace Go.Proofs.Ytoaoonmeoeifgaa
open Go.ChangeShapes Go.WideShapes Go.ChangeAt Go.RowKit
set_option linter.unusedVariables false

theorem roomsCode_mk {c : Int} {ds : List (List Int)} {doors rooms : List Int} (h1 : roomsOk c ds = true) (h2 : rising doors ds.length = true) (h3 : ∀ f ∈ rooms, 0 ≤ f ∧ f < c) : roomsCode c ds doors rooms = 0 := by
  unfold roomsCode
  rw [if_pos h1, if_pos]
  rw [h2, Bool.and_true]
  unfold allB
  rw [List.all_eq_true]
  intro f hf
  have := h3 f hf
  simp [inB]; omega
theorem routesCode_mk {c : Int} {ds : List (List Int)} {doors : List Int} {f t : Int} (h1 : roomsOk c ds = true) (h2 : rising doors ds.length = true) (h3 : 0 ≤ f ∧ f < c) (h4 : 0 ≤ t ∧ t < c) (h5 : f ≠ t) : routesCode c ds f t doors = 0 :=
  routesCode_ne (roomsCode_mk h1 h2 (fun g hg => by
    rcases List.mem_cons.1 hg with rfl | hg
    · exact h3
    · rw [List.mem_singleton.1 hg]; exact h4)) h5
theorem rising_doors {n : Nat} {l : List Int} (h : rising l n = true) : ∀ d ∈ l, 0 ≤ d ∧ d < n := fun d hd => by
  have := (rises_of_rising h).2 d hd
  omega
theorem rising_sub {n : Nat} {a b : List Int} (h : a.Sublist b) (hb : rising b n = true) : rising a n = true := by
  have := rises_of_rising hb
  rw [Int.toNat_natCast] at this
  exact rising_of_rises (rises_sublist h this)
theorem reachInts_has {c : Int} {ds : List (List Int)} {f : Int} {op : List Int} {q : Int} (hc : 0 ≤ c) (h0 : 0 ≤ q) (h1 : q < c) : has (reachInts c ds f op) q = (reachL c ds f op).getD q.toNat false := by
  cases e : (reachL c ds f op).getD q.toNat false with
  | true => exact has_iff.2 (upto_mem.2 ⟨h0, by omega, e⟩)
  | false =>
    cases e2 : has (reachInts c ds f op) q with
    | false => rfl
    | true => have := (upto_mem.1 (has_iff.1 e2)).2.2; rw [e] at this; cases this

/-- a room is reached exactly if there is a route -/
theorem reached_iff {x : Int × List (List Int)} {f t : Int} {op : List Int} (h : routesCode x.1 x.2 f t op = 0) : (reachWith x f op).2 = 0 ∧ has (reachWith x f op).1 t = !(routesL x.1 x.2 f t op).isEmpty := by
  obtain ⟨h1, h2, h3, h4, h5⟩ := routesCode_ok h
  have hc : roomsCode x.1 x.2 op [f] = 0 := roomsCode_mk h1 h2 (fun g hg => by rw [List.mem_singleton.1 hg]; exact h3)
  have hr : reachWith x f op = (reachInts x.1 x.2 f op, 0) := by unfold reachWith; rw [if_pos hc]
  have hop := rising_doors h2
  rw [hr]
  refine ⟨rfl, ?_⟩
  rw [show has (reachInts x.1 x.2 f op, (0:Int)).1 t = has (reachInts x.1 x.2 f op) t from rfl, reachInts_has (by omega) h4.1 h4.2]
  cases e : (reachL x.1 x.2 f op).getD t.toNat false with
  | true =>
    obtain ⟨r, hr, -⟩ := reach_route h1 hop (fun _ h => h) h3.1 h3.2 h4.1 e
    cases e2 : routesL x.1 x.2 f t op with
    | nil => unfold routesL at e2; rw [e2] at hr; simp at hr
    | cons a l => rfl
  | false =>
    cases e2 : routesL x.1 x.2 f t op with
    | nil => rfl
    | cons a l =>
      have := route_reach (op' := op) h1 hop h3.1 h3.2 x.1.toNat (reach0 x.1 f) f h3.1 (reach_self h3.1 h3.2) a (by unfold routesL at e2; rw [e2]; simp)
      rw [e] at this; cases this
theorem short_reached {x : Int × List (List Int)} {f t : Int} {op : List Int} (h : (shortRoute x f t op).2 = 0 ∨ (shortRoute x f t op).2 = 4) :
    (reachWith x f op).2 = 0 ∧ has (reachWith x f op).1 t = decide ((shortRoute x f t op).2 = 0) := by
  by_cases hk : routesCode x.1 x.2 f t op = 0
  · obtain ⟨h1, h2⟩ := reached_iff hk
    refine ⟨h1, ?_⟩
    rw [h2]
    have hb := bestOf_is (fun _ => true) (routesL x.1 x.2 f t op)
    cases e : bestOf (fun _ => true) (routesL x.1 x.2 f t op) with
    | none =>
      rw [e] at hb
      rw [shortRoute_none hk e]
      cases e2 : routesL x.1 x.2 f t op with
      | nil => rfl
      | cons a l => have := hb a (by rw [e2]; simp); cases this
    | some b =>
      rw [e] at hb
      rw [shortRoute_some hk e]
      cases e2 : routesL x.1 x.2 f t op with
      | nil => have := hb.1; rw [e2] at this; simp at this
      | cons a l => rfl
  · rw [shortRoute_no hk] at h
    simp only at h
    rcases routesCode_rng x.1 x.2 f t op with h' | h' | h' | h' <;> omega
theorem short_best {x : Int × List (List Int)} {f t : Int} {op : List Int} (h : (shortRoute x f t op).2 = 0) :
    (routesRes x f t op 60).2 = 0 ∧ 0 < (routesRes x f t op 60).1.length ∧ ∀ r ∈ (routesRes x f t op 60).1, (shortRoute x f t op).1.length ≤ r.length := by
  by_cases hk : routesCode x.1 x.2 f t op = 0
  · have hb := bestOf_is (fun _ => true) (routesL x.1 x.2 f t op)
    have hr : routesRes x f t op 60 = ((routesL x.1 x.2 f t op).take 60, 0) := by
      unfold routesRes
      rw [if_neg (by rw [hk]; decide), if_neg (by decide), if_pos hk]
      rfl
    rw [hr]
    cases e : bestOf (fun _ => true) (routesL x.1 x.2 f t op) with
    | none => rw [shortRoute_none hk e] at h; exact absurd h (by decide)
    | some b =>
      rw [e] at hb
      rw [shortRoute_some hk e]
      refine ⟨rfl, ?_, fun r hr => lessL_len (hb.2.2 r (List.mem_of_mem_take hr) rfl)⟩
      have := List.length_pos_of_mem hb.1
      simp only [List.length_take]; omega
  · rw [shortRoute_no hk] at h; exact absurd h hk

/-! ### routes, and as many as told -/
theorem routes_told {x : Int × List (List Int)} {f t : Int} {op : List Int} {most : Int} (h : (routesRes x f t op most).2 = 0) :
    (∀ r ∈ (routesRes x f t op most).1, Leads x.2 t f r ∧ ∀ d ∈ r, 0 ≤ d ∧ d < x.2.length) ∧ (∀ p ∈ x.2, p.length = 2) ∧ (roomsOk x.1 x.2 = true) ∧ (0 ≤ f ∧ f < x.1) ∧
    (((countRoutes x f t op).2 = 3 ∧ ((routesRes x f t op most).1.length : Int) = most) ∨ ((countRoutes x f t op).2 = 0 ∧ ((routesRes x f t op most).1.length : Int) = min most (countRoutes x f t op).1)) := by
  unfold routesRes at h ⊢
  split at h
  · exact absurd h (by decide)
  next h1 =>
  split at h
  · exact absurd h (by decide)
  next h2 =>
  split at h
  · next hk =>
    rw [if_neg h1, if_neg h2, if_pos hk]
    obtain ⟨k1, k2, k3, k4, k5⟩ := routesCode_ok hk
    have hm : 0 ≤ most ∧ most ≤ 60 := by simpa [inB] using h2
    refine ⟨fun r hr => ?_, fun p hp => ((roomsOk_sides k1).2.2 p hp).1, k1, k3, ?_⟩
    · have hr' := List.mem_of_mem_take hr
      exact ⟨route_leads _ _ _ r hr', fun d hd => rising_doors k2 d (routesN_mem _ _ _ r hr' d hd)⟩
    · rw [countRoutes_ok hk, List.length_take, List.length_take]
      split
      · next hl => left; exact ⟨rfl, by omega⟩
      · next hl => right; exact ⟨rfl, by simp only; omega⟩
  · next hk => exact absurd h hk
/-- one door further -/
theorem leads_step {c : Int} {ds : List (List Int)} (hok : roomsOk c ds = true) {t p d : Int} {r : List Int} (h : Leads ds t p (d :: r)) (h0 : 0 ≤ d) (h1 : d < ds.length) (hp : 0 ≤ p ∧ p < c) :
    (p = (ds.getD d.toNat []).getD 0 0 ∨ p = (ds.getD d.toNat []).getD 1 0) ∧ (ds.getD d.toNat []).length = 2 ∧ other ds d p = (ds.getD d.toNat []).getD 0 0 + (ds.getD d.toNat []).getD 1 0 - p ∧ (0 ≤ other ds d p ∧ other ds d p < c) ∧ Leads ds t (other ds d p) r := by
  obtain ⟨g1, g2⟩ := h
  have hl : (ds.getD d.toNat []).length = 2 := by
    have hd : d.toNat < ds.length := by omega
    rw [show ds.getD d.toNat [] = ds[d.toNat] by simp [hd]]
    exact ((roomsOk_sides hok).2.2 _ (List.getElem_mem hd)).1
  have hr := other_range hok (p := p) h0 h1
  rcases other_cases ds d p with h | ⟨k1, k2⟩ | ⟨k1, k2⟩
  · omega
  · exact ⟨.inl k1, hl, by rw [k2, ← k1]; omega, by omega, g2⟩
  · exact ⟨.inr k1, hl, by rw [k2, ← k1]; omega, by omega, g2⟩

/-! ### barriers -/
theorem barrier_reach {x : Int × List (List Int)} {f t : Int} {shut : List Int} (h : (isBarrier x f t shut).2 = 0) :
    (reachWith x f (otherDoors x.2.length shut)).2 = 0 ∧ (isBarrier x f t shut).1 = !has (reachWith x f (otherDoors x.2.length shut)).1 t := by
  unfold isBarrier at h ⊢
  split at h
  · next hk =>
    rw [if_pos hk]
    obtain ⟨k1, k2, k3, k4, k5⟩ := routesCode_ok hk
    have hris : rising (otherDoors x.2.length shut) x.2.length = true := rising_of_rises ⟨upto_pairwise _ _, fun y hy => by have := upto_mem.1 hy; omega⟩
    have hc : roomsCode x.1 x.2 (otherDoors x.2.length shut) [f] = 0 := roomsCode_mk k1 hris (fun g hg => by rw [List.mem_singleton.1 hg]; exact k3)
    have hr : reachWith x f (otherDoors x.2.length shut) = (reachInts x.1 x.2 f (otherDoors x.2.length shut), 0) := by unfold reachWith; rw [if_pos hc]
    rw [hr]
    exact ⟨rfl, by simp only; rw [reachInts_has (by omega) k4.1 k4.2]⟩
  · next hk => exact absurd h hk
theorem behind_facts {x : Int × List (List Int)} {f d : Int} (h : (roomsBehind x f d).2 = 0) :
    has (roomsBehind x f d).1 f = false ∧ ∀ q ∈ (roomsBehind x f d).1, isBarrier x f q [d] = (true, 0) := by
  by_cases hk : roomsCode x.1 x.2 [d] [f] = 0
  · rw [roomsBehind_ok hk]
    obtain ⟨k1, k2, k3⟩ := roomsCode_ok hk
    have k3 := k3 f (by simp)
    refine ⟨?_, fun q hq => ?_⟩
    · cases e : has (upto (behindB x.1 x.2 f d) x.1.toNat) f with
      | false => rfl
      | true =>
        have := (upto_mem.1 (has_iff.1 e)).2.2
        unfold behindB at this
        rw [reach_self k3.1 k3.2, reach_self k3.1 k3.2] at this
        simp at this
    · have hq := upto_mem.1 hq
      have hb := hq.2.2
      unfold behindB at hb
      rw [Bool.and_eq_true] at hb
      have hne : f ≠ q := fun e => by
        have := hb.2
        rw [← e, reach_self k3.1 k3.2] at this
        cases this
      unfold isBarrier
      rw [if_pos (routesCode_mk k1 k2 k3 ⟨hq.1, by omega⟩ hne), hb.2]
  · rw [roomsBehind_no hk] at h; exact absurd h hk
end Go.Proofs.Ytoaoonmeoeifgaa
