/- Proved: a room can be reached exactly if there is a route to it. -/
import Derived.Test.YtbkijealdjghgaaURoutesLaw
namespace Go.Proofs.Ytbkijealdjghgaa
open Go.ChangeShapes Go.WideShapes Go.ChangeAt Go.RowKit
set_option linter.unusedVariables false

/-- a walk by some doors to t: the doors with the rooms behind them -/
def WalkTo (ds : List (List Int)) (op : List Int) (t : Int) : Int → List (Int × Int) → Prop
  | p, [] => p = t
  | p, (d, q) :: W => d ∈ op ∧ other ds d p = q ∧ 0 ≤ q ∧ WalkTo ds op t q W
def Simple (p : Int) (W : List (Int × Int)) : Prop := (p :: W.map (·.2)).Nodup

theorem walk_last {ds : List (List Int)} {op : List Int} {t : Int} : ∀ {W : List (Int × Int)} {p : Int}, WalkTo ds op t p W → t ∈ p :: W.map (·.2)
  | [], p, h => by simp [WalkTo] at h; simp [h]
  | (d, q) :: W, p, ⟨_, _, _, h⟩ => List.mem_cons_of_mem _ (walk_last h)
theorem walk_suffix {ds : List (List Int)} {op : List Int} {t v : Int} : ∀ {W : List (Int × Int)} {p : Int}, WalkTo ds op t p W → v ∈ W.map (·.2) → ∃ W', WalkTo ds op t v W' ∧ (v :: W'.map (·.2)).Sublist (W.map (·.2))
  | [], p, _, h => by simp at h
  | (d, q) :: W, p, ⟨_, _, _, h⟩, hv => by
    rw [List.map_cons, List.mem_cons] at hv
    rcases hv with rfl | hv
    · exact ⟨W, h, by rw [List.map_cons]; exact List.Sublist.refl _⟩
    · obtain ⟨W', h1, h2⟩ := walk_suffix h hv
      exact ⟨W', h1, by rw [List.map_cons]; exact h2.trans (List.sublist_cons_self ..)⟩
theorem walk_closed {ds : List (List Int)} {op : List Int} {t p q d : Int} (hd : d ∈ op) (ho : other ds d p = q) (hq : 0 ≤ q) (h : ∃ W, WalkTo ds op t q W ∧ Simple q W) : ∃ W, WalkTo ds op t p W ∧ Simple p W := by
  obtain ⟨W, hw, hs⟩ := h
  by_cases e : p = q
  · rw [e]; exact ⟨W, hw, hs⟩
  · by_cases hp : p ∈ W.map (·.2)
    · obtain ⟨W', h1, h2⟩ := walk_suffix hw hp
      exact ⟨W', h1, (List.nodup_cons.1 hs).2.sublist h2⟩
    · refine ⟨(d, q) :: W, ⟨hd, ho, hq, hw⟩, ?_⟩
      unfold Simple
      rw [List.map_cons, List.nodup_cons]
      exact ⟨by simp only [List.mem_cons, not_or]; exact ⟨e, hp⟩, hs⟩
theorem walk_nonneg {ds : List (List Int)} {op : List Int} {t : Int} : ∀ {W : List (Int × Int)} {p : Int}, WalkTo ds op t p W → ∀ v ∈ W.map (·.2), 0 ≤ v
  | [], p, _, v, hv => by simp at hv
  | (d, q) :: W, p, ⟨_, _, h0, h⟩, v, hv => by
    rw [List.map_cons, List.mem_cons] at hv
    rcases hv with rfl | hv
    · exact h0
    · exact walk_nonneg h v hv
theorem getD_set_ne {s : List Bool} {i j : Nat} (h : i ≠ j) : (s.set i true).getD j false = s.getD j false := by
  simp [List.getD_eq_getElem?_getD, List.getElem?_set_ne h]

/-- a simple walk is a route -/
theorem walk_route {ds : List (List Int)} {op op' : List Int} {t : Int} (hsub : ∀ d ∈ op', d ∈ op) (c : Nat) (hr : ∀ d ∈ op', ∀ p, other ds d p < c) :
    ∀ {W : List (Int × Int)} {p : Int} {n : Nat} {s : List Bool}, s.length = c → WalkTo ds op' t p W → Simple p W → (∀ v ∈ W.map (·.2), s.getD v.toNat false = false) → s.count false ≤ n → W.map (·.1) ∈ routesN ds op t n s p
  | [], p, n, s, _, h, _, _, _ => by
    have : p = t := h
    rw [this, routesN_end]; simp
  | (d, q) :: W, p, n, s, hl, ⟨h1, h2, h3, h4⟩, hs, hm, hn => by
    have hs' : Simple q W := (List.nodup_cons.1 hs).2
    have hpt : p ≠ t := fun e => by
      have := walk_last h4
      rw [← e] at this
      exact (List.nodup_cons.1 hs).1 this
    have hq0 : s.getD q.toNat false = false := hm q (by simp)
    have hqc : q.toNat < s.length := by have := hr d h1 p; rw [h2] at this; omega
    have hc := set_count hqc hq0
    cases n with
    | zero => have := count_pos_of hqc hq0; omega
    | succ n =>
      rw [routesN_succ hpt, List.mem_flatMap]
      refine ⟨d, hsub d h1, ?_⟩
      rw [routesBy_yes (by rw [h2]; exact canGo_iff.2 ⟨h3, hq0⟩), h2]
      refine List.mem_map.2 ⟨W.map (·.1), walk_route hsub c hr (by rw [List.length_set]; exact hl) h4 hs' (fun v hv => ?_) (by omega), rfl⟩
      have hv0 := walk_nonneg h4 v hv
      have hne : q ≠ v := fun e => (List.nodup_cons.1 hs').1 (e ▸ hv)
      rw [getD_set_ne (by omega)]
      exact hm v (by rw [List.map_cons]; exact List.mem_cons_of_mem _ hv)

/-- the sides of a door of a plan -/
theorem door_sides {c : Int} {ds : List (List Int)} (hok : roomsOk c ds = true) {d : Int} (h0 : 0 ≤ d) (h1 : d < ds.length) : ∃ a b : Nat, sides ds d = (a, b) ∧ a < b ∧ (b : Int) < c ∧ (ds.getD d.toNat []).getD 0 0 = a ∧ (ds.getD d.toNat []).getD 1 0 = b ∧ other ds d a = b ∧ other ds d b = a := by
  obtain ⟨-, -, h⟩ := roomsOk_sides hok
  have hd : d.toNat < ds.length := by omega
  have e : ds.getD d.toNat [] = ds[d.toNat] := by simp [hd]
  obtain ⟨-, g1, g2, g3⟩ := h ds[d.toNat] (List.getElem_mem hd)
  refine ⟨(ds[d.toNat].getD 0 0).toNat, (ds[d.toNat].getD 1 0).toNat, by unfold sides; rw [e], by omega, by omega, by rw [e]; omega, by rw [e]; omega, ?_, ?_⟩
  · unfold other; rw [e, if_pos (by omega)]; omega
  · unfold other; rw [e, if_neg (by omega), if_pos (by omega)]; omega
theorem stepE_getD {s : List Bool} {p : Nat × Nat} {i : Nat} (h : (stepE s p).getD i false = true) : s.getD i false = true ∨ ((s.getD p.1 false || s.getD p.2 false) = true ∧ (i = p.1 ∨ i = p.2)) := by
  unfold stepE at h
  split at h
  · next hs =>
    by_cases e2 : i = p.2
    · exact .inr ⟨hs, .inr e2⟩
    · by_cases e1 : i = p.1
      · exact .inr ⟨hs, .inl e1⟩
      · rw [getD_set_ne (by omega), getD_set_ne (by omega)] at h; exact .inl h
  · exact .inl h

/-- what is reached from f has a walk from f -/
theorem reach_walk {c : Int} {ds : List (List Int)} (hok : roomsOk c ds = true) {op : List Int} (hop : ∀ d ∈ op, 0 ≤ d ∧ d < ds.length) {f t : Int} (hf : 0 ≤ f) (ht : 0 ≤ t) (h : (reachL c ds f op).getD t.toNat false = true) :
    ∃ W, WalkTo ds op t f W ∧ Simple f W := by
  refine Classical.byContradiction fun hno => ?_
  have inv0 : ∀ i : Nat, (reach0 c f).getD i false = true → ¬ ∃ W, WalkTo ds op t i W ∧ Simple i W := fun i hi => by
    have : i = f.toNat := by
      by_cases e : f.toNat = i
      · exact e.symm
      · unfold reach0 at hi
        rw [getD_set_ne e] at hi
        rw [List.getD_eq_getElem?_getD, List.getElem?_replicate] at hi
        split at hi <;> simp at hi
    rw [this, show ((f.toNat : Nat) : Int) = f by omega]
    exact hno
  have invStep : ∀ (s : List Bool) (d : Int), d ∈ op → (∀ i : Nat, s.getD i false = true → ¬ ∃ W, WalkTo ds op t i W ∧ Simple i W) → ∀ i : Nat, (stepE s (sides ds d)).getD i false = true → ¬ ∃ W, WalkTo ds op t i W ∧ Simple i W := fun s d hd hs i hi => by
    obtain ⟨a, b, e1, e2, e3, -, -, e4, e5⟩ := door_sides hok (hop d hd).1 (hop d hd).2
    rcases stepE_getD hi with h' | ⟨h1, h2⟩
    · exact hs i h'
    · rw [e1] at h1 h2
      simp only at h1 h2
      have hab : (∃ W, WalkTo ds op t a W ∧ Simple a W) → ∃ W, WalkTo ds op t b W ∧ Simple b W := fun h => walk_closed hd e5 (by omega) h
      have hba : (∃ W, WalkTo ds op t b W ∧ Simple b W) → ∃ W, WalkTo ds op t a W ∧ Simple a W := fun h => walk_closed hd e4 (by omega) h
      rw [Bool.or_eq_true] at h1
      rcases h1 with h1 | h1
      · have hna := hs a h1
        rcases h2 with rfl | rfl
        · exact hna
        · exact fun h => hna (hba h)
      · have hnb := hs b h1
        rcases h2 with rfl | rfl
        · exact fun h => hnb (hab h)
        · exact hnb
  have invPass : ∀ (l : List Int) (s : List Bool), (∀ d ∈ l, d ∈ op) → (∀ i : Nat, s.getD i false = true → ¬ ∃ W, WalkTo ds op t i W ∧ Simple i W) → ∀ i : Nat, (passE (l.map (sides ds)) s).getD i false = true → ¬ ∃ W, WalkTo ds op t i W ∧ Simple i W := fun l => by
    induction l with
    | nil => exact fun s _ hs i hi => hs i hi
    | cons d l ih => exact fun s hl hs => ih (stepE s (sides ds d)) (fun x hx => hl x (List.mem_cons_of_mem _ hx)) (invStep s d (hl d (List.mem_cons_self ..)) hs)
  have invR : ∀ n, ∀ i : Nat, (roundsE (op.map (sides ds)) (reach0 c f) n).getD i false = true → ¬ ∃ W, WalkTo ds op t i W ∧ Simple i W := fun n => by
    induction n with
    | zero => exact inv0
    | succ n ih => exact invPass op _ (fun _ h => h) ih
  have := invR c.toNat t.toNat h
  refine this ⟨[], ?_, ?_⟩
  · show ((t.toNat : Nat) : Int) = t; omega
  · simp [Simple]

/-- .. and so there is a route by these doors among those by more -/
theorem reach_route {c : Int} {ds : List (List Int)} (hok : roomsOk c ds = true) {op op' : List Int} (hop : ∀ d ∈ op, 0 ≤ d ∧ d < ds.length) (hsub : ∀ d ∈ op', d ∈ op) {f t : Int} (hf : 0 ≤ f) (hfc : f < c) (ht : 0 ≤ t) (h : (reachL c ds f op').getD t.toNat false = true) :
    ∃ r ∈ routesN ds op t c.toNat (reach0 c f) f, ∀ d ∈ r, d ∈ op' := by
  obtain ⟨W, h1, h2⟩ := reach_walk hok (fun d hd => hop d (hsub d hd)) hf ht h
  refine ⟨W.map (·.1), walk_route hsub c.toNat (fun d hd p => ?_) (reach0_length c f) h1 h2 (fun v hv => ?_) ?_, ?_⟩
  · have := other_range hok (p := p) (hop d (hsub d hd)).1 (hop d (hsub d hd)).2
    have := (roomsOk_sides hok).1
    omega
  · have hv0 := walk_nonneg h1 v hv
    have hne : f ≠ v := fun e => (List.nodup_cons.1 h2).1 (e ▸ hv)
    unfold reach0
    rw [getD_set_ne (by omega), List.getD_eq_getElem?_getD, List.getElem?_replicate]
    split <;> rfl
  · have := List.count_le_length (a := false) (l := reach0 c f)
    rw [reach0_length] at this; exact this
  · intro d hd
    clear h2 h
    induction W generalizing f with
    | nil => simp at hd
    | cons x W ih =>
      obtain ⟨d', q⟩ := x
      obtain ⟨g1, g2, g3, g4⟩ := h1
      rw [List.map_cons, List.mem_cons] at hd
      rcases hd with rfl | hd
      · exact g1
      · refine ih g3 ?_ g4 hd
        have := other_range hok (p := f) (hop d' (hsub d' g1)).1 (hop d' (hsub d' g1)).2
        omega

/-! ### the other way -/
theorem leB_antisymm {s t : List Bool} (h : leB s t) (k : leB t s) : s = t := by
  refine Decidable.byContradiction fun hne => ?_
  have := (leB_count h).2 hne
  have := (leB_count k).1
  omega
theorem pass_fix : ∀ {es : List (Nat × Nat)} {s : List Bool}, passE es s = s → ∀ e ∈ es, stepE s e = s
  | [], _, _, _, h => by simp at h
  | e :: es, s, h, x, hx => by
    have h1 : leB (stepE s e) s := by have := leB_pass es (stepE s e); rw [show passE es (stepE s e) = s from h] at this; exact this
    have h2 : stepE s e = s := leB_antisymm h1 (leB_step s e)
    rcases List.mem_cons.1 hx with rfl | hx
    · exact h2
    · refine pass_fix ?_ x hx
      have : passE es (stepE s e) = s := h
      rwa [h2] at this
theorem reach_closed {c : Int} {ds : List (List Int)} (hok : roomsOk c ds = true) {op : List Int} (hop : ∀ d ∈ op, 0 ≤ d ∧ d < ds.length) {f : Int} (hf : 0 ≤ f) (hfc : f < c) {d p : Int} (hd : d ∈ op) (hp : 0 ≤ p) (hr : (reachL c ds f op).getD p.toNat false = true) (hq : 0 ≤ other ds d p) :
    (reachL c ds f op).getD (other ds d p).toNat false = true := by
  have hfix : passE (op.map (sides ds)) (reachL c ds f op) = reachL c ds f op := by
    have := rounds_fix (op.map (sides ds)) (reach0 c f) (reach0_one hf hfc)
    rw [reach0_length] at this
    exact this
  have hst := pass_fix hfix (sides ds d) (List.mem_map_of_mem hd)
  obtain ⟨a, b, e1, e2, e3, e4, e5, e6, e7⟩ := door_sides hok (hop d hd).1 (hop d hd).2
  have hl := reachL_length c ds f op
  have hb : b < (reachL c ds f op).length := by omega
  rw [e1] at hst
  unfold stepE at hst
  simp only at hst
  rcases other_cases ds d p with h | ⟨h1, h2⟩ | ⟨h1, h2⟩
  · omega
  · rw [h2, e5]
    rw [e4] at h1
    rw [if_pos (by rw [h1] at hr; simp only [Int.toNat_natCast] at hr; rw [hr]; rfl)] at hst
    rw [Int.toNat_natCast, ← hst, List.getD_eq_getElem?_getD, List.getElem?_set]
    simp [hb]
  · rw [h2, e4]
    rw [e5] at h1
    rw [if_pos (by rw [h1] at hr; simp only [Int.toNat_natCast] at hr; rw [hr]; simp)] at hst
    rw [Int.toNat_natCast, ← hst, getD_set_ne (by omega), List.getD_eq_getElem?_getD, List.getElem?_set]
    simp [show a < (reachL c ds f op).length by omega]
theorem reach_self {c : Int} {ds : List (List Int)} {op : List Int} {f : Int} (hf : 0 ≤ f) (hfc : f < c) : (reachL c ds f op).getD f.toNat false = true := by
  have h0 : (reach0 c f).getD f.toNat false = true := by
    unfold reach0
    rw [List.getD_eq_getElem?_getD, List.getElem?_set, if_pos rfl, if_pos (by rw [List.length_replicate]; omega)]
    rfl
  have mono : ∀ {s t : List Bool}, leB s t → ∀ i, s.getD i false = true → t.getD i false = true := by
    intro s
    induction s with
    | nil => intro t _ i hi; simp at hi
    | cons a s ih =>
      intro t h i hi
      cases t with
      | nil => exact h.elim
      | cons b t =>
        cases i with
        | zero => exact h.1 (by simpa using hi)
        | succ i => exact ih h.2 i (by simpa using hi)
  have : ∀ n, (roundsE (op.map (sides ds)) (reach0 c f) n).getD f.toNat false = true := fun n => by
    induction n with
    | zero => exact h0
    | succ n ih => exact mono (leB_pass _ _) _ ih
  exact this _
theorem route_reach {c : Int} {ds : List (List Int)} (hok : roomsOk c ds = true) {op op' : List Int} (hop : ∀ d ∈ op, 0 ≤ d ∧ d < ds.length) {f t : Int} (hf : 0 ≤ f) (hfc : f < c) :
    ∀ (n : Nat) (s : List Bool) (p : Int), 0 ≤ p → (reachL c ds f op).getD p.toNat false = true → ∀ r ∈ routesN ds op t n s p, (reachL c ds f op).getD t.toNat false = true
  | 0, s, p, hp, hr, r, h => by
    by_cases e : p = t
    · rw [← e]; exact hr
    · rw [routesN_zero e] at h; simp at h
  | n+1, s, p, hp, hr, r, h => by
    by_cases e : p = t
    · rw [← e]; exact hr
    · rw [routesN_succ e, List.mem_flatMap] at h
      obtain ⟨d, hd, h⟩ := h
      by_cases hc : canGo s (other ds d p) = true
      · rw [routesBy_yes hc] at h
        obtain ⟨r', hr', -⟩ := List.mem_map.1 h
        have hq := (canGo_iff.1 hc).1
        exact route_reach (op' := op') hok hop hf hfc n _ _ hq (reach_closed hok hop hf hfc hd hp hr hq) r' hr'
      · rw [routesBy_no (by simpa using hc)] at h; simp at h

/-- a route leads to t -/
def Leads (ds : List (List Int)) (t : Int) : Int → List Int → Prop
  | p, [] => p = t
  | p, d :: r => 0 ≤ other ds d p ∧ Leads ds t (other ds d p) r
theorem route_leads {ds : List (List Int)} {op : List Int} {t : Int} : ∀ (n : Nat) (s : List Bool) (p : Int), ∀ r ∈ routesN ds op t n s p, Leads ds t p r
  | n, s, p, r, h => by
    by_cases e : p = t
    · rw [e, routesN_end] at h
      rw [List.mem_singleton.1 h]; exact e
    · cases n with
      | zero => rw [routesN_zero e] at h; simp at h
      | succ n =>
        rw [routesN_succ e, List.mem_flatMap] at h
        obtain ⟨d, hd, h⟩ := h
        by_cases hc : canGo s (other ds d p) = true
        · rw [routesBy_yes hc] at h
          obtain ⟨r', hr', rfl⟩ := List.mem_map.1 h
          exact ⟨(canGo_iff.1 hc).1, route_leads n _ _ r' hr'⟩
        · rw [routesBy_no (by simpa using hc)] at h; simp at h
end Go.Proofs.Ytbkijealdjghgaa
