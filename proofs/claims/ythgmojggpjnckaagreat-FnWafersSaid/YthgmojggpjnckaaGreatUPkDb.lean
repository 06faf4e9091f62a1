/- Proved: a table that draws fill in place, and that it is a system (plain); IsRooms: program and reference compute the same, for every plan of rooms; the draws of rooms: l25Valid, l25Draw, l25DrawRoom, l25DrawOpen; the draws of makers: l02Valid, l02Draw. -/
import Derived.Test.YthgmojggpjnckaaGreatChecked
import Derived.Deep.RegionWith
import Derived.Lib.MinMax
import Derived.Test.YthgmojggpjnckaaGreatUPkDa
import Derived.Test.YthgmojggpjnckaaGreatUPkB
import Derived.Test.YthgmojggpjnckaaGreatUPkE
import Derived.Test.YthgmojggpjnckaaGreatUPkA
namespace Go.Proofs.YthgmojggpjnckaaGreat
open Go.ChangeShapes Go.WideShapes Go.ChangeAt Go.RowKit
set_option linter.unusedVariables false

/-- a table of 0 and 1 -/
structure Tab01 (n c : Nat) (t : List (List Int)) : Prop where
  len : t.length = n
  row : ∀ r ∈ t, r.length = c
  ent : ∀ r ∈ t, ∀ x ∈ r, x = 0 ∨ x = 1
/-- each of the first columns has a 1 -/
def openTo (t : List (List Int)) (k : Nat) : Prop := ∀ j, j < k → ∃ r ∈ t, r.getD j 0 = 1
theorem Tab01.set {n c : Nat} {t : List (List Int)} (h : Tab01 n c t) {i : Nat} (hi : i < t.length) (k : Nat) : Tab01 n c (t.set i (t[i].set k 1)) := by
  refine ⟨by rw [List.length_set]; exact h.len, fun r hr => ?_, fun r hr x hx => ?_⟩
  · rcases List.mem_or_eq_of_mem_set hr with hr | hr
    · exact h.row r hr
    · rw [hr, List.length_set]; exact h.row _ (List.getElem_mem hi)
  · rcases List.mem_or_eq_of_mem_set hr with hr | hr
    · exact h.ent r hr x hx
    · rw [hr] at hx
      rcases List.mem_or_eq_of_mem_set hx with hx | hx
      · exact h.ent _ (List.getElem_mem hi) x hx
      · exact .inr hx
theorem getD_set1 {l : List Int} {k j : Nat} (h : l.getD j 0 = 1) : (l.set k 1).getD j 0 = 1 := by
  rw [List.getD_eq_getElem?_getD, List.getElem?_set]
  split
  · split
    · rfl
    · rename_i h1 h2; subst h1
      rw [List.getD_eq_getElem?_getD, List.getElem?_eq_none (by omega)] at h; cases h
  · rw [← List.getD_eq_getElem?_getD]; exact h
theorem openTo.set {t : List (List Int)} {K : Nat} (h : openTo t K) {i : Nat} (hi : i < t.length) (k : Nat) : openTo (t.set i (t[i].set k 1)) K := fun j hj => by
  obtain ⟨r, hr, h1⟩ := h j hj
  obtain ⟨m, hm, rfl⟩ := List.getElem_of_mem hr
  by_cases e : i = m
  · subst e
    exact ⟨_, List.mem_set hi _, getD_set1 h1⟩
  · refine ⟨t[m], ?_, h1⟩
    have hm' : m < (t.set i (t[i].set k 1)).length := by rw [List.length_set]; exact hm
    have : (t.set i (t[i].set k 1))[m] = t[m] := by rw [List.getElem_set_ne e]
    rw [← this]; exact List.getElem_mem hm'
theorem openTo.next {t : List (List Int)} {K : Nat} (h : openTo t K) {i : Nat} (hi : i < t.length) (hk : K < t[i].length) : openTo (t.set i (t[i].set K 1)) (K + 1) := fun j hj => by
  rcases Nat.lt_succ_iff_lt_or_eq.1 hj with hj | rfl
  · exact h.set hi K j hj
  · refine ⟨_, List.mem_set hi _, ?_⟩
    simp [hk]
theorem tab_system {mk : MK} {n c : Nat} {t : List (List Int)} (hm : isMaker mk = true) (h : Tab01 n c t) (hn : 1 ≤ n ∧ n ≤ 10) (hc : 1 ≤ c ∧ c ≤ 12) (ho : openTo t c) : isSystem mk t = true := by
  have ht0 : 0 < t.length := by have := h.len; omega
  have hd : doorsOf t = c := by
    unfold doorsOf
    rw [List.getD_eq_getElem?_getD, List.getElem?_eq_getElem ht0]
    exact h.row _ (List.getElem_mem ht0)
  unfold isSystem
  rw [hm, Bool.true_and, Bool.and_eq_true]
  refine ⟨?_, ?_⟩
  · rw [isTable_good (fun k hk => ?_), decide_eq_true_iff, h.len]
    · exact hn
    · have h1 := h.row _ (List.getElem_mem hk)
      unfold tabRow
      have hd' : (t.getD 0 []).length = c := hd
      rw [hd', Bool.and_eq_true, Bool.and_eq_true]
      refine ⟨by simpa using h1, by simp only [decide_eq_true_iff]; omega, ?_⟩
      unfold allB
      rw [List.all_eq_true]
      intro x hx
      have := h.ent _ (List.getElem_mem hk) x hx
      unfold inB
      simp only [Bool.and_eq_true, decide_eq_true_iff]
      omega
  · rw [hd, List.all_eq_true]
    intro j hj
    obtain ⟨r, hr, h1⟩ := ho j (by simpa using hj)
    unfold doorOpen
    rw [List.any_eq_true]
    exact ⟨r, hr, by rw [h1]; rfl⟩

/-- a cell of a row may be written -/
theorem pokeAt {L B : Nat} {e : TypeId} {w : World} {v : Value} {t : List (List Int)} (h : OwnR true L IntsR e B w v t) {i : Nat} (hi : i < t.length) {k : Nat} (hk : k < t[i].length) (hLB : L ≤ B) :
    ∃ gb n cap rb ro rn rc, v = .slice (some ⟨gb, 0, none⟩) n cap ∧ n = t.length ∧ w.cell? ⟨gb, i, none⟩ = some (.slice (some ⟨rb, ro, none⟩) rn rc) ∧ rn = t[i].length ∧ L ≤ rb ∧ rb < w.heap.size ∧ rb ≠ gb ∧ (∃ x, w.cell? ⟨rb, ro + k, none⟩ = some (.int .i64 x)) ∧ w.frozen? ⟨rb, ro + k, none⟩ = false ∧ B ≤ gb ∧ gb < w.heap.size ∧
      ∀ y, I64 y → OwnR true L IntsR e B (w.setCell ⟨rb, ro + k, none⟩ (.int .i64 y)) v (t.set i (t[i].set k y)) := by
  obtain ⟨us, Z, hl, ho, g1, g2, g3⟩ := h
  obtain ⟨a, n, cap, rfl, hn, hm, hel⟩ := ho.shape
  obtain ⟨gb, rfl, hb, hlt, hc, hf⟩ := hel i (by omega)
  have hus : i < us.length := by omega
  have hE := g3 i hi hus
  obtain ⟨hown0, hz0⟩ := g1 i hi
  obtain ⟨ra, rn, rc, he, hrn, -, -, -, -, hrel⟩ := SliceR.shape hE
  obtain ⟨rb, ro, rfl, hrz, hrlt, hrf, u, y0, hru, -, -, hux⟩ := hrel k hk
  obtain ⟨hrz1, -, hrz3⟩ := hz0 rb hrz
  have hne : rb ≠ gb := fun q => hrz3 (by rw [q]; rfl)
  rw [he] at hc hE
  refine ⟨gb, n, cap, rb, ro, rn, rc, rfl, by omega, hc, hrn, hrz1, hrlt, hne, ⟨_, by rw [hru, hux.1]⟩, hrf (hown0 rfl), hb, hlt, fun y hy => ?_⟩
  have hset : ∀ j, j ≠ rb → (w.setCell ⟨rb, ro + k, none⟩ (.int .i64 y)).heap[j]? = w.heap[j]? := fun j hj => Below.heap_setCell _ _ _ _ hj
  have hsz : (w.setCell ⟨rb, ro + k, none⟩ (.int .i64 y)).heap.size = w.heap.size := by simp [World.setCell]
  refine ⟨us, Z, by rw [List.length_set]; exact hl, ?_, fun j hj => ⟨(g1 j (by simpa using hj)).1, fun q hq => ?_⟩, fun _ j m hjm hm => g2 rfl j m hjm (by simpa using hm), fun j hj hj' => ?_⟩
  · obtain ⟨o1, o2⟩ := ho
    refine ⟨o1, ?_⟩
    rcases o2 with o2 | ⟨g, cp, cur, hv, hbg, hg, r⟩
    · exact .inl o2
    · refine .inr ⟨g, cp, cur, hv, hbg, ?_, r⟩
      have hgg : g = gb := by injection hv with hv _ _; injection hv with hv; injection hv with hv _ _; exact hv.symm
      rw [hset g (by omega)]; exact hg
  · rw [hsz]
    exact (g1 j (by simpa using hj)).2 q hq
  · have hj2 : j < t.length := by simpa using hj
    by_cases e : j = i
    · subst e
      rw [List.getElem_set_self]
      have := ints_store hE k (by omega) hy
      rw [he]; exact this
    · rw [List.getElem_set_ne (by omega)]
      refine stable_ints.keep (g3 j hj2 hj') (fun q hk1 _ => hset q (fun q' => ?_))
      subst q'
      rcases Nat.lt_or_gt_of_ne e with e | e
      · exact g2 rfl j i e hi q hk1 hrz
      · exact g2 rfl i j e hj2 q hrz hk1

open Go.ChangeShapes Go.WideShapes Go.ChangeAt Go.RowKit
set_option linter.unusedVariables false

/-- a door: two rooms, the smaller one first -/
def badDoor (c : Int) (p : List Int) : Bool := decide (p.length ≠ 2) || !rising p c
def roomsOk (c : Int) (ds : List (List Int)) : Bool := !ds.any (badDoor c) && (inB c 2 8 && decide (ds.length ≤ 12))

/-- a plan of rooms by value -/
def RoomsR : Repr (Int × List (List Int)) := fun z w v x => ∃ u, v = .agg #[.int .i64 x.1, u] ∧ I64 x.1 ∧ RowsR z w u x.2
theorem stable_Rooms : Stable RoomsR := ⟨fun ⟨u, h1, h2, h3⟩ hs => ⟨u, h1, h2, stable_rows.keep h3 hs⟩, fun ⟨u, h1, h2, h3⟩ hs => ⟨u, h1, h2, stable_rows.sub h3 hs⟩⟩

theorem roomsOk_bad {c : Int} {ds : List (List Int)} (k : Nat) (hk : k < ds.length) (h : badDoor c ds[k] = true) : roomsOk c ds = false := by
  have : ds.any (badDoor c) = true := by rw [List.any_eq_true]; exact ⟨_, List.getElem_mem hk, h⟩
  unfold roomsOk; rw [this]; rfl
theorem roomsOk_good {c : Int} {ds : List (List Int)} (h : ∀ k (hk : k < ds.length), badDoor c ds[k] = false) : roomsOk c ds = (inB c 2 8 && decide (ds.length ≤ 12)) := by
  have : ds.any (badDoor c) = false := by
    rw [List.any_eq_false]; intro y hy
    obtain ⟨i, hi, rfl⟩ := List.getElem_of_mem hy
    simp [h i hi]
  unfold roomsOk; rw [this]; rfl

/-! ### the reference's -/
/-- a pair as the reference looks at it, wraps and all -/
def specBad (c : Int) (p : List Int) : Bool := decide (p.length ≠ 2) || (!inB (p.getD 0 0) 0 (wrap64 (p.getD 1 0 - 1)) || !inB (p.getD 1 0) 1 (wrap64 (c - 1)))
theorem wrap_sub {x : Int} (h : I64 x) : wrap64 (x - 1) = if x = -9223372036854775808 then 9223372036854775807 else x - 1 := by
  obtain ⟨h1, h2⟩ := h
  unfold wrap64
  split <;> omega
theorem specBad_eq {c : Int} {p : List Int} (hp : ∀ x ∈ p, I64 x) (hc : 2 ≤ c ∧ c ≤ 8) : specBad c p = badDoor c p := by
  unfold specBad badDoor
  by_cases hl : p.length = 2
  · match p, hl with
    | [x, y], _ =>
      have hx := hp x (by simp)
      have hy := hp y (by simp)
      simp only [List.getD_cons_zero, List.getD_cons_succ]
      have hcw : wrap64 (c - 1) = c - 1 := by
        rw [wrap_sub (x := c) ⟨by omega, by omega⟩]
        split <;> omega
      rw [wrap_sub hy, hcw]
      have hr : rising [x, y] c = (decide (0 ≤ x ∧ x < c) && decide (0 ≤ y ∧ y < c ∧ x < y)) := by
        simp [rising, List.range_succ, risingAt]
      rw [hr]
      obtain ⟨g1, g2⟩ := hx
      obtain ⟨g3, g4⟩ := hy
      simp only [inB]
      rw [Bool.eq_iff_iff]
      by_cases e : y = -9223372036854775808
      · rw [if_pos e]; simp; omega
      · rw [if_neg e]; simp; omega
  · simp [hl]
theorem roomsOk_spec {c : Int} {ds : List (List Int)} (hds : ∀ p ∈ ds, ∀ x ∈ p, I64 x) : roomsOk c ds = (!ds.any (specBad c) && (inB c 2 8 && decide (ds.length ≤ 12))) := by
  unfold roomsOk
  by_cases hc : 2 ≤ c ∧ c ≤ 8
  · have : ds.any (badDoor c) = ds.any (specBad c) := by
      rw [Bool.eq_iff_iff, List.any_eq_true, List.any_eq_true]
      constructor
      · rintro ⟨p, hp, h⟩; exact ⟨p, hp, by rw [specBad_eq (hds p hp) hc]; exact h⟩
      · rintro ⟨p, hp, h⟩; exact ⟨p, hp, by rw [← specBad_eq (hds p hp) hc]; exact h⟩
    rw [this]
  · have : inB c 2 8 = false := by simp only [inB, Bool.and_eq_false_iff, decide_eq_false_iff_not]; omega
    rw [this]; simp

theorem specBad_len {c : Int} {p : List Int} (h : p.length ≠ 2) : specBad c p = true := by simp [specBad, h]
theorem specBad_in {c : Int} {p : List Int} (h : p.length = 2) : specBad c p = (!inB (p.getD 0 0) 0 (wrap64 (p.getD 1 0 - 1)) || !inB (p.getD 1 0) 1 (wrap64 (c - 1))) := by simp [specBad, h]

open Go.ChangeShapes Go.WideShapes Go.ChangeAt Go.RowKit
set_option linter.unusedVariables false

def Valid25 (w : World) (r : Value) (w' : World) : Prop := ∃ (n : Nat) (u : Value) (ds : List (List Int)), r = .agg #[.int .i64 n, u] ∧ 2 ≤ n ∧ n ≤ 6 ∧ OwnR false w.heap.size IntsR 41 w.heap.size w' u ds ∧ 1 ≤ ds.length ∧ ds.length ≤ 8

theorem wrapI (x : Int) : I64 (IntKind.i64.wrap x) := by rw [IntKind.wrap_i64]; unfold I64; omega

open Go.ChangeShapes Go.WideShapes Go.ChangeAt Go.RowKit
set_option linter.unusedVariables false

/-- a maker's numbers lie in block b, which may be written -/
def Box5 (b : Nat) (mk : MK) (w : World) : Prop := MkAt w b mk ∧ ∀ i, w.frozen? ⟨b, i, none⟩ = false
def MK.cells (mk : MK) : Array Value := #[.int .i64 mk.c, .int .i64 mk.d, .int .i64 mk.s, .int .i64 mk.m, .int .i64 mk.l]
theorem Box5.new (w : World) (mk : MK) (t : TypeId) : Box5 w.heap.size mk (w.alloc (.cells #[.int .i64 mk.c, .int .i64 mk.d, .int .i64 mk.s, .int .i64 mk.m, .int .i64 mk.l] t)) :=
  ⟨(mk_box rfl).2, fun i => frozen_of_row _ _ _ _ t (heap_alloc_new w _)⟩
theorem Box5.dr {b g : Nat} {mk : MK} {w w' : World} (h : Box5 b mk w) (hd : Dr g w w') (hb : b ≠ g) : Box5 b mk w' := by
  obtain ⟨⟨c0, c1, c2, c3, c4⟩, f⟩ := h
  have hlt : b < w.heap.size := World.block_lt_of_cell? _ _ c0
  exact ⟨⟨hd.cell c0 hb, hd.cell c1 hb, hd.cell c2 hb, hd.cell c3 hb, hd.cell c4 hb⟩, fun i => (hd.frozen (p := ⟨b, i, none⟩) hlt hb).trans (f i)⟩
theorem Box5.out {b : Nat} {mk : MK} {w : World} (h : Box5 b mk w) : (w.cell? ⟨b, 0, none⟩ = some (.int .i64 mk.c) ∧ w.cell? ⟨b, 1, none⟩ = some (.int .i64 mk.d) ∧ w.cell? ⟨b, 2, none⟩ = some (.int .i64 mk.s) ∧ w.cell? ⟨b, 3, none⟩ = some (.int .i64 mk.m) ∧ w.cell? ⟨b, 4, none⟩ = some (.int .i64 mk.l)) ∧
    w.frozen? ⟨b, 0, none⟩ = false ∧ w.frozen? ⟨b, 1, none⟩ = false ∧ w.frozen? ⟨b, 2, none⟩ = false ∧ w.frozen? ⟨b, 3, none⟩ = false ∧ w.frozen? ⟨b, 4, none⟩ = false :=
  ⟨h.1, h.2 0, h.2 1, h.2 2, h.2 3, h.2 4⟩
theorem Box5.far {b : Nat} {mk : MK} {w : World} (h : Box5 b mk w) {p : Addr} (hp : p.block ≠ b) (u : Value) : Box5 b mk (w.setCell p u) := by
  obtain ⟨⟨c0, c1, c2, c3, c4⟩, f⟩ := h
  have e : ∀ i, p ≠ ⟨b, i, none⟩ := fun i q => hp (by rw [q])
  exact ⟨⟨by rw [World.cell?_setCell_other _ _ _ _ (e 0)]; exact c0, by rw [World.cell?_setCell_other _ _ _ _ (e 1)]; exact c1, by rw [World.cell?_setCell_other _ _ _ _ (e 2)]; exact c2, by rw [World.cell?_setCell_other _ _ _ _ (e 3)]; exact c3, by rw [World.cell?_setCell_other _ _ _ _ (e 4)]; exact c4⟩, fun i => by rw [World.frozen?_setCell]; exact f i⟩
theorem Box5.put0 {b : Nat} {c d s m l : Int} {w : World} (h : Box5 b ⟨c, d, s, m, l⟩ w) (x : Int) : Box5 b ⟨x, d, s, m, l⟩ (w.setCell ⟨b, 0, none⟩ (.int .i64 x)) := by
  obtain ⟨⟨c0, c1, c2, c3, c4⟩, f⟩ := h
  exact ⟨⟨World.cell?_setCell_same _ _ _ c0, by rw [World.cell?_setCell_other _ _ _ _ (by simp)]; exact c1, by rw [World.cell?_setCell_other _ _ _ _ (by simp)]; exact c2, by rw [World.cell?_setCell_other _ _ _ _ (by simp)]; exact c3, by rw [World.cell?_setCell_other _ _ _ _ (by simp)]; exact c4⟩, fun i => by rw [World.frozen?_setCell]; exact f i⟩
theorem Box5.put1 {b : Nat} {c d s m l : Int} {w : World} (h : Box5 b ⟨c, d, s, m, l⟩ w) (x : Int) : Box5 b ⟨c, x, s, m, l⟩ (w.setCell ⟨b, 1, none⟩ (.int .i64 x)) := by
  obtain ⟨⟨c0, c1, c2, c3, c4⟩, f⟩ := h
  exact ⟨⟨by rw [World.cell?_setCell_other _ _ _ _ (by simp)]; exact c0, World.cell?_setCell_same _ _ _ c1, by rw [World.cell?_setCell_other _ _ _ _ (by simp)]; exact c2, by rw [World.cell?_setCell_other _ _ _ _ (by simp)]; exact c3, by rw [World.cell?_setCell_other _ _ _ _ (by simp)]; exact c4⟩, fun i => by rw [World.frozen?_setCell]; exact f i⟩
theorem Box5.put2 {b : Nat} {c d s m l : Int} {w : World} (h : Box5 b ⟨c, d, s, m, l⟩ w) (x : Int) : Box5 b ⟨c, d, x, m, l⟩ (w.setCell ⟨b, 2, none⟩ (.int .i64 x)) := by
  obtain ⟨⟨c0, c1, c2, c3, c4⟩, f⟩ := h
  exact ⟨⟨by rw [World.cell?_setCell_other _ _ _ _ (by simp)]; exact c0, by rw [World.cell?_setCell_other _ _ _ _ (by simp)]; exact c1, World.cell?_setCell_same _ _ _ c2, by rw [World.cell?_setCell_other _ _ _ _ (by simp)]; exact c3, by rw [World.cell?_setCell_other _ _ _ _ (by simp)]; exact c4⟩, fun i => by rw [World.frozen?_setCell]; exact f i⟩
theorem Box5.put3 {b : Nat} {c d s m l : Int} {w : World} (h : Box5 b ⟨c, d, s, m, l⟩ w) (x : Int) : Box5 b ⟨c, d, s, x, l⟩ (w.setCell ⟨b, 3, none⟩ (.int .i64 x)) := by
  obtain ⟨⟨c0, c1, c2, c3, c4⟩, f⟩ := h
  exact ⟨⟨by rw [World.cell?_setCell_other _ _ _ _ (by simp)]; exact c0, by rw [World.cell?_setCell_other _ _ _ _ (by simp)]; exact c1, by rw [World.cell?_setCell_other _ _ _ _ (by simp)]; exact c2, World.cell?_setCell_same _ _ _ c3, by rw [World.cell?_setCell_other _ _ _ _ (by simp)]; exact c4⟩, fun i => by rw [World.frozen?_setCell]; exact f i⟩
theorem Box5.put4 {b : Nat} {c d s m l : Int} {w : World} (h : Box5 b ⟨c, d, s, m, l⟩ w) (x : Int) : Box5 b ⟨c, d, s, m, x⟩ (w.setCell ⟨b, 4, none⟩ (.int .i64 x)) := by
  obtain ⟨⟨c0, c1, c2, c3, c4⟩, f⟩ := h
  exact ⟨⟨by rw [World.cell?_setCell_other _ _ _ _ (by simp)]; exact c0, by rw [World.cell?_setCell_other _ _ _ _ (by simp)]; exact c1, by rw [World.cell?_setCell_other _ _ _ _ (by simp)]; exact c2, by rw [World.cell?_setCell_other _ _ _ _ (by simp)]; exact c3, World.cell?_setCell_same _ _ _ c4⟩, fun i => by rw [World.frozen?_setCell]; exact f i⟩

theorem run_min3 {P : Program} (w : World) (ts : Array TypeId) (t : TypeId) (x y z : Int) :
    (Builtin.min_ ts t #[.int .i64 x, .int .i64 y, .int .i64 z]).run P w = .ok (.int .i64 (min (min x y) z)) w := by
  have e1 : (if y < x then y else x) = min x y := by
    rw [Int.min_def]
    split <;> split <;> omega
  have e2 : (if z < min x y then z else min x y) = min (min x y) z := by
    generalize min x y = q
    rw [Int.min_def]
    split <;> split <;> omega
  simp [Builtin.min_, Builtin.min2, e1, e2]

set_option maxRecDepth 20000 in
set_option maxHeartbeats 4000000 in
theorem l02Valid_c (w : World) (g : Nat) (h : Src g w) : Calls Tryz.prog 100 #[.pointer (some ⟨g, 0, none⟩)] w (DrawR g w fun r _ => ∃ mk : MK, r = mk.v ∧ isMaker mk = true ∧ mk.l ≤ 2 ∧ mk.c ≤ 4 ∧ mk.d ≤ 4) := by
  have hlt := h.lt
  have hd0 := (Dr.refl h).alloc (.cells #[.int .i64 0, .int .i64 0, .int .i64 0, .int .i64 0, .int .i64 0] 25)
  have hbx := Box5.new w ⟨0, 0, 0, 0, 0⟩ 25
  have hsz0 : (w.alloc (.cells #[.int .i64 0, .int .i64 0, .int .i64 0, .int .i64 0, .int .i64 0] 25)).heap.size = w.heap.size + 1 := by simp
  have hcall := l01Next_c _ g hd0.src 3 (by unfold I64; omega)
  clear h
  go_enter Tryz.func100, Tryz.ntmps100
  go_wp2_with fail
  generalize w.alloc (.cells #[.int .i64 0, .int .i64 0, .int .i64 0, .int .i64 0, .int .i64 0] 25) = w0 at *
  refine Calls.mono hcall ?_
  rintro e w1 ⟨_, rfl, ⟨x, rfl, hx0, hx1⟩, hd1⟩
  clear hcall
  have hsa := hd1.size
  replace hbx := hbx.dr hd1 (by omega)
  replace hd1 := hd0.trans hd1
  clear hd0
  have hcall := l01Next_c _ g hd1.src 3 (by unfold I64; omega)
  go_wp2_with fail
  refine Calls.mono hcall ?_
  rintro e w2 ⟨_, rfl, ⟨y, rfl, hy0, hy1⟩, hd2⟩
  clear hcall
  have hsb := hd2.size
  replace hbx := hbx.dr hd2 (by omega)
  replace hd2 := hd1.trans hd2
  clear hd1
  go_wp2_with fail
  obtain ⟨c, hc⟩ : ∃ c, 2 + x = c := ⟨_, rfl⟩
  obtain ⟨d, hdd⟩ : ∃ d, 2 + y = d := ⟨_, rfl⟩
  have hc4 : 2 ≤ c ∧ c ≤ 4 := by omega
  have hd4 : 2 ≤ d ∧ d ≤ 4 := by omega
  rw [hc, hdd]
  clear hc hdd hx0 hx1 hy0 hy1
  have hs2 := hd2.size
  have hby := Box5.new w2 ⟨c, d, 0, 0, 0⟩ 25
  have hd3 := hd2.alloc (.cells #[.int .i64 c, .int .i64 d, .int .i64 0, .int .i64 0, .int .i64 0] 25)
  replace hbx := hbx.dr ((Dr.refl hd2.src).alloc (.cells #[.int .i64 c, .int .i64 d, .int .i64 0, .int .i64 0, .int .i64 0] 25)) (by omega)
  have hne : w2.heap.size ≠ w.heap.size := by omega
  obtain ⟨b, hb⟩ : ∃ b, w2.heap.size = b := ⟨_, rfl⟩
  have hgb : b ≠ g := by omega
  have hwb : w.heap.size ≤ b := by omega
  have hbw : w.heap.size ≠ b := by omega
  simp only [hb] at hby ⊢
  generalize w2.alloc (.cells #[.int .i64 c, .int .i64 d, .int .i64 0, .int .i64 0, .int .i64 0] 25) = w3 at *
  refine (l01Next_c _ g hd3.src (d - 1) (by unfold I64; omega)).mono ?_
  rintro e w4 ⟨_, rfl, ⟨x, rfl, hx0, hx1⟩, hd4⟩
  replace hbx := hbx.dr hd4 (by omega)
  replace hby := hby.dr hd4 hgb
  replace hd3 := hd3.trans hd4
  clear hd4
  have hx : 1 ≤ 1 + x ∧ 1 + x ≤ d - 1 := by omega
  obtain ⟨⟨c0, c1, c2, c3, c4⟩, f0, f1, f2, f3, f4⟩ := hby.out
  simp only at c0 c1 c2 c3 c4
  have hby5 := hby.put2 (1 + x)
  have hbx5 := hbx.far (p := ⟨b, 2, none⟩) (by show b ≠ _; omega) (.int .i64 (1 + x))
  have hd5 := hd3.put (p := ⟨b, 2, none⟩) hwb (.int .i64 (1 + x))
  obtain ⟨⟨e0, e1, e2, e3, e4⟩, f0', f1', f2', f3', f4'⟩ := hby5.out
  simp only at e0 e1 e2 e3 e4
  go_wp2_with fail
  generalize 1 + x = s at *
  clear hx0 hx1 c0 c1 c2 c3 c4 f0 f1 f2 f3 f4 e0 e1 e2 e3 e4 f0' f1' f2' f3' f4' hbx hby hd3
  generalize w4.setCell ⟨b, 2, none⟩ (.int .i64 s) = w5 at *
  refine (l01Next_c _ g hd5.src c (by unfold I64; omega)).mono ?_
  rintro e w6 ⟨_, rfl, ⟨x, rfl, hx0, hx1⟩, hd6⟩
  replace hbx5 := hbx5.dr hd6 (by omega)
  replace hby5 := hby5.dr hd6 hgb
  replace hd5 := hd5.trans hd6
  clear hd6
  have hxm : 1 ≤ 1 + x ∧ 1 + x ≤ c := by omega
  obtain ⟨⟨c0, c1, c2, c3, c4⟩, f0, f1, f2, f3, f4⟩ := hby5.out
  simp only at c0 c1 c2 c3 c4
  have hby := hby5.put3 (1 + x)
  have hbx := hbx5.far (p := ⟨b, 3, none⟩) (by show b ≠ _; omega) (.int .i64 (1 + x))
  have hd3 := hd5.put (p := ⟨b, 3, none⟩) hwb (.int .i64 (1 + x))
  obtain ⟨⟨e0, e1, e2, e3, e4⟩, f0', f1', f2', f3', f4'⟩ := hby.out
  simp only at e0 e1 e2 e3 e4
  have hmn := run_min3 (P := Tryz.prog) (w6.setCell ⟨b, 3, none⟩ (.int .i64 (1 + x))) #[2, 2, 2] 2 2 c d
  rw [show min (min 2 c) d = 2 by omega] at hmn
  go_wp2_with fail
  generalize 1 + x = m at *
  clear hx0 hx1 c0 c1 c2 c3 c4 f0 f1 f2 f3 f4 e0 e1 e2 e3 e4 f0' f1' f2' f3' f4' hbx5 hby5 hd5
  generalize w6.setCell ⟨b, 3, none⟩ (.int .i64 m) = w7 at *
  clear hmn
  refine (l01Next_c _ g hd3.src 2 (by unfold I64; omega)).mono ?_
  rintro e w8 ⟨_, rfl, ⟨x, rfl, hx0, hx1⟩, hd8⟩
  replace hbx := hbx.dr hd8 (by omega)
  replace hby := hby.dr hd8 hgb
  replace hd3 := hd3.trans hd8
  clear hd8
  have hxl : 1 ≤ 1 + x ∧ 1 + x ≤ 2 := by omega
  obtain ⟨⟨c0, c1, c2, c3, c4⟩, f0, f1, f2, f3, f4⟩ := hby.out
  simp only at c0 c1 c2 c3 c4
  have hby5 := hby.put4 (1 + x)
  have hbx5 := hbx.far (p := ⟨b, 4, none⟩) (by show b ≠ _; omega) (.int .i64 (1 + x))
  have hd5 := hd3.put (p := ⟨b, 4, none⟩) hwb (.int .i64 (1 + x))
  obtain ⟨⟨e0, e1, e2, e3, e4⟩, f0', f1', f2', f3', f4'⟩ := hby5.out
  obtain ⟨⟨g0, g1, g2, g3, g4⟩, j0, j1, j2, j3, j4⟩ := hbx5.out
  simp only at e0 e1 e2 e3 e4 g0 g1 g2 g3 g4
  clear hbx hby hd3
  go_wp2_with fail
  generalize 1 + x = l at *
  refine bodyPost_ret (v := .agg #[.int .i64 c, .int .i64 d, .int .i64 s, .int .i64 m, .int .i64 l]) (by simp [results, Tryz.results100, go_sem, g0, g1, g2, g3, g4]) rfl ⟨_, rfl, ⟨⟨c, d, s, m, l⟩, rfl, isMaker_iff.2 ⟨by simp only; omega, by simp only; omega, by simp only; omega, by simp only; omega, by simp only; omega⟩, by simp only; omega, by simp only; omega, by simp only; omega⟩, ?_⟩
  exact Dr.put (Dr.put (Dr.put (Dr.put (Dr.put hd5 (p := ⟨w.heap.size, 0, none⟩) (Nat.le_refl _) _) (p := ⟨w.heap.size, 1, none⟩) (Nat.le_refl _) _) (p := ⟨w.heap.size, 2, none⟩) (Nat.le_refl _) _) (p := ⟨w.heap.size, 3, none⟩) (Nat.le_refl _) _) (p := ⟨w.heap.size, 4, none⟩) (Nat.le_refl _) _

/-- a maker as a draw may damage it -/
def MkR (mk : MK) : Prop := (0 ≤ mk.c ∧ mk.c ≤ 9) ∧ (0 ≤ mk.d ∧ mk.d ≤ 9) ∧ (0 ≤ mk.s ∧ mk.s ≤ 9)
theorem mkR_of {mk : MK} (h : isMaker mk = true) : MkR mk := by
  have := isMaker_iff.1 h
  exact ⟨⟨by omega, by omega⟩, ⟨by omega, by omega⟩, by omega, by omega⟩
/-- the result's five cells are laid last -/
theorem put5 {g B : Nat} {w w' : World} (hd : Dr g w w') (hB : w.heap.size ≤ B) (u0 u1 u2 u3 u4 : Value) : Dr g w (((((w'.setCell ⟨B, 0, none⟩ u0).setCell ⟨B, 1, none⟩ u1).setCell ⟨B, 2, none⟩ u2).setCell ⟨B, 3, none⟩ u3).setCell ⟨B, 4, none⟩ u4) :=
  Dr.put (Dr.put (Dr.put (Dr.put (Dr.put hd (p := ⟨B, 0, none⟩) hB _) (p := ⟨B, 1, none⟩) hB _) (p := ⟨B, 2, none⟩) hB _) (p := ⟨B, 3, none⟩) hB _) (p := ⟨B, 4, none⟩) hB _

set_option maxRecDepth 20000 in
set_option maxHeartbeats 8000000 in
theorem l02Draw_c (w : World) (g : Nat) (h : Src g w) : Calls Tryz.prog 47 #[.pointer (some ⟨g, 0, none⟩)] w (DrawR g w fun r _ => ∃ mk : MK, r = mk.v ∧ MkR mk) := by
  have hlt := h.lt
  have hd0 := (Dr.refl h).alloc (.cells #[.int .i64 0, .int .i64 0, .int .i64 0, .int .i64 0, .int .i64 0] 25)
  have hbx := Box5.new w ⟨0, 0, 0, 0, 0⟩ 25
  have hsz0 : (w.alloc (.cells #[.int .i64 0, .int .i64 0, .int .i64 0, .int .i64 0, .int .i64 0] 25)).heap.size = w.heap.size + 1 := by simp
  have hcall := l02Valid_c _ g hd0.src
  clear h
  go_enter Tryz.func47, Tryz.ntmps47
  go_wp2_with fail
  generalize w.alloc (.cells #[.int .i64 0, .int .i64 0, .int .i64 0, .int .i64 0, .int .i64 0] 25) = w0 at *
  refine Calls.mono hcall ?_
  rintro e w1 ⟨_, rfl, ⟨mk, rfl, hmk, hl2, hc4, hd4⟩, hd1⟩
  clear hcall
  have hsa := hd1.size
  replace hbx := hbx.dr hd1 (by omega)
  replace hd1 := hd0.trans hd1
  clear hd0
  have hmi := isMaker_iff.1 hmk
  obtain ⟨c, d, s, m, lm⟩ := mk
  simp only at hmi hl2 hc4 hd4
  unfold MK.v
  have hby := Box5.new w1 ⟨c, d, s, m, lm⟩ 25
  have hd3 := hd1.alloc (.cells #[.int .i64 c, .int .i64 d, .int .i64 s, .int .i64 m, .int .i64 lm] 25)
  replace hbx := hbx.dr ((Dr.refl hd1.src).alloc (.cells #[.int .i64 c, .int .i64 d, .int .i64 s, .int .i64 m, .int .i64 lm] 25)) (by omega)
  obtain ⟨b, hb⟩ : ∃ b, w1.heap.size = b := ⟨_, rfl⟩
  have hgb : b ≠ g := by omega
  have hwb : w.heap.size ≤ b := by omega
  have hbw : b ≠ w.heap.size := by omega
  have hcall := l01Next_c _ g hd3.src 30 (by unfold I64; omega)
  go_wp2_with fail
  simp only [hb] at hby ⊢
  generalize w1.alloc (.cells #[.int .i64 c, .int .i64 d, .int .i64 s, .int .i64 m, .int .i64 lm] 25) = w3 at *
  refine Calls.mono hcall ?_
  rintro e w4 ⟨_, rfl, ⟨x, rfl, hx0, hx1⟩, hd5⟩
  clear hcall
  replace hbx := hbx.dr hd5 (by omega)
  replace hby := hby.dr hd5 hgb
  replace hd3 := hd3.trans hd5
  clear hd5
  have HX : Hid (∀ w', Dr g w4 w' → Box5 w.heap.size ⟨0, 0, 0, 0, 0⟩ w') := fun w' hd => hbx.dr hd (by omega)
  have HY : Hid (∀ w', Dr g w4 w' → Box5 b ⟨c, d, s, m, lm⟩ w') := fun w' hd => hby.dr hd hgb
  have hr4 : Dr g w4 w4 := Dr.refl hd3.src
  have HD := Lib.hid hd3
  clear hbx
  have hmin := Lib.run_min_ints (P := Tryz.prog) w4 #[2, 2] 2 .i64 .i64 c d
  obtain ⟨q, hq⟩ : ∃ q, min c d = q := ⟨_, rfl⟩
  rw [hq] at hmin
  have hq2 : 2 ≤ q ∧ q ≤ 4 := by omega
  by_cases e0 : x = 0
  · subst e0
    have hcall := pickL_c w4 g hr4.src [1, 6, 7] #[.int .i64 1, .int .i64 6, .int .i64 7] rfl (by simp [I64]; try omega) (by simp) (by simp) rfl rfl
    obtain ⟨⟨c0, c1, c2, c3, c4⟩, f0, f1, f2, f3, f4⟩ := hby.out
    simp only at c0 c1 c2 c3 c4
    go_wp2_with fail
    try rw [hq]
    refine Calls.mono hcall ?_
    rintro e w5 ⟨_, rfl, ⟨y, rfl, hy⟩, hd5⟩
    simp only [List.mem_cons, List.not_mem_nil, or_false] at hy
    have hd6 : Dr g w4 w5 := (hr4.alloc _).trans hd5
    have hY := HY.out _ hd6
    have hX := HX.out _ hd6
    clear c0 c1 c2 c3 c4 f0 f1 f2 f3 f4 hby hmin
    obtain ⟨⟨c0, c1, c2, c3, c4⟩, f0, f1, f2, f3, f4⟩ := hY.out
    have hY2 := hY.put0 y
    have hX2 := hX.far (p := ⟨b, 0, none⟩) hbw (.int .i64 y)
    have hd7 := (HD.out.trans hd6).put (p := ⟨b, 0, none⟩) hwb (.int .i64 y)
    obtain ⟨⟨e0, e1, e2, e3, e4⟩, f0', f1', f2', f3', f4'⟩ := hY2.out
    obtain ⟨⟨g0, g1, g2, g3, g4⟩, j0, j1, j2, j3, j4⟩ := hX2.out
    simp only at e0 e1 e2 e3 e4 g0 g1 g2 g3 g4 c0 c1 c2 c3 c4
    clear hY hX hY2 hX2
    go_wp2_with fail
    refine bodyPost_ret (v := .agg #[.int .i64 y, .int .i64 d, .int .i64 s, .int .i64 m, .int .i64 lm]) (by simp [results, Tryz.results47, go_sem, g0, g1, g2, g3, g4]) rfl ⟨_, rfl, ⟨⟨y, d, s, m, lm⟩, rfl, ⟨by simp only; omega, by simp only; omega, by simp only; omega⟩⟩, put5 hd7 (Nat.le_refl _) _ _ _ _ _⟩
  have n0 : (x == 0) = false := by simpa using e0
  clear e0
  by_cases e0 : x = 1
  · subst e0
    have hcall := pickL_c w4 g hr4.src [1, 8, 9] #[.int .i64 1, .int .i64 8, .int .i64 9] rfl (by simp [I64]; try omega) (by simp) (by simp) rfl rfl
    obtain ⟨⟨c0, c1, c2, c3, c4⟩, f0, f1, f2, f3, f4⟩ := hby.out
    simp only at c0 c1 c2 c3 c4
    go_wp2_with fail
    try rw [hq]
    refine Calls.mono hcall ?_
    rintro e w5 ⟨_, rfl, ⟨y, rfl, hy⟩, hd5⟩
    simp only [List.mem_cons, List.not_mem_nil, or_false] at hy
    have hd6 : Dr g w4 w5 := (hr4.alloc _).trans hd5
    have hY := HY.out _ hd6
    have hX := HX.out _ hd6
    clear c0 c1 c2 c3 c4 f0 f1 f2 f3 f4 hby hmin
    obtain ⟨⟨c0, c1, c2, c3, c4⟩, f0, f1, f2, f3, f4⟩ := hY.out
    have hY2 := hY.put1 y
    have hX2 := hX.far (p := ⟨b, 1, none⟩) hbw (.int .i64 y)
    have hd7 := (HD.out.trans hd6).put (p := ⟨b, 1, none⟩) hwb (.int .i64 y)
    obtain ⟨⟨e0, e1, e2, e3, e4⟩, f0', f1', f2', f3', f4'⟩ := hY2.out
    obtain ⟨⟨g0, g1, g2, g3, g4⟩, j0, j1, j2, j3, j4⟩ := hX2.out
    simp only at e0 e1 e2 e3 e4 g0 g1 g2 g3 g4 c0 c1 c2 c3 c4
    clear hY hX hY2 hX2
    go_wp2_with fail
    refine bodyPost_ret (v := .agg #[.int .i64 c, .int .i64 y, .int .i64 s, .int .i64 m, .int .i64 lm]) (by simp [results, Tryz.results47, go_sem, g0, g1, g2, g3, g4]) rfl ⟨_, rfl, ⟨⟨c, y, s, m, lm⟩, rfl, ⟨by simp only; omega, by simp only; omega, by simp only; omega⟩⟩, put5 hd7 (Nat.le_refl _) _ _ _ _ _⟩
  have n1 : (x == 1) = false := by simpa using e0
  clear e0
  by_cases e0 : x = 2
  · subst e0
    have hcall := pickL_c w4 g hr4.src [0, d - 1, d] #[.int .i64 0, .int .i64 (d - 1), .int .i64 d] rfl (by simp [I64]; try omega) (by simp) (by simp) rfl rfl
    obtain ⟨⟨c0, c1, c2, c3, c4⟩, f0, f1, f2, f3, f4⟩ := hby.out
    simp only at c0 c1 c2 c3 c4
    go_wp2_with fail
    try rw [hq]
    refine Calls.mono hcall ?_
    rintro e w5 ⟨_, rfl, ⟨y, rfl, hy⟩, hd5⟩
    simp only [List.mem_cons, List.not_mem_nil, or_false] at hy
    have hd6 : Dr g w4 w5 := (hr4.alloc _).trans hd5
    have hY := HY.out _ hd6
    have hX := HX.out _ hd6
    clear c0 c1 c2 c3 c4 f0 f1 f2 f3 f4 hby hmin
    obtain ⟨⟨c0, c1, c2, c3, c4⟩, f0, f1, f2, f3, f4⟩ := hY.out
    have hY2 := hY.put2 y
    have hX2 := hX.far (p := ⟨b, 2, none⟩) hbw (.int .i64 y)
    have hd7 := (HD.out.trans hd6).put (p := ⟨b, 2, none⟩) hwb (.int .i64 y)
    obtain ⟨⟨e0, e1, e2, e3, e4⟩, f0', f1', f2', f3', f4'⟩ := hY2.out
    obtain ⟨⟨g0, g1, g2, g3, g4⟩, j0, j1, j2, j3, j4⟩ := hX2.out
    simp only at e0 e1 e2 e3 e4 g0 g1 g2 g3 g4 c0 c1 c2 c3 c4
    clear hY hX hY2 hX2
    go_wp2_with fail
    refine bodyPost_ret (v := .agg #[.int .i64 c, .int .i64 d, .int .i64 y, .int .i64 m, .int .i64 lm]) (by simp [results, Tryz.results47, go_sem, g0, g1, g2, g3, g4]) rfl ⟨_, rfl, ⟨⟨c, d, y, m, lm⟩, rfl, ⟨by simp only; omega, by simp only; omega, by simp only; omega⟩⟩, put5 hd7 (Nat.le_refl _) _ _ _ _ _⟩
  have n2 : (x == 2) = false := by simpa using e0
  clear e0
  by_cases e0 : x = 3
  · subst e0
    have hcall := pickL_c w4 g hr4.src [0, c, c + 1] #[.int .i64 0, .int .i64 c, .int .i64 (c + 1)] rfl (by simp [I64]; try omega) (by simp) (by simp) rfl rfl
    obtain ⟨⟨c0, c1, c2, c3, c4⟩, f0, f1, f2, f3, f4⟩ := hby.out
    simp only at c0 c1 c2 c3 c4
    go_wp2_with fail
    try rw [hq]
    refine Calls.mono hcall ?_
    rintro e w5 ⟨_, rfl, ⟨y, rfl, hy⟩, hd5⟩
    simp only [List.mem_cons, List.not_mem_nil, or_false] at hy
    have hd6 : Dr g w4 w5 := (hr4.alloc _).trans hd5
    have hY := HY.out _ hd6
    have hX := HX.out _ hd6
    clear c0 c1 c2 c3 c4 f0 f1 f2 f3 f4 hby hmin
    obtain ⟨⟨c0, c1, c2, c3, c4⟩, f0, f1, f2, f3, f4⟩ := hY.out
    have hY2 := hY.put3 y
    have hX2 := hX.far (p := ⟨b, 3, none⟩) hbw (.int .i64 y)
    have hd7 := (HD.out.trans hd6).put (p := ⟨b, 3, none⟩) hwb (.int .i64 y)
    obtain ⟨⟨e0, e1, e2, e3, e4⟩, f0', f1', f2', f3', f4'⟩ := hY2.out
    obtain ⟨⟨g0, g1, g2, g3, g4⟩, j0, j1, j2, j3, j4⟩ := hX2.out
    simp only at e0 e1 e2 e3 e4 g0 g1 g2 g3 g4 c0 c1 c2 c3 c4
    clear hY hX hY2 hX2
    go_wp2_with fail
    refine bodyPost_ret (v := .agg #[.int .i64 c, .int .i64 d, .int .i64 s, .int .i64 y, .int .i64 lm]) (by simp [results, Tryz.results47, go_sem, g0, g1, g2, g3, g4]) rfl ⟨_, rfl, ⟨⟨c, d, s, y, lm⟩, rfl, ⟨by simp only; omega, by simp only; omega, by simp only; omega⟩⟩, put5 hd7 (Nat.le_refl _) _ _ _ _ _⟩
  have n3 : (x == 3) = false := by simpa using e0
  clear e0
  by_cases e0 : x = 4
  · subst e0
    have hcall := pickL_c w4 g hr4.src [0, q, q + 1] #[.int .i64 0, .int .i64 q, .int .i64 (q + 1)] rfl (by simp [I64]; try omega) (by simp) (by simp) rfl rfl
    obtain ⟨⟨c0, c1, c2, c3, c4⟩, f0, f1, f2, f3, f4⟩ := hby.out
    simp only at c0 c1 c2 c3 c4
    go_wp2_with fail
    try rw [hq]
    refine Calls.mono hcall ?_
    rintro e w5 ⟨_, rfl, ⟨y, rfl, hy⟩, hd5⟩
    simp only [List.mem_cons, List.not_mem_nil, or_false] at hy
    have hd6 : Dr g w4 w5 := (hr4.alloc _).trans hd5
    have hY := HY.out _ hd6
    have hX := HX.out _ hd6
    clear c0 c1 c2 c3 c4 f0 f1 f2 f3 f4 hby hmin
    obtain ⟨⟨c0, c1, c2, c3, c4⟩, f0, f1, f2, f3, f4⟩ := hY.out
    have hY2 := hY.put4 y
    have hX2 := hX.far (p := ⟨b, 4, none⟩) hbw (.int .i64 y)
    have hd7 := (HD.out.trans hd6).put (p := ⟨b, 4, none⟩) hwb (.int .i64 y)
    obtain ⟨⟨e0, e1, e2, e3, e4⟩, f0', f1', f2', f3', f4'⟩ := hY2.out
    obtain ⟨⟨g0, g1, g2, g3, g4⟩, j0, j1, j2, j3, j4⟩ := hX2.out
    simp only at e0 e1 e2 e3 e4 g0 g1 g2 g3 g4 c0 c1 c2 c3 c4
    clear hY hX hY2 hX2
    go_wp2_with fail
    refine bodyPost_ret (v := .agg #[.int .i64 c, .int .i64 d, .int .i64 s, .int .i64 m, .int .i64 y]) (by simp [results, Tryz.results47, go_sem, g0, g1, g2, g3, g4]) rfl ⟨_, rfl, ⟨⟨c, d, s, m, y⟩, rfl, ⟨by simp only; omega, by simp only; omega, by simp only; omega⟩⟩, put5 hd7 (Nat.le_refl _) _ _ _ _ _⟩
  have n4 : (x == 4) = false := by simpa using e0
  clear e0
  by_cases e0 : x = 5
  · subst e0
    have hcall := l01Next_c w4 g hr4.src 2 (by unfold I64; omega)
    go_wp2_with fail
    refine Calls.mono hcall ?_
    rintro e w5 ⟨_, rfl, ⟨y, rfl, hy0, hy1⟩, hd5⟩
    clear hcall
    have hcall := l01Next_c w5 g hd5.src 2 (by unfold I64; omega)
    obtain ⟨⟨g0, g1, g2, g3, g4⟩, j0, j1, j2, j3, j4⟩ := (HX.out _ hd5).out
    go_wp2_with fail
    refine Calls.mono hcall ?_
    rintro e w6 ⟨_, rfl, ⟨z, rfl, hz0, hz1⟩, hd6⟩
    clear hcall g0 g1 g2 g3 g4 j0 j1 j2 j3 j4
    replace hd6 := hd5.trans hd6
    obtain ⟨⟨g0, g1, g2, g3, g4⟩, j0, j1, j2, j3, j4⟩ := (HX.out _ hd6).out
    simp only at g0 g1 g2 g3 g4
    go_wp2_with fail
    refine bodyPost_ret (v := .agg #[.int .i64 6, .int .i64 (4 + y), .int .i64 (2 + z), .int .i64 2, .int .i64 3]) (by simp [results, Tryz.results47, go_sem, g0, g1, g2, g3, g4]) rfl ⟨_, rfl, ⟨⟨6, 4 + y, 2 + z, 2, 3⟩, rfl, ⟨by simp only; omega, by simp only; omega, by simp only; omega⟩⟩, put5 (HD.out.trans hd6) (Nat.le_refl _) _ _ _ _ _⟩
  have n5 : (x == 5) = false := by simpa using e0
  clear e0
  obtain ⟨⟨c0, c1, c2, c3, c4⟩, f0, f1, f2, f3, f4⟩ := hby.out
  obtain ⟨⟨g0, g1, g2, g3, g4⟩, j0, j1, j2, j3, j4⟩ := (HX.out _ hr4).out
  simp only at g0 g1 g2 g3 g4 c0 c1 c2 c3 c4
  go_wp2_with fail
  refine bodyPost_ret (v := .agg #[.int .i64 c, .int .i64 d, .int .i64 s, .int .i64 m, .int .i64 lm]) (by simp [results, Tryz.results47, go_sem, g0, g1, g2, g3, g4]) rfl ⟨_, rfl, ⟨⟨c, d, s, m, lm⟩, rfl, ⟨by simp only; omega, by simp only; omega, by simp only; omega⟩⟩, put5 HD.out (Nat.le_refl _) _ _ _ _ _⟩
end Go.Proofs.YthgmojggpjnckaaGreat
