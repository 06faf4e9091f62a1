/- Proved: a table that draws fill in place, and that it is a system (plain). -/
import Derived.Test.YtegmognpofcfiaaGreatUDrawTab
import Derived.Test.YtegmognpofcfiaaGreatUPkB
import Derived.Test.YtegmognpofcfiaaGreatUPkE
namespace Go.Proofs.YtegmognpofcfiaaGreat
open Go.ChangeShapes Go.WideShapes Go.ChangeAt Go.RowKit
set_option linter.unusedVariables false

/-- a table of 0 and 1 -/
structure Tab01 (n c : Nat) (t : List (List Int)) : Prop where
  len : t.length = n
  row : ∀ r ∈ t, r.length = c
  ent : ∀ r ∈ t, ∀ x ∈ r, x = 0 ∨ x = 1
/-- each of the first columns has a 1 -/
def openTo (t : List (List Int)) (k : Nat) : Prop := ∀ j, j < k → ∃ r ∈ t, r.getD j 0 = 1
theorem Tab01.set {n c : Nat} {t : List (List Int)} (h : Tab01 n c t) {i : Nat} (hi : i < t.length) (k : Nat) : Tab01 n c (t.set i (t[i].set k 1)) := by
  refine ⟨by rw [List.length_set]; exact h.len, fun r hr => ?_, fun r hr x hx => ?_⟩
  · rcases List.mem_or_eq_of_mem_set hr with hr | hr
    · exact h.row r hr
    · rw [hr, List.length_set]; exact h.row _ (List.getElem_mem hi)
  · rcases List.mem_or_eq_of_mem_set hr with hr | hr
    · exact h.ent r hr x hx
    · rw [hr] at hx
      rcases List.mem_or_eq_of_mem_set hx with hx | hx
      · exact h.ent _ (List.getElem_mem hi) x hx
      · exact .inr hx
theorem getD_set1 {l : List Int} {k j : Nat} (h : l.getD j 0 = 1) : (l.set k 1).getD j 0 = 1 := by
  rw [List.getD_eq_getElem?_getD, List.getElem?_set]
  split
  · split
    · rfl
    · rename_i h1 h2; subst h1
      rw [List.getD_eq_getElem?_getD, List.getElem?_eq_none (by omega)] at h; cases h
  · rw [← List.getD_eq_getElem?_getD]; exact h
theorem openTo.set {t : List (List Int)} {K : Nat} (h : openTo t K) {i : Nat} (hi : i < t.length) (k : Nat) : openTo (t.set i (t[i].set k 1)) K := fun j hj => by
  obtain ⟨r, hr, h1⟩ := h j hj
  obtain ⟨m, hm, rfl⟩ := List.getElem_of_mem hr
  by_cases e : i = m
  · subst e
    exact ⟨_, List.mem_set hi _, getD_set1 h1⟩
  · refine ⟨t[m], ?_, h1⟩
    have hm' : m < (t.set i (t[i].set k 1)).length := by rw [List.length_set]; exact hm
    have : (t.set i (t[i].set k 1))[m] = t[m] := by rw [List.getElem_set_ne e]
    rw [← this]; exact List.getElem_mem hm'
theorem openTo.next {t : List (List Int)} {K : Nat} (h : openTo t K) {i : Nat} (hi : i < t.length) (hk : K < t[i].length) : openTo (t.set i (t[i].set K 1)) (K + 1) := fun j hj => by
  rcases Nat.lt_succ_iff_lt_or_eq.1 hj with hj | rfl
  · exact h.set hi K j hj
  · refine ⟨_, List.mem_set hi _, ?_⟩
    simp [hk]
theorem tab_system {mk : MK} {n c : Nat} {t : List (List Int)} (hm : isMaker mk = true) (h : Tab01 n c t) (hn : 1 ≤ n ∧ n ≤ 10) (hc : 1 ≤ c ∧ c ≤ 12) (ho : openTo t c) : isSystem mk t = true := by
  have ht0 : 0 < t.length := by have := h.len; omega
  have hd : doorsOf t = c := by
    unfold doorsOf
    rw [List.getD_eq_getElem?_getD, List.getElem?_eq_getElem ht0]
    exact h.row _ (List.getElem_mem ht0)
  unfold isSystem
  rw [hm, Bool.true_and, Bool.and_eq_true]
  refine ⟨?_, ?_⟩
  · rw [isTable_good (fun k hk => ?_), decide_eq_true_iff, h.len]
    · exact hn
    · have h1 := h.row _ (List.getElem_mem hk)
      unfold tabRow
      have hd' : (t.getD 0 []).length = c := hd
      rw [hd', Bool.and_eq_true, Bool.and_eq_true]
      refine ⟨by simpa using h1, by simp only [decide_eq_true_iff]; omega, ?_⟩
      unfold allB
      rw [List.all_eq_true]
      intro x hx
      have := h.ent _ (List.getElem_mem hk) x hx
      unfold inB
      simp only [Bool.and_eq_true, decide_eq_true_iff]
      omega
  · rw [hd, List.all_eq_true]
    intro j hj
    obtain ⟨r, hr, h1⟩ := ho j (by simpa using hj)
    unfold doorOpen
    rw [List.any_eq_true]
    exact ⟨r, hr, by rw [h1]; rfl⟩

/-- a cell of a row may be written -/
theorem pokeAt {L B : Nat} {e : TypeId} {w : World} {v : Value} {t : List (List Int)} (h : OwnR true L IntsR e B w v t) {i : Nat} (hi : i < t.length) {k : Nat} (hk : k < t[i].length) (hLB : L ≤ B) :
    ∃ gb n cap rb ro rn rc, v = .slice (some ⟨gb, 0, none⟩) n cap ∧ n = t.length ∧ w.cell? ⟨gb, i, none⟩ = some (.slice (some ⟨rb, ro, none⟩) rn rc) ∧ rn = t[i].length ∧ L ≤ rb ∧ rb < w.heap.size ∧ rb ≠ gb ∧ (∃ x, w.cell? ⟨rb, ro + k, none⟩ = some (.int .i64 x)) ∧ w.frozen? ⟨rb, ro + k, none⟩ = false ∧ B ≤ gb ∧ gb < w.heap.size ∧
      ∀ y, I64 y → OwnR true L IntsR e B (w.setCell ⟨rb, ro + k, none⟩ (.int .i64 y)) v (t.set i (t[i].set k y)) := by
  obtain ⟨us, Z, hl, ho, g1, g2, g3⟩ := h
  obtain ⟨a, n, cap, rfl, hn, hm, hel⟩ := ho.shape
  obtain ⟨gb, rfl, hb, hlt, hc, hf⟩ := hel i (by omega)
  have hus : i < us.length := by omega
  have hE := g3 i hi hus
  obtain ⟨hown0, hz0⟩ := g1 i hi
  obtain ⟨ra, rn, rc, he, hrn, -, -, -, -, hrel⟩ := SliceR.shape hE
  obtain ⟨rb, ro, rfl, hrz, hrlt, hrf, u, y0, hru, -, -, hux⟩ := hrel k hk
  obtain ⟨hrz1, -, hrz3⟩ := hz0 rb hrz
  have hne : rb ≠ gb := fun q => hrz3 (by rw [q]; rfl)
  rw [he] at hc hE
  refine ⟨gb, n, cap, rb, ro, rn, rc, rfl, by omega, hc, hrn, hrz1, hrlt, hne, ⟨_, by rw [hru, hux.1]⟩, hrf (hown0 rfl), hb, hlt, fun y hy => ?_⟩
  have hset : ∀ j, j ≠ rb → (w.setCell ⟨rb, ro + k, none⟩ (.int .i64 y)).heap[j]? = w.heap[j]? := fun j hj => Below.heap_setCell _ _ _ _ hj
  have hsz : (w.setCell ⟨rb, ro + k, none⟩ (.int .i64 y)).heap.size = w.heap.size := by simp [World.setCell]
  refine ⟨us, Z, by rw [List.length_set]; exact hl, ?_, fun j hj => ⟨(g1 j (by simpa using hj)).1, fun q hq => ?_⟩, fun _ j m hjm hm => g2 rfl j m hjm (by simpa using hm), fun j hj hj' => ?_⟩
  · obtain ⟨o1, o2⟩ := ho
    refine ⟨o1, ?_⟩
    rcases o2 with o2 | ⟨g, cp, cur, hv, hbg, hg, r⟩
    · exact .inl o2
    · refine .inr ⟨g, cp, cur, hv, hbg, ?_, r⟩
      have hgg : g = gb := by injection hv with hv _ _; injection hv with hv; injection hv with hv _ _; exact hv.symm
      rw [hset g (by omega)]; exact hg
  · rw [hsz]
    exact (g1 j (by simpa using hj)).2 q hq
  · have hj2 : j < t.length := by simpa using hj
    by_cases e : j = i
    · subst e
      rw [List.getElem_set_self]
      have := ints_store hE k (by omega) hy
      rw [he]; exact this
    · rw [List.getElem_set_ne (by omega)]
      refine stable_ints.keep (g3 j hj2 hj') (fun q hk1 _ => hset q (fun q' => ?_))
      subst q'
      rcases Nat.lt_or_gt_of_ne e with e | e
      · exact g2 rfl j i e hi q hk1 hrz
      · exact g2 rfl i j e hj2 q hrz hk1
end Go.Proofs.YtegmognpofcfiaaGreat
