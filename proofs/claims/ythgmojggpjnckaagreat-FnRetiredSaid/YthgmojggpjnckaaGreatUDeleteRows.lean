/- Proved: slices.Delete from a list of lists of the caller's own: only that list's row turns. -/
import Derived.Test.YthgmojggpjnckaaGreatChecked
import Derived.Deep.RegionLaw
import Derived.Test.YthgmojggpjnckaaGreatUPkE
import Derived.Test.YthgmojggpjnckaaGreatUPkA
namespace Go.Proofs.YthgmojggpjnckaaGreat
open Go.ChangeShapes Go.WideShapes Go.ChangeAt Go.RowKit
set_option linter.unusedVariables false

theorem Tryz.zeroInts : ∀ w, (zeroValue 41).run Tryz.prog w = .ok (.slice none 0 0) w := fun _ => by kernel_rfl
def DelRowsU (v : Value) (w : World) (ys : List (Option Addr × Nat × Nat)) (e : Ending) (w' : World) : Prop := ∃ cap g, e = .returned (.slice (some ⟨g, 0, none⟩) ys.length cap) ∧ v.ownBlock = some g ∧ ys.length ≤ cap ∧ cap ≤ maxLen ∧
  (∀ t, t < ys.length → w'.cell? ⟨g, t, none⟩ = some (slV (ys.getD t (none, 0, 0)))) ∧ (∀ t, w'.frozen? ⟨g, t, none⟩ = false) ∧ Within ⟨g, g + 1, true⟩ w w'

set_option maxRecDepth 20000 in
set_option maxHeartbeats 2000000 in
theorem DeleteRowsU_c (w : World) (B : Nat) (v : Value) (xs : List (Option Addr × Nat × Nat)) (h : OwnP slV 41 B w v xs) (i j : Nat) (hij : i < j) (hj : j ≤ xs.length) :
    Calls Tryz.prog 69 #[v, .int .i64 i, .int .i64 j] w (DelRowsU v w (xs.take i ++ xs.drop j)) := by
  obtain ⟨i0, hi0, hz0, hz1, hz2⟩ := info_parts Tryz.infoInts
  rcases h.2 with ⟨-, h0⟩ | ⟨g, cap, cur, rfl, hb, hg, hnc, hcm, hcs, htake⟩
  · omega
  · have hn : ∃ n, n = xs.length := ⟨_, rfl⟩
    obtain ⟨n, hn⟩ := hn
    rw [← hn] at hnc h hj htake ⊢
    have hcm' := hcm
    unfold maxLen at hcm'
    have hgl : g < w.heap.size := (Array.getElem?_eq_some_iff.1 hg).1
    -- every cell below n
    have hcell : ∀ t, t < n → w.cell? ⟨g, t, none⟩ = some (slV (xs.getD t (none, 0, 0))) := fun t ht => by
      obtain ⟨h1, h2, -⟩ := h.at ht
      rw [h2]; simp [h1]
    have hfree : ∀ t, w.frozen? ⟨g, t, none⟩ = false := fun t => frozen_of_row w g t cur 41 hg
    obtain ⟨news, hnews⟩ : ∃ news, news = (xs.drop j).map slV := ⟨_, rfl⟩
    have hlen : news.length = n - j := by rw [hnews]; simp; omega
    have hget : ∀ t, t < n - j → news[t]? = some (slV (xs.getD (j + t) (none, 0, 0))) := fun t ht => by
      rw [hnews, List.getElem?_map, List.getElem?_drop]; simp [show j + t < xs.length by omega]
    obtain ⟨A, hA, hsrc⟩ : ∃ A : Addr, (if cap = j then some (⟨g, 0, none⟩ : Addr) else some ⟨g, j, none⟩) = some A ∧ Hid (∀ t u, news[t]? = some u → w.drew.cell? (A.add t) = some u) := by
      by_cases h : cap = j
      · refine ⟨⟨g, 0, none⟩, by simp [h], fun t u hu => ?_⟩
        have h0 : news.length = 0 := by rw [hlen]; omega
        rw [List.length_eq_zero_iff.1 h0] at hu
        simp at hu
      · refine ⟨⟨g, j, none⟩, by simp [h], fun t u hu => ?_⟩
        have ht : t < n - j := by
          have := (List.getElem?_eq_some_iff.1 hu).1
          rwa [hlen] at this
        rw [hget t ht] at hu
        rw [Addr.add_lit]
        exact (hcell (j + t) (by omega)).trans hu
    have s1 : Hid (news.length = (n - j) * 1) := by rw [Nat.mul_one]; exact hlen
    have s2 : Hid (∀ u ∈ news, u.oneCell' = true) := by
      intro u hu
      rw [hnews] at hu
      obtain ⟨x, _, rfl⟩ := List.mem_map.1 hu
      rfl
    have s3 : Hid (∀ t, t < news.length → (w.drew.cell? ⟨g, 0 + i * 1 + t, none⟩).isSome = true ∧ w.drew.frozen? ⟨g, 0 + i * 1 + t, none⟩ = false) := by
      intro t ht
      rw [hlen] at ht
      rw [Nat.mul_one, Nat.zero_add]
      exact ⟨by show (w.cell? _).isSome = true; rw [hcell (i + t) (by omega)]; rfl, hfree _⟩
    obtain ⟨W1, hW1⟩ : ∃ W1, W1 = w.drew.setCells g (0 + i * 1) news := ⟨_, rfl⟩
    have hW1' : Within ⟨g, g + 1, true⟩ w W1 := by
      rw [hW1]; exact (⟨rfl, rfl, rfl, rfl, fun _ _ => rfl⟩ : Within _ w w.drew).trans (within_setCells g _ _ _)
    have hc1 : ∀ t, t < i → W1.cell? ⟨g, t, none⟩ = some (slV (xs.getD t (none, 0, 0))) := fun t ht => by
      rw [hW1, World.cell?_setCells_out g _ _ _ _ (fun _ _ => .inl (by simp; omega))]
      exact hcell t (by omega)
    have hc2 : ∀ t, t < n - j → W1.cell? ⟨g, i + t, none⟩ = some (slV (xs.getD (j + t) (none, 0, 0))) := fun t ht => by
      have := cell_setCells_in g news (0 + i * 1) w.drew t (by omega) ((s3.out t (by omega)).1)
      rw [Nat.mul_one, Nat.zero_add] at this hW1
      rw [hW1, this]
      have h2 := hget t ht
      rwa [List.getElem?_eq_getElem (by omega)] at h2
    have hc3 : ∀ t, t < n → (W1.cell? ⟨g, t, none⟩).isSome = true := fun t ht => by
      by_cases h1 : t < i
      · rw [hc1 t h1]; rfl
      · by_cases h2 : t < i + (n - j)
        · have := hc2 (t - i) (by omega)
          rw [show i + (t - i) = t by omega] at this
          rw [this]; rfl
        · rw [hW1, World.cell?_setCells_out g _ _ _ _ (fun _ _ => .inr (by simp; omega))]
          show (w.cell? _).isSome = true
          rw [hcell t ht]; rfl
    have hfr1 : ∀ t, W1.frozen? ⟨g, t, none⟩ = false := fun t => by rw [hW1, frozen_setCells]; exact hfree t
    obtain ⟨W2, hW2⟩ : ∃ W2, W2 = W1.setCells g (i + (n - j)) (List.replicate (n - (i + (n - j))) (Value.slice none 0 0)) := ⟨_, rfl⟩
    have hcl : ∀ ty, (Builtin.clear_ #[30] ty #[.slice (some ⟨g, i + (n - j), none⟩) (n - (i + (n - j))) (cap - (i + (n - j)))]).run Tryz.prog W1 = .ok (.tuple #[]) W2 :=
      fun ty => by
        rw [hW2]
        exact Lib.run_clear_slice W1 _ _ ty _ Tryz.underlying30 Tryz.zeroInts rfl rfl g (i + (n - j)) _ _ (by omega) (fun t ht => by
          have := hc3 (i + (n - j) + t) (by omega)
          exact this) (fun t ht => hfr1 _)
    have hW2' : Within ⟨g, g + 1, true⟩ w W2 := by rw [hW2]; exact hW1'.trans (within_setCells g _ _ _)
    have hr1 : Hid (∀ t, t < i → W2.cell? ⟨g, t, none⟩ = some (slV (xs.getD t (none, 0, 0)))) := fun t ht => by
      rw [hW2, World.cell?_setCells_out g _ _ _ _ (fun _ _ => .inl (by simp; omega))]; exact hc1 t ht
    have hr2 : Hid (∀ t, t < n - j → W2.cell? ⟨g, i + t, none⟩ = some (slV (xs.getD (j + t) (none, 0, 0)))) := fun t ht => by
      rw [hW2, World.cell?_setCells_out g _ _ _ _ (fun _ _ => .inl (by simp; omega))]; exact hc2 t ht
    have hr3 : Hid (∀ t, W2.frozen? ⟨g, t, none⟩ = false) := fun t => by rw [hW2, frozen_setCells]; exact hfr1 t
    have hW : Hid (W1 = w.drew.setCells g (0 + i * 1) news) := hW1
    have HW2 := Lib.hid hW2'
    have HX : Hid (n = xs.length) := hn
    have hic : i ≤ cap := by omega
    have hjc : j ≤ cap := by omega
    clear hW1 hW2 hW1' hW2' hc1 hc2 hc3 hfr1 hget hnews hlen hcell hfree hn htake hcs hg
    go_enter Tryz.func69, Tryz.ntmps69
    go_wp2_with fail
    go_region_law (refine step_append_room rfl (.tmp 22) (.tmp 25) 30 rfl 41 i0 1 Tryz.underlying30 hi0 hz1 g 0 i cap (by simp [Act.eval, Act.put]) A (n - j) (cap - j) news (by simp [Act.eval, Act.put]) s1.out hsrc.out s2.out (by omega) s3.out ?_; rw [← hW.out])
    go_wp2
    go_ret
    have hn := HX.out
    have hl : (xs.take i ++ xs.drop j).length = i + (n - j) := by simp; omega
    refine ⟨cap, g, by rw [hl]; rfl, rfl, by rw [hl]; omega, hcm, fun t ht => ?_, hr3.out, HW2.out⟩
    rw [hl] at ht
    by_cases h1 : t < i
    · rw [hr1.out t h1]
      have h2 : (xs.take i ++ xs.drop j)[t]? = xs[t]? := by rw [List.getElem?_append_left (by simp; omega), List.getElem?_take, if_pos h1]
      rw [List.getD_eq_getElem?_getD, List.getD_eq_getElem?_getD, h2]
    · have h0 := hr2.out (t - i) (by omega)
      rw [show i + (t - i) = t by omega] at h0
      rw [h0]
      have h2 : (xs.take i ++ xs.drop j)[t]? = xs[j + (t - i)]? := by rw [List.getElem?_append_right (by simp; omega), List.getElem?_drop]; congr 1; simp; omega
      rw [List.getD_eq_getElem?_getD, List.getD_eq_getElem?_getD, h2]

def rmAt (k : Nat) (l : List (List Int)) : List (List Int) := l.take k ++ l.drop (k + 1)
theorem rmAt_len {k : Nat} {l : List (List Int)} (h : k < l.length) : (rmAt k l).length = l.length - 1 := by unfold rmAt; rw [List.length_append, List.length_take, List.length_drop]; omega
theorem drop_get {α : Type} {xs : List α} {k t : Nat} (h : t < (xs.take k ++ xs.drop (k + 1)).length) (hk : k < xs.length) : ∃ h' : (if t < k then t else t + 1) < xs.length, (xs.take k ++ xs.drop (k + 1))[t] = xs[if t < k then t else t + 1] := by
  rw [List.length_append, List.length_take, List.length_drop] at h
  by_cases e : t < k
  · simp only [e, if_true]
    refine ⟨by omega, ?_⟩
    rw [List.getElem_append_left (by rw [List.length_take]; omega), List.getElem_take]
  · simp only [e, if_false]
    refine ⟨by omega, ?_⟩
    rw [List.getElem_append_right (by rw [List.length_take]; omega), List.getElem_drop]
    congr 1
    rw [List.length_take]; omega
def DelRows (L : Nat) (w : World) (W : World) (ys : List (List Int)) (e : Ending) (w' : World) : Prop := ∃ r, e = .returned r ∧ RowsR ⟨L, w.heap.size, true⟩ w' r ys ∧ Within ⟨L, w.heap.size, true⟩ W w'

/-- one list is taken out of lists of the caller's own -/
theorem DeleteRows_c (w W : World) (eW : Ext w W) (L B : Nat) (v : Value) (xs : List (List Int)) (h : OwnR true L IntsR 41 B w v xs) (hL : L ≤ B) (k j : Nat) (hj : j = k + 1) (hk : k < xs.length) :
    Calls Tryz.prog 69 #[v, .int .i64 k, .int .i64 j] W (DelRows L w W (rmAt k xs)) := by
  subst hj
  have hb := OwnA.block h
  obtain ⟨us, Z, hl, ho, h1, h2, h3⟩ := h
  refine (DeleteRowsU_c W B v us (ho.ext eW) k (k + 1) (Nat.lt_succ_self _) (by omega)).mono ?_
  rintro e w' ⟨cap, g, rfl, hg, hc1, hc2, hc, hf, hw⟩
  obtain ⟨hg1, hg2⟩ := hb g hg
  have hlen : (us.take k ++ us.drop (k + 1)).length = (rmAt k xs).length := by unfold rmAt; simp [hl]
  have hes := eW.size
  refine ⟨_, rfl, ⟨some ⟨g, 0, none⟩, cap, by rw [hlen], by omega, hc2, (fun h => by cases h), fun ad had hp => ?_⟩, hw.sub ⟨fun q hq => ?_, fun _ => rfl⟩⟩
  case refine_2 =>
    have q1 := hq.1; have q2 := hq.2; simp only at q1 q2
    exact ⟨by show L ≤ q; omega, by show q < w.heap.size; omega⟩
  cases had
  have hmap : ∀ i, i < (rmAt k xs).length → (if i < k then i else i + 1) < xs.length := fun i hi => (drop_get (xs := xs) hi hk).1
  have hws := hw.size
  refine ⟨rfl, ⟨by simp only; omega, by simp only; omega⟩, by simp only; omega, fun _ i _ => by rw [Nat.zero_add]; exact hf i, fun i => Z (if i < k then i else i + 1), fun i hi => ?_, fun _ => ⟨fun i hi hz => ?_, fun i l hil hl' => ?_⟩, fun i hi => ?_⟩
  · have := h1 _ (hmap i hi)
    exact ⟨fun q hq => ⟨(this.2 q hq).1, (this.2 q hq).2.1⟩, fun _ => this.1 rfl⟩
  · exact ((h1 _ (hmap i hi)).2 g hz).2.2 hg
  · refine h2 rfl _ _ ?_ (hmap l hl')
    by_cases e1 : i < k
    · by_cases e2 : l < k
      · simp only [e1, e2, if_true]; omega
      · simp only [e1, e2, if_true, if_false]; omega
    · have e2 : ¬ l < k := by omega
      simp only [e1, e2, if_false]; omega
  · have hi2 : i < (us.take k ++ us.drop (k + 1)).length := by omega
    obtain ⟨q1, q2⟩ := drop_get hi2 (by omega : k < us.length)
    obtain ⟨q3, q4⟩ := drop_get (xs := xs) hi hk
    refine ⟨slV us[if i < k then i else i + 1], ?_, ?_⟩
    · rw [Nat.zero_add, hc i hi2, ← q2, List.getD_eq_getElem?_getD, List.getElem?_eq_getElem hi2]
      rfl
    · have := stable_ints.ext (h3 _ q3 q1) eW
      have e : (rmAt k xs)[i] = xs[if i < k then i else i + 1] := q4
      rw [e]
      exact stable_ints.within this hw (fun q a c => by
        have q5 := c.1; have q6 := c.2; simp only at q5 q6
        have : q = g := by omega
        subst this
        exact ((h1 _ q3).2 _ a).2.2 hg)
end Go.Proofs.YthgmojggpjnckaaGreat
