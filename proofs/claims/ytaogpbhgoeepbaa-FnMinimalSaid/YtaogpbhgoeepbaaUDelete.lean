/- Proved: slices.Delete from a list of integers that the caller has made. -/
import Derived.Test.YtaogpbhgoeepbaaChecked
import Derived.Deep.RegionLaw
import Derived.Test.YtaogpbhgoeepbaaUBase2
namespace Go.Proofs.Ytaogpbhgoeepbaa
open Go.ChangeShapes Go.WideShapes Go.ChangeAt Go.RowKit
set_option linter.unusedVariables false

def DelPost (B : Nat) (w : World) (ys : List Int) (e : Ending) (w' : World) : Prop := ∃ r, e = .returned r ∧ IntsR ⟨B, w'.heap.size, true⟩ w' r ys ∧ Below B w w'

theorem intsR_mk {z : Zone} {w : World} (b o n cap : Nat) (xs : List Int) (hn : n = xs.length) (h1 : n ≤ cap) (h2 : cap ≤ maxLen) (hz : z.Has b) (hb : b < w.heap.size) (hf : ∀ i, i < n → w.frozen? ⟨b, o + i, none⟩ = false) (hc : ∀ i, i < n → w.cell? ⟨b, o + i, none⟩ = some (.int .i64 (xs.getD i 0))) (hm : ∀ x ∈ xs, I64 x) :
    IntsR z w (.slice (some ⟨b, o, none⟩) n cap) xs := by
  subst hn
  refine ⟨some ⟨b, o, none⟩, cap, rfl, h1, h2, (fun h => by cases h), fun ad had _ => ?_⟩
  cases had
  refine ⟨rfl, hz, hb, fun _ i hi => hf i hi, fun _ => ⟨0, 0, z.own⟩, fun i _ => ⟨fun k hk => absurd hk.2 (Nat.not_lt_zero _), fun h => h⟩, fun _ => ⟨fun i _ hk => absurd hk.2 (Nat.not_lt_zero _), fun i j _ _ k hk => absurd hk.2 (Nat.not_lt_zero _)⟩, fun i hi => ?_⟩
  exact ⟨_, hc i hi, by simp [hi], hm _ (List.getElem_mem hi)⟩

theorem within_setCells (b : Nat) : ∀ (vs : List Value) (o : Nat) (w : World), Within ⟨b, b + 1, true⟩ w (w.setCells b o vs)
  | [], _, w => Within.refl _ w
  | v :: r, o, w => by
    have h1 : Within ⟨b, b + 1, true⟩ w (w.setCell ⟨b, o, none⟩ v) := (Within.refl _ _).setCell ⟨Nat.le_refl _, Nat.lt_succ_self _⟩ _
    exact h1.trans (within_setCells b r (o + 1) _)
theorem frozen_setCells (b : Nat) : ∀ (vs : List Value) (o : Nat) (w : World) (x : Addr), (w.setCells b o vs).frozen? x = w.frozen? x
  | [], _, _, _ => rfl
  | v :: r, o, w, x => by
    show ((w.setCell ⟨b, o, none⟩ v).setCells b (o + 1) r).frozen? x = _
    rw [frozen_setCells b r (o + 1), World.frozen?_setCell]
theorem cell_setCells_in (b : Nat) : ∀ (vs : List Value) (o : Nat) (w : World) (i : Nat) (hi : i < vs.length), (w.cell? ⟨b, o + i, none⟩).isSome = true → (w.setCells b o vs).cell? ⟨b, o + i, none⟩ = some vs[i]
  | v :: r, o, w, 0, _, h => by
    show ((w.setCell ⟨b, o, none⟩ v).setCells b (o + 1) r).cell? _ = _
    rw [World.cell?_setCells_out b r (o + 1) _ _ (fun _ _ => .inl (by simp))]
    obtain ⟨u, hu⟩ := Option.isSome_iff_exists.1 h
    exact World.cell?_setCell_same _ _ _ hu
  | v :: r, o, w, i + 1, hi, h => by
    show ((w.setCell ⟨b, o, none⟩ v).setCells b (o + 1) r).cell? _ = _
    have := cell_setCells_in b r (o + 1) (w.setCell ⟨b, o, none⟩ v) i (by simpa using hi) (by
      rw [World.cell?_setCell_other _ _ _ _ (by intro h; injection h with _ h _; omega), show o + 1 + i = o + (i + 1) by omega]; exact h)
    rw [show o + (i + 1) = o + 1 + i by omega, this]
    simp

theorem Try.zeroI64 : ∀ w, (zeroValue 2).run Try.prog w = .ok (.int .i64 0) w := fun _ => by kernel_rfl

set_option maxRecDepth 20000 in
set_option maxHeartbeats 2000000 in
theorem Delete_c (w : World) (B : Nat) (v : Value) (xs : List Int) (h : OwnP (Value.int .i64) 2 B w v xs) (hm : ∀ x ∈ xs, I64 x) (i j : Nat) (hij : i < j) (hj : j ≤ xs.length) :
    Calls Try.prog 115 #[v, .int .i64 i, .int .i64 j] w (DelPost B w (xs.take i ++ xs.drop j)) := by
  obtain ⟨i0, hi0, hz0, hz1, hz2⟩ := info_parts Try.infoI64
  rcases h.2 with ⟨-, h0⟩ | ⟨g, cap, cur, rfl, hb, hg, hnc, hcm, hcs, htake⟩
  · omega
  · have hn : ∃ n, n = xs.length := ⟨_, rfl⟩
    obtain ⟨n, hn⟩ := hn
    rw [← hn] at hnc h hj htake ⊢
    have hcm' := hcm
    unfold maxLen at hcm'
    have hgl : g < w.heap.size := (Array.getElem?_eq_some_iff.1 hg).1
    -- every cell below n
    have hcell : ∀ t, t < n → w.cell? ⟨g, t, none⟩ = some (.int .i64 (xs.getD t 0)) := fun t ht => by
      obtain ⟨h1, h2, -⟩ := h.at ht
      rw [h2]; simp [h1]
    have hfree : ∀ t, w.frozen? ⟨g, t, none⟩ = false := fun t => frozen_of_row w g t cur 2 hg
    obtain ⟨news, hnews⟩ : ∃ news, news = (xs.drop j).map (Value.int .i64) := ⟨_, rfl⟩
    have hlen : news.length = n - j := by rw [hnews]; simp; omega
    have hget : ∀ t, t < n - j → news[t]? = some (.int .i64 (xs.getD (j + t) 0)) := fun t ht => by
      rw [hnews, List.getElem?_map, List.getElem?_drop]; simp [show j + t < xs.length by omega]
    obtain ⟨A, hA, hsrc⟩ : ∃ A : Addr, (if cap = j then some (⟨g, 0, none⟩ : Addr) else some ⟨g, j, none⟩) = some A ∧ Hid (∀ t u, news[t]? = some u → w.drew.cell? (A.add t) = some u) := by
      by_cases h : cap = j
      · refine ⟨⟨g, 0, none⟩, by simp [h], fun t u hu => ?_⟩
        have h0 : news.length = 0 := by rw [hlen]; omega
        rw [List.length_eq_zero_iff.1 h0] at hu
        simp at hu
      · refine ⟨⟨g, j, none⟩, by simp [h], fun t u hu => ?_⟩
        have ht : t < n - j := by
          have := (List.getElem?_eq_some_iff.1 hu).1
          rwa [hlen] at this
        rw [hget t ht] at hu
        rw [Addr.add_lit]
        exact (hcell (j + t) (by omega)).trans hu
    have s1 : Hid (news.length = (n - j) * 1) := by rw [Nat.mul_one]; exact hlen
    have s2 : Hid (∀ u ∈ news, u.oneCell' = true) := by
      intro u hu
      rw [hnews] at hu
      obtain ⟨x, _, rfl⟩ := List.mem_map.1 hu
      rfl
    have s3 : Hid (∀ t, t < news.length → (w.drew.cell? ⟨g, 0 + i * 1 + t, none⟩).isSome = true ∧ w.drew.frozen? ⟨g, 0 + i * 1 + t, none⟩ = false) := by
      intro t ht
      rw [hlen] at ht
      rw [Nat.mul_one, Nat.zero_add]
      exact ⟨by show (w.cell? _).isSome = true; rw [hcell (i + t) (by omega)]; rfl, hfree _⟩
    obtain ⟨W1, hW1⟩ : ∃ W1, W1 = w.drew.setCells g (0 + i * 1) news := ⟨_, rfl⟩
    have hW1' : Within ⟨g, g + 1, true⟩ w W1 := by
      rw [hW1]; exact (⟨rfl, rfl, rfl, rfl, fun _ _ => rfl⟩ : Within _ w w.drew).trans (within_setCells g _ _ _)
    have hc1 : ∀ t, t < i → W1.cell? ⟨g, t, none⟩ = some (.int .i64 (xs.getD t 0)) := fun t ht => by
      rw [hW1, World.cell?_setCells_out g _ _ _ _ (fun _ _ => .inl (by simp; omega))]
      exact hcell t (by omega)
    have hc2 : ∀ t, t < n - j → W1.cell? ⟨g, i + t, none⟩ = some (.int .i64 (xs.getD (j + t) 0)) := fun t ht => by
      have := cell_setCells_in g news (0 + i * 1) w.drew t (by omega) ((s3.out t (by omega)).1)
      rw [Nat.mul_one, Nat.zero_add] at this hW1
      rw [hW1, this]
      have h2 := hget t ht
      rwa [List.getElem?_eq_getElem (by omega)] at h2
    have hc3 : ∀ t, t < n → (W1.cell? ⟨g, t, none⟩).isSome = true := fun t ht => by
      by_cases h1 : t < i
      · rw [hc1 t h1]; rfl
      · by_cases h2 : t < i + (n - j)
        · have := hc2 (t - i) (by omega)
          rw [show i + (t - i) = t by omega] at this
          rw [this]; rfl
        · rw [hW1, World.cell?_setCells_out g _ _ _ _ (fun _ _ => .inr (by simp; omega))]
          show (w.cell? _).isSome = true
          rw [hcell t ht]; rfl
    have hfr1 : ∀ t, W1.frozen? ⟨g, t, none⟩ = false := fun t => by rw [hW1, frozen_setCells]; exact hfree t
    obtain ⟨W2, hW2⟩ : ∃ W2, W2 = W1.setCells g (i + (n - j)) (List.replicate (n - (i + (n - j))) (Value.int .i64 0)) := ⟨_, rfl⟩
    have hcl : ∀ ty, (Builtin.clear_ #[25] ty #[.slice (some ⟨g, i + (n - j), none⟩) (n - (i + (n - j))) (cap - (i + (n - j)))]).run Try.prog W1 = .ok (.tuple #[]) W2 :=
      fun ty => by
        rw [hW2]
        exact Lib.run_clear_slice W1 _ _ ty _ Try.underlying25 Try.zeroI64 rfl rfl g (i + (n - j)) _ _ (by omega) (fun t ht => by
          have := hc3 (i + (n - j) + t) (by omega)
          exact this) (fun t ht => hfr1 _)
    have hW2' : Within ⟨g, g + 1, true⟩ w W2 := by rw [hW2]; exact hW1'.trans (within_setCells g _ _ _)
    have hr1 : Hid (∀ t, t < i → W2.cell? ⟨g, t, none⟩ = some (.int .i64 (xs.getD t 0))) := fun t ht => by
      rw [hW2, World.cell?_setCells_out g _ _ _ _ (fun _ _ => .inl (by simp; omega))]; exact hc1 t ht
    have hr2 : Hid (∀ t, t < n - j → W2.cell? ⟨g, i + t, none⟩ = some (.int .i64 (xs.getD (j + t) 0))) := fun t ht => by
      rw [hW2, World.cell?_setCells_out g _ _ _ _ (fun _ _ => .inl (by simp; omega))]; exact hc2 t ht
    have hr3 : Hid (∀ t, W2.frozen? ⟨g, t, none⟩ = false) := fun t => by rw [hW2, frozen_setCells]; exact hfr1 t
    have hW : Hid (W1 = w.drew.setCells g (0 + i * 1) news) := hW1
    have HW2 := Lib.hid hW2'
    have HX : Hid (n = xs.length ∧ (∀ x ∈ xs, I64 x)) := ⟨hn, hm⟩
    have hic : i ≤ cap := by omega
    have hjc : j ≤ cap := by omega
    clear hW1 hW2 hW1' hW2' hc1 hc2 hc3 hfr1 hget hnews hlen hcell hfree hn hm htake hcs hg
    go_enter Try.func115, Try.ntmps115
    go_wp2_with fail
    go_region_law (refine step_append_room rfl (.tmp 22) (.tmp 25) 25 rfl 2 i0 1 Try.underlying25 hi0 hz1 g 0 i cap (by simp [Act.eval, Act.put]) A (n - j) (cap - j) news (by simp [Act.eval, Act.put]) s1.out hsrc.out s2.out (by omega) s3.out ?_; rw [← hW.out])
    go_wp2
    go_ret
    obtain ⟨hn, hm⟩ := HX.out
    have hl : (xs.take i ++ xs.drop j).length = i + (n - j) := by simp; omega
    refine ⟨_, rfl, ?_, HW2.out.below hb⟩
    have hsz := HW2.out.size
    refine intsR_mk g 0 (i + (n - j)) cap _ hl.symm (by omega) hcm ⟨hb, by show g < W2.heap.size; omega⟩ (by omega) (fun t ht => by rw [Nat.zero_add]; exact hr3.out t) (fun t ht => ?_) (fun x hx => ?_)
    · rw [Nat.zero_add]
      by_cases h1 : t < i
      · rw [hr1.out t h1]
        have h2 : (xs.take i ++ xs.drop j)[t]? = xs[t]? := by rw [List.getElem?_append_left (by simp; omega), List.getElem?_take, if_pos h1]
        rw [List.getD_eq_getElem?_getD, List.getD_eq_getElem?_getD, h2]
      · have h0 := hr2.out (t - i) (by omega)
        rw [show i + (t - i) = t by omega] at h0
        rw [h0]
        have h2 : (xs.take i ++ xs.drop j)[t]? = xs[j + (t - i)]? := by rw [List.getElem?_append_right (by simp; omega), List.getElem?_drop]; congr 1; simp; omega
        rw [List.getD_eq_getElem?_getD, List.getD_eq_getElem?_getD, h2]
    · rcases List.mem_append.1 hx with hx | hx
      · exact hm x (List.mem_of_mem_take hx)
      · exact hm x (List.mem_of_mem_drop hx)
end Go.Proofs.Ytaogpbhgoeepbaa
