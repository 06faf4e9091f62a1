/- Proved: what DropDoor computes, and the reference's check of a pair; slices.Delete from a list of lists of the caller's own: only that list's row turns; what RetireKey computes; a system with a further row, all in memory of its own; what ExtendSystem computes; ExtendSystem of the program; ExtendSystem of the reference. -/
import Derived.Test.YtegmognpofcfiaaGreatChecked
import Derived.Deep.RegionLaw
import Derived.Deep.RegionHeld3
import Derived.Test.YtegmognpofcfiaaGreatUPkD
import Derived.Test.YtegmognpofcfiaaGreatUPkE
import Derived.Test.YtegmognpofcfiaaGreatUPkA
import Derived.Test.YtegmognpofcfiaaGreatUWithRow
import Derived.Test.YtegmognpofcfiaaGreatUCanSpec
import Derived.Test.YtegmognpofcfiaaGreatUPkSt
namespace Go.Proofs.YtegmognpofcfiaaGreat
open Go.ChangeShapes Go.WideShapes Go.ChangeAt Go.RowKit
set_option linter.unusedVariables false

def delAt (d : Nat) (r : List Int) : List Int := r.take d ++ r.drop (d + 1)
def dropDoor (mk : MK) (t cuts : List (List Int)) (d : Int) : (MK × List (List Int)) × Int :=
  if designCode mk t cuts ≠ 0 then ((noSys, []), designCode mk t cuts) else if inB d 0 ((doorsOf t : Int) - 1) = false then ((noSys, []), 2) else if doorsOf t = 1 then ((noSys, []), 5) else ((mk, mapI (fun _ r => delAt d.toNat r) t t.length), 0)
theorem dropDoor_bad {mk : MK} {t cuts : List (List Int)} {d : Int} (h : designCode mk t cuts ≠ 0) : dropDoor mk t cuts d = ((noSys, []), designCode mk t cuts) := by unfold dropDoor; rw [if_pos h]
theorem dropDoor_range {mk : MK} {t cuts : List (List Int)} {d : Int} (h : designCode mk t cuts = 0) (h2 : inB d 0 ((doorsOf t : Int) - 1) = false) : dropDoor mk t cuts d = ((noSys, []), 2) := by unfold dropDoor; rw [if_neg (by omega), if_pos h2]
theorem dropDoor_one {mk : MK} {t cuts : List (List Int)} {d : Int} (h : designCode mk t cuts = 0) (h2 : inB d 0 ((doorsOf t : Int) - 1) = true) (h3 : doorsOf t = 1) : dropDoor mk t cuts d = ((noSys, []), 5) := by unfold dropDoor; rw [if_neg (by omega), if_neg (by rw [h2]; decide), if_pos h3]
theorem dropDoor_ok {mk : MK} {t cuts : List (List Int)} {d : Int} (h : designCode mk t cuts = 0) (h2 : inB d 0 ((doorsOf t : Int) - 1) = true) (h3 : doorsOf t ≠ 1) : dropDoor mk t cuts d = ((mk, mapI (fun _ r => delAt d.toNat r) t t.length), 0) := by unfold dropDoor; rw [if_neg (by omega), if_neg (by rw [h2]; decide), if_neg h3]
def pairB (t : List (List Int)) (k d : Int) : Bool := inB k 0 ((t.length : Int) - 1) && inB d 0 ((doorsOf t : Int) - 1)

set_option maxHeartbeats 1000000 in
theorem l15Pair_c (w : World) (mk : MK) (v : Value) (z : Zone) (t : List (List Int)) (h : RowsR z w v t) (ht : 0 < t.length) (k d : Int) :
    Calls Tryz.prog 115 #[sysV mk v, .int .i64 k, .int .i64 d] w (Ret w fun r _ => r = .bool (pairB t k d)) := by
  obtain ⟨a, n, cap, rfl, hn, hmx, -⟩ := SliceR.shape h
  obtain ⟨b, off, rfl, a0, m, cp, hmE, hmm, -, hcr, -⟩ := rows_at h (k := 0) (by omega)
  have hn0 : 0 < n := by omega
  have HQ : Hid (pairB t k d = (inB k 0 ((n : Int) - 1) && inB d 0 ((m : Int) - 1))) := by show _ = _; unfold pairB doorsOf; rw [hn, hmE]
  generalize pairB t k d = res at *
  have hc0 := hcr w (Ext.refl _)
  rw [Nat.add_zero] at hc0
  have HC1 := Lib.hid (fun w' => l01In_c w' k 0 ((n : Int) - 1))
  have HC2 := Lib.hid (fun w' => l01In_c w' d 0 ((m : Int) - 1))
  clear hn hmE h ht hcr
  generalize inB k 0 ((n : Int) - 1) = q1 at *
  generalize inB d 0 ((m : Int) - 1) = q2 at *
  unfold sysV
  go_enter Tryz.func115, Tryz.ntmps115
  go_wp2_with fail
  generalize hw0 : World.alloc _ _ = w0
  obtain ⟨e0, S0⟩ := sys_box hw0
  clear hw0
  have c5 := S0.c5
  clear S0
  replace hc0 := e0.cell hc0
  refine Calls.mono (HC1.out w0) ?_
  rintro e w1 ⟨rfl, hd⟩
  have e1 := Ext.ofDrew hd
  clear hd
  replace hc0 := e1.cell hc0
  replace c5 := e1.cell c5
  cases q1 with
  | false =>
    go_wp2_with fail
    go_ret
    exact ⟨_, rfl, congrArg Value.bool (by rw [HQ.out]; rfl), e0.trans e1⟩
  | true =>
    go_wp2_with fail
    refine Calls.mono (HC2.out w1) ?_
    rintro e w2 ⟨rfl, hd⟩
    have e2 := Ext.ofDrew hd
    clear hd
    go_wp2_with fail
    go_ret
    exact ⟨_, rfl, congrArg Value.bool (by rw [HQ.out]; rfl), (e0.trans e1).trans e2⟩

open Go.ChangeShapes Go.WideShapes Go.ChangeAt Go.RowKit
set_option linter.unusedVariables false

theorem Tryz.zeroInts : ∀ w, (zeroValue 29).run Tryz.prog w = .ok (.slice none 0 0) w := fun _ => by kernel_rfl
def DelRowsU (v : Value) (w : World) (ys : List (Option Addr × Nat × Nat)) (e : Ending) (w' : World) : Prop := ∃ cap g, e = .returned (.slice (some ⟨g, 0, none⟩) ys.length cap) ∧ v.ownBlock = some g ∧ ys.length ≤ cap ∧ cap ≤ maxLen ∧
  (∀ t, t < ys.length → w'.cell? ⟨g, t, none⟩ = some (slV (ys.getD t (none, 0, 0)))) ∧ (∀ t, w'.frozen? ⟨g, t, none⟩ = false) ∧ Within ⟨g, g + 1, true⟩ w w'

set_option maxRecDepth 20000 in
set_option maxHeartbeats 2000000 in
theorem DeleteRowsU_c (w : World) (B : Nat) (v : Value) (xs : List (Option Addr × Nat × Nat)) (h : OwnP slV 29 B w v xs) (i j : Nat) (hij : i < j) (hj : j ≤ xs.length) :
    Calls Tryz.prog 112 #[v, .int .i64 i, .int .i64 j] w (DelRowsU v w (xs.take i ++ xs.drop j)) := by
  obtain ⟨i0, hi0, hz0, hz1, hz2⟩ := info_parts Tryz.infoInts
  rcases h.2 with ⟨-, h0⟩ | ⟨g, cap, cur, rfl, hb, hg, hnc, hcm, hcs, htake⟩
  · omega
  · have hn : ∃ n, n = xs.length := ⟨_, rfl⟩
    obtain ⟨n, hn⟩ := hn
    rw [← hn] at hnc h hj htake ⊢
    have hcm' := hcm
    unfold maxLen at hcm'
    have hgl : g < w.heap.size := (Array.getElem?_eq_some_iff.1 hg).1
    -- every cell below n
    have hcell : ∀ t, t < n → w.cell? ⟨g, t, none⟩ = some (slV (xs.getD t (none, 0, 0))) := fun t ht => by
      obtain ⟨h1, h2, -⟩ := h.at ht
      rw [h2]; simp [h1]
    have hfree : ∀ t, w.frozen? ⟨g, t, none⟩ = false := fun t => frozen_of_row w g t cur 29 hg
    obtain ⟨news, hnews⟩ : ∃ news, news = (xs.drop j).map slV := ⟨_, rfl⟩
    have hlen : news.length = n - j := by rw [hnews]; simp; omega
    have hget : ∀ t, t < n - j → news[t]? = some (slV (xs.getD (j + t) (none, 0, 0))) := fun t ht => by
      rw [hnews, List.getElem?_map, List.getElem?_drop]; simp [show j + t < xs.length by omega]
    obtain ⟨A, hA, hsrc⟩ : ∃ A : Addr, (if cap = j then some (⟨g, 0, none⟩ : Addr) else some ⟨g, j, none⟩) = some A ∧ Hid (∀ t u, news[t]? = some u → w.drew.cell? (A.add t) = some u) := by
      by_cases h : cap = j
      · refine ⟨⟨g, 0, none⟩, by simp [h], fun t u hu => ?_⟩
        have h0 : news.length = 0 := by rw [hlen]; omega
        rw [List.length_eq_zero_iff.1 h0] at hu
        simp at hu
      · refine ⟨⟨g, j, none⟩, by simp [h], fun t u hu => ?_⟩
        have ht : t < n - j := by
          have := (List.getElem?_eq_some_iff.1 hu).1
          rwa [hlen] at this
        rw [hget t ht] at hu
        rw [Addr.add_lit]
        exact (hcell (j + t) (by omega)).trans hu
    have s1 : Hid (news.length = (n - j) * 1) := by rw [Nat.mul_one]; exact hlen
    have s2 : Hid (∀ u ∈ news, u.oneCell' = true) := by
      intro u hu
      rw [hnews] at hu
      obtain ⟨x, _, rfl⟩ := List.mem_map.1 hu
      rfl
    have s3 : Hid (∀ t, t < news.length → (w.drew.cell? ⟨g, 0 + i * 1 + t, none⟩).isSome = true ∧ w.drew.frozen? ⟨g, 0 + i * 1 + t, none⟩ = false) := by
      intro t ht
      rw [hlen] at ht
      rw [Nat.mul_one, Nat.zero_add]
      exact ⟨by show (w.cell? _).isSome = true; rw [hcell (i + t) (by omega)]; rfl, hfree _⟩
    obtain ⟨W1, hW1⟩ : ∃ W1, W1 = w.drew.setCells g (0 + i * 1) news := ⟨_, rfl⟩
    have hW1' : Within ⟨g, g + 1, true⟩ w W1 := by
      rw [hW1]; exact (⟨rfl, rfl, rfl, rfl, fun _ _ => rfl⟩ : Within _ w w.drew).trans (within_setCells g _ _ _)
    have hc1 : ∀ t, t < i → W1.cell? ⟨g, t, none⟩ = some (slV (xs.getD t (none, 0, 0))) := fun t ht => by
      rw [hW1, World.cell?_setCells_out g _ _ _ _ (fun _ _ => .inl (by simp; omega))]
      exact hcell t (by omega)
    have hc2 : ∀ t, t < n - j → W1.cell? ⟨g, i + t, none⟩ = some (slV (xs.getD (j + t) (none, 0, 0))) := fun t ht => by
      have := cell_setCells_in g news (0 + i * 1) w.drew t (by omega) ((s3.out t (by omega)).1)
      rw [Nat.mul_one, Nat.zero_add] at this hW1
      rw [hW1, this]
      have h2 := hget t ht
      rwa [List.getElem?_eq_getElem (by omega)] at h2
    have hc3 : ∀ t, t < n → (W1.cell? ⟨g, t, none⟩).isSome = true := fun t ht => by
      by_cases h1 : t < i
      · rw [hc1 t h1]; rfl
      · by_cases h2 : t < i + (n - j)
        · have := hc2 (t - i) (by omega)
          rw [show i + (t - i) = t by omega] at this
          rw [this]; rfl
        · rw [hW1, World.cell?_setCells_out g _ _ _ _ (fun _ _ => .inr (by simp; omega))]
          show (w.cell? _).isSome = true
          rw [hcell t ht]; rfl
    have hfr1 : ∀ t, W1.frozen? ⟨g, t, none⟩ = false := fun t => by rw [hW1, frozen_setCells]; exact hfree t
    obtain ⟨W2, hW2⟩ : ∃ W2, W2 = W1.setCells g (i + (n - j)) (List.replicate (n - (i + (n - j))) (Value.slice none 0 0)) := ⟨_, rfl⟩
    have hcl : ∀ ty, (Builtin.clear_ #[26] ty #[.slice (some ⟨g, i + (n - j), none⟩) (n - (i + (n - j))) (cap - (i + (n - j)))]).run Tryz.prog W1 = .ok (.tuple #[]) W2 :=
      fun ty => by
        rw [hW2]
        exact Lib.run_clear_slice W1 _ _ ty _ Tryz.underlying26 Tryz.zeroInts rfl rfl g (i + (n - j)) _ _ (by omega) (fun t ht => by
          have := hc3 (i + (n - j) + t) (by omega)
          exact this) (fun t ht => hfr1 _)
    have hW2' : Within ⟨g, g + 1, true⟩ w W2 := by rw [hW2]; exact hW1'.trans (within_setCells g _ _ _)
    have hr1 : Hid (∀ t, t < i → W2.cell? ⟨g, t, none⟩ = some (slV (xs.getD t (none, 0, 0)))) := fun t ht => by
      rw [hW2, World.cell?_setCells_out g _ _ _ _ (fun _ _ => .inl (by simp; omega))]; exact hc1 t ht
    have hr2 : Hid (∀ t, t < n - j → W2.cell? ⟨g, i + t, none⟩ = some (slV (xs.getD (j + t) (none, 0, 0)))) := fun t ht => by
      rw [hW2, World.cell?_setCells_out g _ _ _ _ (fun _ _ => .inl (by simp; omega))]; exact hc2 t ht
    have hr3 : Hid (∀ t, W2.frozen? ⟨g, t, none⟩ = false) := fun t => by rw [hW2, frozen_setCells]; exact hfr1 t
    have hW : Hid (W1 = w.drew.setCells g (0 + i * 1) news) := hW1
    have HW2 := Lib.hid hW2'
    have HX : Hid (n = xs.length) := hn
    have hic : i ≤ cap := by omega
    have hjc : j ≤ cap := by omega
    clear hW1 hW2 hW1' hW2' hc1 hc2 hc3 hfr1 hget hnews hlen hcell hfree hn htake hcs hg
    go_enter Tryz.func112, Tryz.ntmps112
    go_wp2_with fail
    go_region_law (refine step_append_room rfl (.tmp 22) (.tmp 25) 26 rfl 29 i0 1 Tryz.underlying26 hi0 hz1 g 0 i cap (by simp [Act.eval, Act.put]) A (n - j) (cap - j) news (by simp [Act.eval, Act.put]) s1.out hsrc.out s2.out (by omega) s3.out ?_; rw [← hW.out])
    go_wp2
    go_ret
    have hn := HX.out
    have hl : (xs.take i ++ xs.drop j).length = i + (n - j) := by simp; omega
    refine ⟨cap, g, by rw [hl]; rfl, rfl, by rw [hl]; omega, hcm, fun t ht => ?_, hr3.out, HW2.out⟩
    rw [hl] at ht
    by_cases h1 : t < i
    · rw [hr1.out t h1]
      have h2 : (xs.take i ++ xs.drop j)[t]? = xs[t]? := by rw [List.getElem?_append_left (by simp; omega), List.getElem?_take, if_pos h1]
      rw [List.getD_eq_getElem?_getD, List.getD_eq_getElem?_getD, h2]
    · have h0 := hr2.out (t - i) (by omega)
      rw [show i + (t - i) = t by omega] at h0
      rw [h0]
      have h2 : (xs.take i ++ xs.drop j)[t]? = xs[j + (t - i)]? := by rw [List.getElem?_append_right (by simp; omega), List.getElem?_drop]; congr 1; simp; omega
      rw [List.getD_eq_getElem?_getD, List.getD_eq_getElem?_getD, h2]

def rmAt (k : Nat) (l : List (List Int)) : List (List Int) := l.take k ++ l.drop (k + 1)
theorem rmAt_len {k : Nat} {l : List (List Int)} (h : k < l.length) : (rmAt k l).length = l.length - 1 := by unfold rmAt; rw [List.length_append, List.length_take, List.length_drop]; omega
theorem drop_get {α : Type} {xs : List α} {k t : Nat} (h : t < (xs.take k ++ xs.drop (k + 1)).length) (hk : k < xs.length) : ∃ h' : (if t < k then t else t + 1) < xs.length, (xs.take k ++ xs.drop (k + 1))[t] = xs[if t < k then t else t + 1] := by
  rw [List.length_append, List.length_take, List.length_drop] at h
  by_cases e : t < k
  · simp only [e, if_true]
    refine ⟨by omega, ?_⟩
    rw [List.getElem_append_left (by rw [List.length_take]; omega), List.getElem_take]
  · simp only [e, if_false]
    refine ⟨by omega, ?_⟩
    rw [List.getElem_append_right (by rw [List.length_take]; omega), List.getElem_drop]
    congr 1
    rw [List.length_take]; omega
def DelRows (L : Nat) (w : World) (W : World) (ys : List (List Int)) (e : Ending) (w' : World) : Prop := ∃ r, e = .returned r ∧ RowsR ⟨L, w.heap.size, true⟩ w' r ys ∧ Within ⟨L, w.heap.size, true⟩ W w'

/-- one list is taken out of lists of the caller's own -/
theorem DeleteRows_c (w W : World) (eW : Ext w W) (L B : Nat) (v : Value) (xs : List (List Int)) (h : OwnR true L IntsR 29 B w v xs) (hL : L ≤ B) (k j : Nat) (hj : j = k + 1) (hk : k < xs.length) :
    Calls Tryz.prog 112 #[v, .int .i64 k, .int .i64 j] W (DelRows L w W (rmAt k xs)) := by
  subst hj
  have hb := OwnA.block h
  obtain ⟨us, Z, hl, ho, h1, h2, h3⟩ := h
  refine (DeleteRowsU_c W B v us (ho.ext eW) k (k + 1) (Nat.lt_succ_self _) (by omega)).mono ?_
  rintro e w' ⟨cap, g, rfl, hg, hc1, hc2, hc, hf, hw⟩
  obtain ⟨hg1, hg2⟩ := hb g hg
  have hlen : (us.take k ++ us.drop (k + 1)).length = (rmAt k xs).length := by unfold rmAt; simp [hl]
  have hes := eW.size
  refine ⟨_, rfl, ⟨some ⟨g, 0, none⟩, cap, by rw [hlen], by omega, hc2, (fun h => by cases h), fun ad had hp => ?_⟩, hw.sub ⟨fun q hq => ?_, fun _ => rfl⟩⟩
  case refine_2 =>
    have q1 := hq.1; have q2 := hq.2; simp only at q1 q2
    exact ⟨by show L ≤ q; omega, by show q < w.heap.size; omega⟩
  cases had
  have hmap : ∀ i, i < (rmAt k xs).length → (if i < k then i else i + 1) < xs.length := fun i hi => (drop_get (xs := xs) hi hk).1
  have hws := hw.size
  refine ⟨rfl, ⟨by simp only; omega, by simp only; omega⟩, by simp only; omega, fun _ i _ => by rw [Nat.zero_add]; exact hf i, fun i => Z (if i < k then i else i + 1), fun i hi => ?_, fun _ => ⟨fun i hi hz => ?_, fun i l hil hl' => ?_⟩, fun i hi => ?_⟩
  · have := h1 _ (hmap i hi)
    exact ⟨fun q hq => ⟨(this.2 q hq).1, (this.2 q hq).2.1⟩, fun _ => this.1 rfl⟩
  · exact ((h1 _ (hmap i hi)).2 g hz).2.2 hg
  · refine h2 rfl _ _ ?_ (hmap l hl')
    by_cases e1 : i < k
    · by_cases e2 : l < k
      · simp only [e1, e2, if_true]; omega
      · simp only [e1, e2, if_true, if_false]; omega
    · have e2 : ¬ l < k := by omega
      simp only [e1, e2, if_false]; omega
  · have hi2 : i < (us.take k ++ us.drop (k + 1)).length := by omega
    obtain ⟨q1, q2⟩ := drop_get hi2 (by omega : k < us.length)
    obtain ⟨q3, q4⟩ := drop_get (xs := xs) hi hk
    refine ⟨slV us[if i < k then i else i + 1], ?_, ?_⟩
    · rw [Nat.zero_add, hc i hi2, ← q2, List.getD_eq_getElem?_getD, List.getElem?_eq_getElem hi2]
      rfl
    · have := stable_ints.ext (h3 _ q3 q1) eW
      have e : (rmAt k xs)[i] = xs[if i < k then i else i + 1] := q4
      rw [e]
      exact stable_ints.within this hw (fun q a c => by
        have q5 := c.1; have q6 := c.2; simp only at q5 q6
        have : q = g := by omega
        subst this
        exact ((h1 _ q3).2 _ a).2.2 hg)

open Go.ChangeShapes Go.WideShapes Go.ChangeAt Go.RowKit
set_option linter.unusedVariables false

abbrev SysRows : Type := (MK × List (List Int)) × (List (List Int) × Int)
def noRes (c : Int) : SysRows := ((noSys, []), ([], c))
def retireKey (mk : MK) (t cuts : List (List Int)) (k : Int) : SysRows :=
  if designCode mk t cuts ≠ 0 then noRes (designCode mk t cuts) else if inB k 0 ((cuts.length : Int) - 1) = false then noRes 2 else if isSystem mk (rmAt k.toNat t) = false then noRes 5 else ((mk, rmAt k.toNat t), (rmAt k.toNat cuts, 0))
theorem retire_bad {mk : MK} {t cuts : List (List Int)} {d : Int} (h : designCode mk t cuts ≠ 0) : retireKey mk t cuts d = noRes (designCode mk t cuts) := by unfold retireKey; rw [if_pos h]
theorem retire_range {mk : MK} {t cuts : List (List Int)} {d : Int} (h : designCode mk t cuts = 0) (h2 : inB d 0 ((cuts.length : Int) - 1) = false) : retireKey mk t cuts d = noRes 2 := by unfold retireKey; rw [if_neg (by omega), if_pos h2]
theorem retire_state {mk : MK} {t cuts : List (List Int)} {d : Nat} (h : designCode mk t cuts = 0) (h2 : inB d 0 ((cuts.length : Int) - 1) = true) (h3 : isSystem mk (rmAt d t) = false) : retireKey mk t cuts d = noRes 5 := by unfold retireKey; rw [if_neg (by omega), if_neg (by rw [h2]; decide), Int.toNat_natCast, if_pos h3]
theorem retire_ok {mk : MK} {t cuts : List (List Int)} {d : Nat} (h : designCode mk t cuts = 0) (h2 : inB d 0 ((cuts.length : Int) - 1) = true) (h3 : isSystem mk (rmAt d t) = true) : retireKey mk t cuts d = ((mk, rmAt d t), (rmAt d cuts, 0)) := by unfold retireKey; rw [if_neg (by omega), if_neg (by rw [h2]; decide), Int.toNat_natCast, if_neg (by rw [h3]; decide)]
/-- a system, a list of lists and a code: the first lies before the second -/
def SysRes2 (w : World) (x : SysRows) (r : Value) (w' : World) : Prop := ∃ u0 u1 m, r = .tuple #[sysV x.1.1 u0, u1, .int .i64 x.2.2] ∧ (w.heap.size ≤ m ∧ m ≤ w'.heap.size) ∧ RowsR ⟨w.heap.size, m, true⟩ w' u0 x.1.2 ∧ RowsR ⟨m, w'.heap.size, true⟩ w' u1 x.2.1
theorem SysRes2.bad {w w' : World} {x : SysRows} {c : Int} (h : x = noRes c) (hs : w.heap.size ≤ w'.heap.size) : SysRes2 w x (.tuple #[sysV noSys (.slice none 0 0), .slice none 0 0, .int .i64 c]) w' := by
  subst h; exact ⟨_, _, _, rfl, ⟨Nat.le_refl _, hs⟩, SliceR.nil _ _ _, SliceR.nil _ _ _⟩
theorem DesignOk.rowLen {mk : MK} {t cuts : List (List Int)} (ok : DesignOk mk t cuts) {k : Nat} (hk : k < cuts.length) : (cuts.getD k []).length ≤ 6 := by
  have hm : cuts.getD k [] ∈ cuts := by simp [List.getD_eq_getElem?_getD, hk]
  have := (ok.key _ hm).len
  have := ok.mk1
  omega

open Go.ChangeShapes Go.WideShapes Go.ChangeAt Go.RowKit
set_option linter.unusedVariables false

theorem OwnA.refine {α : Type} {b : Bool} {A : Nat → Prop} {E : Repr α} {e : TypeId} {B : Nat} {w : World} {v : Value} {xs : List α} (h : OwnA b A E e B w v xs) : OwnA b (fun k => A k ∧ k < w.heap.size) E e B w v xs := by
  obtain ⟨us, Z, hl, ho, h1, h2, h3⟩ := h
  exact ⟨us, Z, hl, ho, fun i hi => ⟨(h1 i hi).1, fun k hk => ⟨⟨((h1 i hi).2 k hk).1, ((h1 i hi).2 k hk).2.1⟩, ((h1 i hi).2 k hk).2⟩⟩, h2, h3⟩
theorem run_joinO {P : Program} {e : TypeId} {base wa w7 wb w8 W : World} {v7 : Value} {xs : List (List Int)} {u : Option Addr × Nat × Nat} {y : List Int} (t ty : TypeId) (ht : P.underlying t = some (.slice e)) (hinfo : (P.info? e).map (fun i => (i.zero, i.size, i.bytes)) = some (some (.slice Option.none 0 0), 1, 24))
    (o7 : OwnR true wa.heap.size IntsR e wa.heap.size w7 v7 xs) (o8 : IntsR (.new wb w8) w8 (slV u) y) (hn : xs.length + 1 ≤ 1099511627776) (ha : Ext base wa) (hb : Ext base wb) (ha7 : Ext wa w7) (hb8 : Ext wb w8)
    (hor : (Ext w7 wb ∧ Ext w8 W) ∨ (Ext w8 wa ∧ Ext w7 W)) {g : Nat} (hg : W.cell? ⟨g, 0, Option.none⟩ = some (slV u)) :
    ∃ v' w', (Builtin.append_ #[t, t] ty #[v7, .slice (some ⟨g, 0, Option.none⟩) 1 1]).run P W = .ok v' w' ∧ (∃ a c, v' = .slice a (xs.length + 1) c ∧ RowsR ⟨base.heap.size, w'.heap.size, true⟩ w' v' (xs ++ [y]) ∧ Ext base w') := by
  have k1 := ha.size
  have k2 := hb.size
  have k3 := ha7.size
  have k4 := hb8.size
  have hW : Ext w7 W ∧ Ext w8 W := by
    rcases hor with ⟨h1, h2⟩ | ⟨h1, h2⟩
    · exact ⟨(h1.trans hb8).trans h2, h2⟩
    · exact ⟨h2, (h1.trans ha7).trans h2⟩
  have k5 := hW.1.size
  have k6 := hW.2.size
  have hbk := o7.block
  have hap : ∀ k, (Zone.new wb w8).Has k → k < wa.heap.size ∨ w7.heap.size ≤ k := fun k hk => by
    have h2 := hk.1; have h3 := hk.2
    simp only [Zone.new] at h2 h3
    rcases hor with ⟨h, -⟩ | ⟨h, -⟩
    · have := h.size; omega
    · have := h.size; omega
  have hown : OwnA true (fun k => wa.heap.size ≤ k ∧ k < w7.heap.size) IntsR e wa.heap.size W v7 xs := OwnA.below stable_ints (OwnA.refine o7) hW.1
  obtain ⟨v', w', hr, ho, hgr, -⟩ := run_appendRowsY (P := P) (w := W) (w0 := W) (ad := ⟨g, 0, Option.none⟩) (cap := 1) (ys := [y]) stable_ints t ty ht hinfo (A := fun k => base.heap.size ≤ k) (fun k _ h => Nat.le_trans k1 h.1) hown (Below.refl _ _) (fun _ => .new wb w8) (fun _ _ _ => rfl)
    (fun _ _ k hk => ⟨by have := hk.1; simp only [Zone.new] at this; omega, by have := hk.2; simp only [Zone.new] at this; omega, fun e => by
      have h1 := hbk k e
      have := hap k hk
      omega⟩) (fun _ _ _ k hk _ h => by have := hap k hk; have q1 := h.1; have q2 := h.2; omega) (fun _ i j hij hj => by simp at hj; omega)
    (fun j hj => by
      have : j = 0 := by simpa using hj
      subst this
      exact ⟨u, by rw [Addr.add_lit]; exact hg, fun _ => stable_ints.ext o8 hW.2⟩) (by simp) (by unfold maxLen; omega) (by simpa using hn) (by omega)
  have hbe : Below wa.heap.size W w' := (Below.refl _ _).grown hgr (by omega) (fun k hk => (hbk k hk).1)
  obtain ⟨a, n, c, rfl, hl, -⟩ := ho.shape
  rw [List.length_append] at hl
  refine ⟨_, w', hr, a, c, by rw [hl]; rfl, OwnA.reads ho (fun k h => h) k1, ?_⟩
  exact Below.trans ((ha.trans ha7).trans hW.1) (Below.mono hbe k1)

set_option maxRecDepth 20000 in
set_option maxHeartbeats 600000 in
theorem withRowO_c (w : World) (mk : MK) (v : Value) (z : Zone) (t : List (List Int)) (h : RowsR z w v t) (u : Value) (y : Zone) (row : List Int) (hr : IntsR y w u row) (hl : t.length ≤ 1000) (hrl : ∀ k, k < t.length → (t.getD k []).length ≤ 1000) (hrow : row.length ≤ 1000) :
    Calls Tryz.prog 126 #[sysV mk v, u] w (Ret w fun r w' => ∃ v', r = sysV mk v' ∧ RowsR ⟨w.heap.size, w'.heap.size, true⟩ w' v' (t ++ [row])) := by
  have HC1 := Lib.hid (fun (w' : World) (e : Ext w w') => copyLists_c w' v z t (stable_rows.ext h e) hl hrl)
  have HC2 := Lib.hid (fun (w' : World) (e : Ext w w') => Clone_c w' u y row (stable_ints.ext hr e) (Nat.le_trans hrow (by decide)))
  have HM := Lib.hid (IntsR.mem hr)
  have Hl : Hid (t.length + 1 ≤ 1099511627776) := by show _ ≤ _; omega
  obtain ⟨a, n, cap, rfl, -⟩ := SliceR.shape h
  obtain ⟨a2, n2, cap2, rfl, -⟩ := SliceR.shape hr
  clear h hr hl hrl hrow
  unfold sysV
  go_enter Tryz.func126, Tryz.ntmps126
  go_wp2_with fail
  generalize hw1 : World.alloc _ _ = w1
  obtain ⟨e1, HA, HK⟩ : Ext w w1 ∧ Hid (∀ w', Ext w1 w' → w'.cell? ⟨w.heap.size, 0, none⟩ = some (.int .i64 mk.c) ∧ w'.cell? ⟨w.heap.size, 1, none⟩ = some (.int .i64 mk.d) ∧ w'.cell? ⟨w.heap.size, 2, none⟩ = some (.int .i64 mk.s) ∧ w'.cell? ⟨w.heap.size, 3, none⟩ = some (.int .i64 mk.m) ∧ w'.cell? ⟨w.heap.size, 4, none⟩ = some (.int .i64 mk.l) ∧ w'.cell? ⟨w.heap.size, 5, none⟩ = some (.slice a n cap)) ∧
      Hid (∀ w', Ext w1 w' → (w'.cell? ⟨w.heap.size + 1, 0, none⟩ = some (.int .i64 0) ∧ w'.cell? ⟨w.heap.size + 1, 1, none⟩ = some (.int .i64 0) ∧ w'.cell? ⟨w.heap.size + 1, 2, none⟩ = some (.int .i64 0) ∧ w'.cell? ⟨w.heap.size + 1, 3, none⟩ = some (.int .i64 0) ∧ w'.cell? ⟨w.heap.size + 1, 4, none⟩ = some (.int .i64 0) ∧ w'.cell? ⟨w.heap.size + 1, 5, none⟩ = some (.slice none 0 0)) ∧
      (w'.frozen? ⟨w.heap.size + 1, 0, none⟩ = false ∧ w'.frozen? ⟨w.heap.size + 1, 1, none⟩ = false ∧ w'.frozen? ⟨w.heap.size + 1, 2, none⟩ = false ∧ w'.frozen? ⟨w.heap.size + 1, 3, none⟩ = false ∧ w'.frozen? ⟨w.heap.size + 1, 4, none⟩ = false ∧ w'.frozen? ⟨w.heap.size + 1, 5, none⟩ = false)) := by
    have hz : w1.heap.size = w.heap.size + 2 := by rw [← hw1]; simp
    refine ⟨by rw [← hw1]; exact (Ext.alloc _ _).trans (Ext.alloc _ _), fun w' e => ⟨e.cell ?_, e.cell ?_, e.cell ?_, e.cell ?_, e.cell ?_, e.cell ?_⟩, fun w' e => ⟨⟨e.cell ?_, e.cell ?_, e.cell ?_, e.cell ?_, e.cell ?_, e.cell ?_⟩, ?_⟩⟩
    case refine_13 => refine ⟨?_, ?_, ?_, ?_, ?_, ?_⟩ <;> (refine (Below.frozen e (by show w.heap.size + 1 < _; omega)).trans ?_; rw [← hw1]; clear e hz hw1 HC1 HC2 HM Hl; go_simp)
    all_goals (rw [← hw1]; clear e hz hw1 HC1 HC2 HM Hl; go_simp)
  have HZ : Hid (w1.heap.size = w.heap.size + 2) := by show _ = _; rw [← hw1]; simp
  clear hw1
  obtain ⟨c0, c1, c2, c3, c4, c5⟩ := HA.out w1 (Ext.refl _)
  go_region_held3 (fun w' => w'.cell? ⟨w.heap.size, 0, none⟩ = some (.int .i64 mk.c) ∧ w'.cell? ⟨w.heap.size, 1, none⟩ = some (.int .i64 mk.d) ∧ w'.cell? ⟨w.heap.size, 2, none⟩ = some (.int .i64 mk.s) ∧ w'.cell? ⟨w.heap.size, 3, none⟩ = some (.int .i64 mk.m) ∧ w'.cell? ⟨w.heap.size, 4, none⟩ = some (.int .i64 mk.l) ∧ w'.cell? ⟨w.heap.size, 5, none⟩ = some (.slice a n cap)) (first | (go_keep; done) | (exact HA.out _ (by repeat (first | exact Ext.refl _ | assumption | (refine Ext.trans ?_ (Ext.alloc _ _)) | (refine Ext.trans ?_ (Ext.drew _)) | (refine Ext.trans ?_ (by assumption)))))) (first | (go_at_call 113; (with_reducible refine (HC1.out _ (by repeat (first | exact Ext.refl _ | assumption | (refine Ext.trans ?_ (Ext.alloc _ _)) | (refine Ext.trans ?_ (Ext.drew _)) | (refine Ext.trans ?_ (by assumption))))).mono ?_); rintro e w7 hr7; obtain ⟨r7, rfl, o7, e7⟩ := ret_ext hr7; clear hr7; obtain ⟨a7, n7, k7, rfl, -⟩ := OwnA.shape o7) | (go_at_call 127; (with_reducible refine (HC2.out _ (by repeat (first | exact Ext.refl _ | assumption | (refine Ext.trans ?_ (Ext.alloc _ _)) | (refine Ext.trans ?_ (Ext.drew _)) | (refine Ext.trans ?_ (by assumption))))).mono ?_); rintro e w8 hr8; obtain ⟨r8, rfl, o8, e8⟩ := ret_ext hr8; clear hr8; obtain ⟨a8, n8, k8, rfl, -⟩ := o8.shape) | (refine step_append_of (by rfl) _ _ 26 (by rfl) (by rfl) (by rfl) (fun ty => run_joinO (u := (a8, n8, k8)) 26 ty Tryz.underlying26 Tryz.infoInts o7 (OwnP.ints o8 HM.out (Nat.le_refl _)) Hl.out (base := w1) (by repeat (first | exact Ext.refl _ | assumption | (refine Ext.trans ?_ (Ext.alloc _ _)) | (refine Ext.trans ?_ (Ext.drew _)) | (refine Ext.trans ?_ (by assumption)))) (by repeat (first | exact Ext.refl _ | assumption | (refine Ext.trans ?_ (Ext.alloc _ _)) | (refine Ext.trans ?_ (Ext.drew _)) | (refine Ext.trans ?_ (by assumption)))) e7 e8 (by first | exact .inl ⟨(by repeat (first | exact Ext.refl _ | assumption | (refine Ext.trans ?_ (Ext.alloc _ _)) | (refine Ext.trans ?_ (Ext.drew _)) | (refine Ext.trans ?_ (by assumption)))), (by repeat (first | exact Ext.refl _ | assumption | (refine Ext.trans ?_ (Ext.alloc _ _)) | (refine Ext.trans ?_ (Ext.drew _)) | (refine Ext.trans ?_ (by assumption))))⟩ | exact .inr ⟨(by repeat (first | exact Ext.refl _ | assumption | (refine Ext.trans ?_ (Ext.alloc _ _)) | (refine Ext.trans ?_ (Ext.drew _)) | (refine Ext.trans ?_ (by assumption)))), (by repeat (first | exact Ext.refl _ | assumption | (refine Ext.trans ?_ (Ext.alloc _ _)) | (refine Ext.trans ?_ (Ext.drew _)) | (refine Ext.trans ?_ (by assumption))))⟩) (by first | (simp [slV]; done) | (refine Ext.cell e7 ?_; simp [slV]; done))) ?_; intro v9 w9 h9; obtain ⟨a9, k9, rfl, x9, e9⟩ := h9; obtain ⟨⟨d0, d1, d2, d3, d4, d5⟩, ⟨f0, f1, f2, f3, f4, f5⟩⟩ := HK.out _ e9; clear o7 o8 e7 e8 c0 c1 c2 c3 c4 c5 Hl HC1 HC2 HM HK) | fail)
  generalize hwF : World.setCell _ _ _ = wF
  have hz := HZ.out
  have hz9 := e9.size
  have wiF : Within ⟨w.heap.size + 1, w.heap.size + 2, true⟩ w9 wF := by
    rw [← hwF]
    exact ((((((Within.refl _ w9).setCell ⟨by simp only; omega, by simp only; omega⟩ _).setCell ⟨by simp only; omega, by simp only; omega⟩ _).setCell ⟨by simp only; omega, by simp only; omega⟩ _).setCell ⟨by simp only; omega, by simp only; omega⟩ _).setCell ⟨by simp only; omega, by simp only; omega⟩ _).setCell ⟨by simp only; omega, by simp only; omega⟩ _
  have y0 : wF.cell? ⟨w.heap.size + 1, 0, none⟩ = some (.int .i64 mk.c) := by rw [← hwF]; clear hwF; go_simp
  have y1 : wF.cell? ⟨w.heap.size + 1, 1, none⟩ = some (.int .i64 mk.d) := by rw [← hwF]; clear hwF; go_simp
  have y2 : wF.cell? ⟨w.heap.size + 1, 2, none⟩ = some (.int .i64 mk.s) := by rw [← hwF]; clear hwF; go_simp
  have y3 : wF.cell? ⟨w.heap.size + 1, 3, none⟩ = some (.int .i64 mk.m) := by rw [← hwF]; clear hwF; go_simp
  have y4 : wF.cell? ⟨w.heap.size + 1, 4, none⟩ = some (.int .i64 mk.l) := by rw [← hwF]; clear hwF; go_simp
  have y5 : wF.cell? ⟨w.heap.size + 1, 5, none⟩ = some (.slice a9 (t.length + 1) k9) := by rw [← hwF]; clear hwF; go_simp
  clear hwF d0 d1 d2 d3 d4 d5 f0 f1 f2 f3 f4 f5
  go_wp2_with fail
  refine bodyPost_ret (v := .agg #[.int .i64 mk.c, .int .i64 mk.d, .int .i64 mk.s, .int .i64 mk.m, .int .i64 mk.l, .slice a9 (t.length + 1) k9]) (by simp [results, Tryz.results126, go_sem, y0, y1, y2, y3, y4, y5]) rfl ⟨_, rfl, ⟨_, rfl, ?_⟩, ?_⟩
  · have hsF := wiF.size
    exact stable_rows.sub (stable_rows.within x9 wiF (fun k h1 h2 => by have q1 := h1.1; have q2 := h2.2; simp only at q1 q2; omega)) ⟨fun k hk => ⟨by have q1 := hk.1; simp only at *; omega, by have q2 := hk.2; simp only at *; omega⟩, fun h => h⟩
  · exact Below.trans (Below.trans e1 (Below.mono e9 (Ext.size e1))) (wiF.below (Nat.le_succ _))

set_option maxRecDepth 20000 in
set_option maxHeartbeats 600000 in
theorem l24WithO_c (w : World) (mk : MK) (v : Value) (z : Zone) (t : List (List Int)) (h : RowsR z w v t) (u : Value) (y : Zone) (row : List Int) (hr : IntsR y w u row) (hl : t.length ≤ 1000) (hrl : ∀ k, k < t.length → (t.getD k []).length ≤ 1000) (hrow : row.length ≤ 1000) :
    Calls Tryz.prog 129 #[sysV mk v, u] w (Ret w fun r w' => ∃ v', r = sysV mk v' ∧ RowsR ⟨w.heap.size, w'.heap.size, true⟩ w' v' (t ++ [row])) := by
  have HC1 := Lib.hid (fun (w' : World) (e : Ext w w') => l15Lists_c w' v z t (stable_rows.ext h e) hl hrl)
  have HC2 := Lib.hid (fun (w' : World) (e : Ext w w') => l01Own_c w' u y row (stable_ints.ext hr e) (Nat.le_trans hrow (by decide)))
  have HM := Lib.hid (IntsR.mem hr)
  have Hl : Hid (t.length + 1 ≤ 1099511627776) := by show _ ≤ _; omega
  obtain ⟨a, n, cap, rfl, -⟩ := SliceR.shape h
  obtain ⟨a2, n2, cap2, rfl, -⟩ := SliceR.shape hr
  clear h hr hl hrl hrow
  unfold sysV
  go_enter Tryz.func129, Tryz.ntmps129
  go_wp2_with fail
  generalize hw1 : World.alloc _ _ = w1
  obtain ⟨e1, HA, HK⟩ : Ext w w1 ∧ Hid (∀ w', Ext w1 w' → w'.cell? ⟨w.heap.size, 0, none⟩ = some (.int .i64 mk.c) ∧ w'.cell? ⟨w.heap.size, 1, none⟩ = some (.int .i64 mk.d) ∧ w'.cell? ⟨w.heap.size, 2, none⟩ = some (.int .i64 mk.s) ∧ w'.cell? ⟨w.heap.size, 3, none⟩ = some (.int .i64 mk.m) ∧ w'.cell? ⟨w.heap.size, 4, none⟩ = some (.int .i64 mk.l) ∧ w'.cell? ⟨w.heap.size, 5, none⟩ = some (.slice a n cap)) ∧
      Hid (∀ w', Ext w1 w' → (w'.cell? ⟨w.heap.size + 1, 0, none⟩ = some (.int .i64 0) ∧ w'.cell? ⟨w.heap.size + 1, 1, none⟩ = some (.int .i64 0) ∧ w'.cell? ⟨w.heap.size + 1, 2, none⟩ = some (.int .i64 0) ∧ w'.cell? ⟨w.heap.size + 1, 3, none⟩ = some (.int .i64 0) ∧ w'.cell? ⟨w.heap.size + 1, 4, none⟩ = some (.int .i64 0) ∧ w'.cell? ⟨w.heap.size + 1, 5, none⟩ = some (.slice none 0 0)) ∧
      (w'.frozen? ⟨w.heap.size + 1, 0, none⟩ = false ∧ w'.frozen? ⟨w.heap.size + 1, 1, none⟩ = false ∧ w'.frozen? ⟨w.heap.size + 1, 2, none⟩ = false ∧ w'.frozen? ⟨w.heap.size + 1, 3, none⟩ = false ∧ w'.frozen? ⟨w.heap.size + 1, 4, none⟩ = false ∧ w'.frozen? ⟨w.heap.size + 1, 5, none⟩ = false)) := by
    have hz : w1.heap.size = w.heap.size + 2 := by rw [← hw1]; simp
    refine ⟨by rw [← hw1]; exact (Ext.alloc _ _).trans (Ext.alloc _ _), fun w' e => ⟨e.cell ?_, e.cell ?_, e.cell ?_, e.cell ?_, e.cell ?_, e.cell ?_⟩, fun w' e => ⟨⟨e.cell ?_, e.cell ?_, e.cell ?_, e.cell ?_, e.cell ?_, e.cell ?_⟩, ?_⟩⟩
    case refine_13 => refine ⟨?_, ?_, ?_, ?_, ?_, ?_⟩ <;> (refine (Below.frozen e (by show w.heap.size + 1 < _; omega)).trans ?_; rw [← hw1]; clear e hz hw1 HC1 HC2 HM Hl; go_simp)
    all_goals (rw [← hw1]; clear e hz hw1 HC1 HC2 HM Hl; go_simp)
  have HZ : Hid (w1.heap.size = w.heap.size + 2) := by show _ = _; rw [← hw1]; simp
  clear hw1
  obtain ⟨c0, c1, c2, c3, c4, c5⟩ := HA.out w1 (Ext.refl _)
  go_region_held3 (fun w' => w'.cell? ⟨w.heap.size, 0, none⟩ = some (.int .i64 mk.c) ∧ w'.cell? ⟨w.heap.size, 1, none⟩ = some (.int .i64 mk.d) ∧ w'.cell? ⟨w.heap.size, 2, none⟩ = some (.int .i64 mk.s) ∧ w'.cell? ⟨w.heap.size, 3, none⟩ = some (.int .i64 mk.m) ∧ w'.cell? ⟨w.heap.size, 4, none⟩ = some (.int .i64 mk.l) ∧ w'.cell? ⟨w.heap.size, 5, none⟩ = some (.slice a n cap)) (first | (go_keep; done) | (exact HA.out _ (by repeat (first | exact Ext.refl _ | assumption | (refine Ext.trans ?_ (Ext.alloc _ _)) | (refine Ext.trans ?_ (Ext.drew _)) | (refine Ext.trans ?_ (by assumption)))))) (first | (go_at_call 130; (with_reducible refine (HC1.out _ (by repeat (first | exact Ext.refl _ | assumption | (refine Ext.trans ?_ (Ext.alloc _ _)) | (refine Ext.trans ?_ (Ext.drew _)) | (refine Ext.trans ?_ (by assumption))))).mono ?_); rintro e w7 hr7; obtain ⟨r7, rfl, o7, e7⟩ := ret_ext hr7; clear hr7; obtain ⟨a7, n7, k7, rfl, -⟩ := OwnA.shape o7) | (go_at_call 121; (with_reducible refine (HC2.out _ (by repeat (first | exact Ext.refl _ | assumption | (refine Ext.trans ?_ (Ext.alloc _ _)) | (refine Ext.trans ?_ (Ext.drew _)) | (refine Ext.trans ?_ (by assumption))))).mono ?_); rintro e w8 hr8; obtain ⟨r8, rfl, o8, e8⟩ := ret_ext hr8; clear hr8; obtain ⟨a8, n8, k8, rfl, -⟩ := o8.shape) | (refine step_append_of (by rfl) _ _ 26 (by rfl) (by rfl) (by rfl) (fun ty => run_joinO (u := (a8, n8, k8)) 26 ty Tryz.underlying26 Tryz.infoInts o7 (OwnP.ints o8 HM.out (Nat.le_refl _)) Hl.out (base := w1) (by repeat (first | exact Ext.refl _ | assumption | (refine Ext.trans ?_ (Ext.alloc _ _)) | (refine Ext.trans ?_ (Ext.drew _)) | (refine Ext.trans ?_ (by assumption)))) (by repeat (first | exact Ext.refl _ | assumption | (refine Ext.trans ?_ (Ext.alloc _ _)) | (refine Ext.trans ?_ (Ext.drew _)) | (refine Ext.trans ?_ (by assumption)))) e7 e8 (by first | exact .inl ⟨(by repeat (first | exact Ext.refl _ | assumption | (refine Ext.trans ?_ (Ext.alloc _ _)) | (refine Ext.trans ?_ (Ext.drew _)) | (refine Ext.trans ?_ (by assumption)))), (by repeat (first | exact Ext.refl _ | assumption | (refine Ext.trans ?_ (Ext.alloc _ _)) | (refine Ext.trans ?_ (Ext.drew _)) | (refine Ext.trans ?_ (by assumption))))⟩ | exact .inr ⟨(by repeat (first | exact Ext.refl _ | assumption | (refine Ext.trans ?_ (Ext.alloc _ _)) | (refine Ext.trans ?_ (Ext.drew _)) | (refine Ext.trans ?_ (by assumption)))), (by repeat (first | exact Ext.refl _ | assumption | (refine Ext.trans ?_ (Ext.alloc _ _)) | (refine Ext.trans ?_ (Ext.drew _)) | (refine Ext.trans ?_ (by assumption))))⟩) (by first | (simp [slV]; done) | (refine Ext.cell e7 ?_; simp [slV]; done))) ?_; intro v9 w9 h9; obtain ⟨a9, k9, rfl, x9, e9⟩ := h9; obtain ⟨⟨d0, d1, d2, d3, d4, d5⟩, ⟨f0, f1, f2, f3, f4, f5⟩⟩ := HK.out _ e9; clear o7 o8 e7 e8 c0 c1 c2 c3 c4 c5 Hl HC1 HC2 HM HK) | fail)
  generalize hwF : World.setCell _ _ _ = wF
  have hz := HZ.out
  have hz9 := e9.size
  have wiF : Within ⟨w.heap.size + 1, w.heap.size + 2, true⟩ w9 wF := by
    rw [← hwF]
    exact ((((((Within.refl _ w9).setCell ⟨by simp only; omega, by simp only; omega⟩ _).setCell ⟨by simp only; omega, by simp only; omega⟩ _).setCell ⟨by simp only; omega, by simp only; omega⟩ _).setCell ⟨by simp only; omega, by simp only; omega⟩ _).setCell ⟨by simp only; omega, by simp only; omega⟩ _).setCell ⟨by simp only; omega, by simp only; omega⟩ _
  have y0 : wF.cell? ⟨w.heap.size + 1, 0, none⟩ = some (.int .i64 mk.c) := by rw [← hwF]; clear hwF; go_simp
  have y1 : wF.cell? ⟨w.heap.size + 1, 1, none⟩ = some (.int .i64 mk.d) := by rw [← hwF]; clear hwF; go_simp
  have y2 : wF.cell? ⟨w.heap.size + 1, 2, none⟩ = some (.int .i64 mk.s) := by rw [← hwF]; clear hwF; go_simp
  have y3 : wF.cell? ⟨w.heap.size + 1, 3, none⟩ = some (.int .i64 mk.m) := by rw [← hwF]; clear hwF; go_simp
  have y4 : wF.cell? ⟨w.heap.size + 1, 4, none⟩ = some (.int .i64 mk.l) := by rw [← hwF]; clear hwF; go_simp
  have y5 : wF.cell? ⟨w.heap.size + 1, 5, none⟩ = some (.slice a9 (t.length + 1) k9) := by rw [← hwF]; clear hwF; go_simp
  clear hwF d0 d1 d2 d3 d4 d5 f0 f1 f2 f3 f4 f5
  go_wp2_with fail
  refine bodyPost_ret (v := .agg #[.int .i64 mk.c, .int .i64 mk.d, .int .i64 mk.s, .int .i64 mk.m, .int .i64 mk.l, .slice a9 (t.length + 1) k9]) (by simp [results, Tryz.results129, go_sem, y0, y1, y2, y3, y4, y5]) rfl ⟨_, rfl, ⟨_, rfl, ?_⟩, ?_⟩
  · have hsF := wiF.size
    exact stable_rows.sub (stable_rows.within x9 wiF (fun k h1 h2 => by have q1 := h1.1; have q2 := h2.2; simp only at q1 q2; omega)) ⟨fun k hk => ⟨by have q1 := hk.1; simp only at *; omega, by have q2 := hk.2; simp only at *; omega⟩, fun h => h⟩
  · exact Below.trans (Below.trans e1 (Below.mono e9 (Ext.size e1))) (wiF.below (Nat.le_succ _))

open Go.ChangeShapes Go.WideShapes Go.ChangeAt Go.RowKit
set_option linter.unusedVariables false

def extendSys (mk : MK) (t cuts : List (List Int)) (row key : List Int) : SysRows :=
  if rowCode mk t cuts row [key] ≠ 0 then noRes (rowCode mk t cuts row [key]) else if stays mk (t ++ [row]) cuts key = false then noRes 5 else ((mk, t ++ [row]), (cuts ++ [key], 0))
theorem extend_bad {mk : MK} {t cuts : List (List Int)} {row key : List Int} (h : rowCode mk t cuts row [key] ≠ 0) : extendSys mk t cuts row key = noRes (rowCode mk t cuts row [key]) := by unfold extendSys; rw [if_pos h]
theorem extend_state {mk : MK} {t cuts : List (List Int)} {row key : List Int} (h : rowCode mk t cuts row [key] = 0) (h2 : stays mk (t ++ [row]) cuts key = false) : extendSys mk t cuts row key = noRes 5 := by unfold extendSys; rw [if_neg (by omega), if_pos h2]
theorem extend_ok {mk : MK} {t cuts : List (List Int)} {row key : List Int} (h : rowCode mk t cuts row [key] = 0) (h2 : stays mk (t ++ [row]) cuts key = true) : extendSys mk t cuts row key = ((mk, t ++ [row]), (cuts ++ [key], 0)) := by unfold extendSys; rw [if_neg (by omega), if_neg (by rw [h2]; decide)]
theorem withFirstOI (w : World) (mk : MK) (v : Value) (z : Zone) (t : List (List Int)) (h : RowsR z w v t) (u : Value) (y : Zone) (row : List Int) {cuts keys : List (List Int)} (hr : IntsR y w u row) (ok : RowCodeOk mk t cuts row keys) :
    Calls Tryz.prog 126 #[sysV mk v, u] w (Ret w fun r w' => ∃ v', r = sysV mk v' ∧ RowsR ⟨w.heap.size, w'.heap.size, true⟩ w' v' (t ++ [row])) :=
  withRowO_c w mk v z t h u y row hr (by have := ok.len; omega) (fun k hk => by rw [ok.row k hk]; have := ok.doors; omega) (by rw [ok.row_len]; have := ok.doors; omega)
theorem withFirstOS (w : World) (mk : MK) (v : Value) (z : Zone) (t : List (List Int)) (h : RowsR z w v t) (u : Value) (y : Zone) (row : List Int) {cuts keys : List (List Int)} (hr : IntsR y w u row) (ok : RowCodeOk mk t cuts row keys) :
    Calls Tryz.prog 129 #[sysV mk v, u] w (Ret w fun r w' => ∃ v', r = sysV mk v' ∧ RowsR ⟨w.heap.size, w'.heap.size, true⟩ w' v' (t ++ [row])) :=
  l24WithO_c w mk v z t h u y row hr (by have := ok.len; omega) (fun k hk => by rw [ok.row k hk]; have := ok.doors; omega) (by rw [ok.row_len]; have := ok.doors; omega)
theorem RowCodeOk.keyLen {mk : MK} {t cuts : List (List Int)} {row key : List Int} (ok : RowCodeOk mk t cuts row [key]) : key.length ≤ 6 := by
  have := (ok.row_keys key (List.mem_singleton.2 rfl)).len
  have := ok.mk1
  omega

open Go.ChangeShapes Go.WideShapes Go.ChangeAt Go.RowKit
set_option linter.unusedVariables false

set_option maxRecDepth 20000 in
set_option maxHeartbeats 2000000 in
theorem ExtendSystem_c (w : World) (mk : MK) (v : Value) (z : Zone) (t : List (List Int)) (h : RowsR z w v t) (u : Value) (y : Zone) (cuts : List (List Int)) (hc : RowsR y w u cuts) (v3 : Value) (z3 : Zone) (row : List Int) (hr : IntsR z3 w v3 row) (v4 : Value) (z4 : Zone) (key : List Int) (hk : IntsR z4 w v4 key) :
    Calls Tryz.prog 40 #[sysV mk v, u, v3, v4] w (Ret w (SysRes2 w (extendSys mk t cuts row key))) := by
  have H1 : Hid (rowCode mk t cuts row [key] ≠ 0 → extendSys mk t cuts row key = noRes (rowCode mk t cuts row [key])) := extend_bad
  have H2 : Hid (rowCode mk t cuts row [key] = 0 → stays mk (t ++ [row]) cuts key = false → extendSys mk t cuts row key = noRes 5) := extend_state
  have H3 : Hid (rowCode mk t cuts row [key] = 0 → stays mk (t ++ [row]) cuts key = true → extendSys mk t cuts row key = ((mk, t ++ [row]), (cuts ++ [key], 0))) := extend_ok
  have HB1 : Hid (rowCode mk t cuts row [key] ≠ 0 → canIssue mk t cuts row key = (false, rowCode mk t cuts row [key])) := canIssue_bad
  have HB2 : Hid (rowCode mk t cuts row [key] = 0 → canIssue mk t cuts row key = (stays mk (t ++ [row]) cuts key, 0)) := canIssue_ok
  have HC1 := Lib.hid (fun (w' : World) (e : Ext w w') => CanIssue_c w' mk v z t (stable_rows.ext h e) u y cuts (stable_rows.ext hc e) v3 z3 row (stable_ints.ext hr e) v4 z4 key (stable_ints.ext hk e))
  have HC2 := Lib.hid (fun (h0 : rowCode mk t cuts row [key] = 0) (w' : World) (e : Ext w w') => withFirstOI w' mk v z t (stable_rows.ext h e) v3 z3 row (stable_ints.ext hr e) (rowCode_zero h0))
  have HC3 := Lib.hid (fun (h0 : rowCode mk t cuts row [key] = 0) (w' : World) (e : Ext w w') => copyLists_c w' u y cuts (stable_rows.ext hc e) (by have := (rowCode_zero h0).eq; have := (rowCode_zero h0).len; omega) (fun k hk => by have := (rowCode_zero h0).toDesignOk.rowLen hk; omega))
  have HC4 := Lib.hid (fun (h0 : rowCode mk t cuts row [key] = 0) (w' : World) (e : Ext w w') => Clone_c w' v4 z4 key (stable_ints.ext hk e) (by have := (rowCode_zero h0).keyLen; omega))
  have HM := Lib.hid (IntsR.mem hk)
  have HL : Hid (rowCode mk t cuts row [key] = 0 → cuts.length ≤ 10) := fun h0 => by have := (rowCode_zero h0).eq; have := (rowCode_zero h0).len; omega
  generalize extendSys mk t cuts row key = res at *
  generalize canIssue mk t cuts row key = cres at *
  generalize rowCode mk t cuts row [key] = rc at *
  generalize stays mk (t ++ [row]) cuts key = q at *
  obtain ⟨a, n, cap, rfl, -⟩ := SliceR.shape h
  obtain ⟨a2, n2, cap2, rfl, -⟩ := SliceR.shape hc
  obtain ⟨a3, n3, cap3, rfl, -⟩ := SliceR.shape hr
  obtain ⟨a4, n4, cap4, rfl, -⟩ := SliceR.shape hk
  clear h hc hr hk
  unfold sysV at *
  go_enter Tryz.func40, Tryz.ntmps40
  go_wp2_with fail
  generalize hw1 : World.alloc _ _ = w1
  obtain ⟨e1, S0, R0, hz1⟩ := two_box hw1
  clear hw1
  refine Calls.mono (HC1.out w1 e1) ?_
  rintro e w2 hr
  obtain ⟨r, rfl, rfl, e2⟩ := ret_ext hr
  clear hr HC1
  have et := e1.trans e2
  replace S0 := S0.ext e2
  have R := R0.ext e2
  clear R0
  by_cases hd0 : rc = 0
  · replace H2 := Lib.hid (H2.out hd0)
    replace H3 := Lib.hid (H3.out hd0)
    replace HC2 := Lib.hid (HC2.out hd0)
    replace HC3 := Lib.hid (HC3.out hd0)
    replace HC4 := Lib.hid (HC4.out hd0)
    have hcl := HL.out hd0
    rw [HB2.out hd0]
    clear H1 HB1 HB2 HL
    subst hd0
    unfold BoolCode
    simp only
    cases q with
    | false =>
      have HH := Lib.hid (H2.out rfl)
      clear H2 H3 HC2 HC3 HC4 S0
      have R' := R
      obtain ⟨d0, d1, d2, d3, d4, d5, f0, f1, f2, f3, f4, f5⟩ := R'
      go_wp2_with fail
      generalize hwF : World.setCell _ _ _ = wF
      obtain ⟨wi, y0, y1, y2, y3, y4, y5⟩ := ResAt.fill R hwF
      have eF : Ext w wF := wi.above (Nat.le_succ _) et
      clear hwF
      refine bodyPost_ret (v := .tuple #[sysV noSys (.slice none 0 0), .slice none 0 0, .int .i64 5]) (by simp [results, Tryz.results40, go_sem, y0, y1, y2, y3, y4, y5, sysV, noSys]) rfl ⟨_, rfl, SysRes2.bad HH.out eF.size, eF⟩
    | true =>
      have HH := Lib.hid (H3.out rfl)
      clear H2 H3
      obtain ⟨c0, c1, c2, c3, c4, c5⟩ := S0
      have hcall := HC2.out w2 et
      clear HC2
      go_wp2_with fail
      refine Calls.mono hcall ?_
      rintro e w3 hr
      obtain ⟨r, rfl, ⟨v', rfl, g1⟩, e3⟩ := ret_ext hr
      clear hr hcall c0 c1 c2 c3 c4 c5
      obtain ⟨a5, n5, cap5, rfl, -⟩ := SliceR.shape g1
      have et3 := et.trans e3
      have hcall := HC3.out w3 et3
      clear HC3
      go_wp2_with fail
      refine Calls.mono hcall ?_
      rintro e w4 hr
      obtain ⟨r, rfl, o4, e4⟩ := ret_ext hr
      clear hr hcall
      obtain ⟨a6, n6, cap6, rfl, -⟩ := OwnA.shape o4
      have et4 := et3.trans e4
      have hcall := HC4.out w4 et4
      clear HC4
      go_wp2_with fail
      refine Calls.mono hcall ?_
      rintro e w5 hr
      obtain ⟨r, rfl, o5, e5⟩ := ret_ext hr
      clear hr hcall
      have hx' : IntsR (.new w4 w5) w5 r key := o5.ints HM.out (Nat.le_refl _)
      obtain ⟨xa, xn, xc, rfl, -⟩ := SliceR.shape hx'
      clear o5
      have hs23 := e3.size
      have hs34 := e4.size
      have hs45 := e5.size
      have R4 := R.ext (e3.trans e4)
      have hR0 := R.lt
      have hR3 : w.heap.size + 1 < w3.heap.size := by omega
      have G1 := stable_rows.ext g1 e4
      have HG1 := Lib.hid G1
      have Het4 := Lib.hid et4
      have HR4 := Lib.hid R4
      clear G1 g1 R4 R et et3 et4
      go_wp2_with (at_builtin; (refine wpList_appendRow (E := IntsR) (L := w3.heap.size) (B := w3.heap.size) (xs := cuts) stable_ints slRepr_slice rfl _ _ 26 rfl Tryz.underlying26 Tryz.infoInts rfl o4 e5 (xa, xn, xc) key hx' rfl (by omega) (by omega) (by omega) ?_); intro v6 w6 hown6 hb6 hs6 hg6 hat6; have R6 : ResAt w6 (w.heap.size + 1) := HR4.out.of (hb6.block _ hR3); have R6' := R6; obtain ⟨d0, d1, d2, d3, d4, d5, f0, f1, f2, f3, f4, f5⟩ := R6'; obtain ⟨a9, n9, k9, rfl, -⟩ := OwnA.shape hown6)
      generalize hwF : World.setCell _ _ _ = wF
      obtain ⟨wi, y0, y1, y2, y3, y4, y5⟩ := ResAt.fill R6 hwF
      have et6 : Ext w w6 := Below.trans Het4.out (hb6.mono (by have := Het4.out.size; omega))
      have eF : Ext w wF := wi.above (Nat.le_succ _) et6
      have hr9 : RowsR ⟨w3.heap.size, w6.heap.size, true⟩ w6 (.slice a9 n9 k9) (cuts ++ [key]) := OwnR.reads hown6 (Nat.le_refl _)
      have hrl : RowsR ⟨w2.heap.size, w3.heap.size, true⟩ w6 (.slice a5 n5 cap5) (t ++ [row]) := stable_rows.keep HG1.out (fun k hk _ => hb6.block k hk.2)
      have hs46 := hb6.size
      clear hwF hown6
      refine bodyPost_ret (v := .tuple #[sysV mk (.slice a5 n5 cap5), .slice a9 n9 k9, .int .i64 0]) (by simp [results, Tryz.results40, go_sem, y0, y1, y2, y3, y4, y5, sysV]) rfl ⟨_, rfl, ?_, eF⟩
      rw [HH.out]
      have hsF := wi.size
      refine ⟨_, _, w3.heap.size, rfl, ⟨by omega, by omega⟩, stable_rows.sub (stable_rows.within hrl wi (fun q h1 h2 => by have q1 := h1.1; have q2 := h2.2; simp only at q1 q2; omega)) ⟨fun q hq => ⟨?_, ?_⟩, fun _ => rfl⟩, stable_rows.sub (stable_rows.within hr9 wi (fun q h1 h2 => by have q1 := h1.1; have q2 := h2.2; simp only at q1 q2; omega)) ⟨fun q hq => ⟨?_, ?_⟩, fun _ => rfl⟩⟩
      · have q1 := hq.1; simp only at *; omega
      · have q2 := hq.2; simp only at *; omega
      · have q1 := hq.1; simp only at *; omega
      · have q2 := hq.2; simp only at *; omega
  · have HH := Lib.hid (H1.out hd0)
    have hb : (rc != 0) = true := by rw [bne_iff_ne]; exact hd0
    rw [HB1.out hd0]
    clear hd0 H1 H2 H3 HB1 HB2 HC2 HC3 HC4 S0 HL
    unfold BoolCode
    simp only
    have R' := R
    obtain ⟨d0, d1, d2, d3, d4, d5, f0, f1, f2, f3, f4, f5⟩ := R'
    go_wp2_with fail
    generalize hwF : World.setCell _ _ _ = wF
    obtain ⟨wi, y0, y1, y2, y3, y4, y5⟩ := ResAt.fill R hwF
    have eF : Ext w wF := wi.above (Nat.le_succ _) et
    clear hwF
    refine bodyPost_ret (v := .tuple #[sysV noSys (.slice none 0 0), .slice none 0 0, .int .i64 rc]) (by simp [results, Tryz.results40, go_sem, y0, y1, y2, y3, y4, y5, sysV, noSys]) rfl ⟨_, rfl, SysRes2.bad HH.out eF.size, eF⟩

open Go.ChangeShapes Go.WideShapes Go.ChangeAt Go.RowKit
set_option linter.unusedVariables false

set_option maxRecDepth 20000 in
set_option maxHeartbeats 2000000 in
theorem ExtendSystemSpec_c (w : World) (mk : MK) (v : Value) (z : Zone) (t : List (List Int)) (h : RowsR z w v t) (u : Value) (y : Zone) (cuts : List (List Int)) (hc : RowsR y w u cuts) (v3 : Value) (z3 : Zone) (row : List Int) (hr : IntsR z3 w v3 row) (v4 : Value) (z4 : Zone) (key : List Int) (hk : IntsR z4 w v4 key) :
    Calls Tryz.prog 41 #[sysV mk v, u, v3, v4] w (Ret w (SysRes2 w (extendSys mk t cuts row key))) := by
  have H1 : Hid (rowCode mk t cuts row [key] ≠ 0 → extendSys mk t cuts row key = noRes (rowCode mk t cuts row [key])) := extend_bad
  have H2 : Hid (rowCode mk t cuts row [key] = 0 → stays mk (t ++ [row]) cuts key = false → extendSys mk t cuts row key = noRes 5) := extend_state
  have H3 : Hid (rowCode mk t cuts row [key] = 0 → stays mk (t ++ [row]) cuts key = true → extendSys mk t cuts row key = ((mk, t ++ [row]), (cuts ++ [key], 0))) := extend_ok
  have HC0 := Lib.hid (fun (w' : World) (e : Ext w w') => l24Code_c w' mk v z t (stable_rows.ext h e) u y cuts (stable_rows.ext hc e) v3 z3 row (stable_ints.ext hr e) v4 z4 key (stable_ints.ext hk e))
  have HC1 : Hid (rowCode mk t cuts row [key] = 0 → ∀ (w' : World), Ext w w' → Calls Tryz.prog 128 #[sysV mk v, u, v3, v4] w' (Ret w' fun r _ => r = .bool (stays mk (t ++ [row]) cuts key))) := fun h0 w' e => by
    have ok := rowCode_zero h0
    have := l24Can_c w' mk v z t (stable_rows.ext h e) u y cuts (stable_rows.ext hc e) v3 z3 row (stable_ints.ext hr e) v4 z4 key (stable_ints.ext hk e) ok
    rwa [stays_law ok.toDesignOk (rowCode_design h0) (ok.row_keys key (List.mem_singleton.2 rfl))] at this
  have HC2 := Lib.hid (fun (h0 : rowCode mk t cuts row [key] = 0) (w' : World) (e : Ext w w') => withFirstOS w' mk v z t (stable_rows.ext h e) v3 z3 row (stable_ints.ext hr e) (rowCode_zero h0))
  have HC3 := Lib.hid (fun (h0 : rowCode mk t cuts row [key] = 0) (w' : World) (e : Ext w w') => l15Lists_c w' u y cuts (stable_rows.ext hc e) (by have := (rowCode_zero h0).eq; have := (rowCode_zero h0).len; omega) (fun k hk => by have := (rowCode_zero h0).toDesignOk.rowLen hk; omega))
  have HC4 := Lib.hid (fun (h0 : rowCode mk t cuts row [key] = 0) (w' : World) (e : Ext w w') => l01Own_c w' v4 z4 key (stable_ints.ext hk e) (by have := (rowCode_zero h0).keyLen; omega))
  have HM := Lib.hid (IntsR.mem hk)
  have HL : Hid (rowCode mk t cuts row [key] = 0 → cuts.length ≤ 10) := fun h0 => by have := (rowCode_zero h0).eq; have := (rowCode_zero h0).len; omega
  generalize extendSys mk t cuts row key = res at *
  generalize rowCode mk t cuts row [key] = rc at *
  generalize stays mk (t ++ [row]) cuts key = q at *
  obtain ⟨a, n, cap, rfl, -⟩ := SliceR.shape h
  obtain ⟨a2, n2, cap2, rfl, -⟩ := SliceR.shape hc
  obtain ⟨a3, n3, cap3, rfl, -⟩ := SliceR.shape hr
  obtain ⟨a4, n4, cap4, rfl, -⟩ := SliceR.shape hk
  clear h hc hr hk
  unfold sysV at *
  go_enter Tryz.func41, Tryz.ntmps41
  go_wp2_with fail
  generalize hw1 : World.alloc _ _ = w1
  obtain ⟨e1, S0, R0, hz1⟩ := two_box hw1
  clear hw1
  refine Calls.mono (HC0.out w1 e1) ?_
  rintro e w2 hr
  obtain ⟨r, rfl, rfl, e2⟩ := ret_ext hr
  clear hr HC0
  have et := e1.trans e2
  replace S0 := S0.ext e2
  have R := R0.ext e2
  clear R0
  by_cases hd0 : rc = 0
  · replace H2 := Lib.hid (H2.out hd0)
    replace H3 := Lib.hid (H3.out hd0)
    replace HC2 := Lib.hid (HC2.out hd0)
    replace HC3 := Lib.hid (HC3.out hd0)
    replace HC4 := Lib.hid (HC4.out hd0)
    have hcl := HL.out hd0
    have hcall := HC1.out hd0 w2 et
    clear H1 HL HC1
    have hb0 : (rc == 0) = true := by rw [hd0]; rfl
    have S00 := S0
    obtain ⟨c0, c1, c2, c3, c4, c5⟩ := S00
    subst hd0
    go_wp2_with fail
    refine Calls.mono hcall ?_
    rintro e w2' hr
    obtain ⟨r, rfl, rfl, e2'⟩ := ret_ext hr
    clear hr hcall c0 c1 c2 c3 c4 c5 e2
    replace et := et.trans e2'
    replace S0 := S0.ext e2'
    replace R := R.ext e2'
    clear e2'
    obtain ⟨w2, rfl⟩ : ∃ w2, w2 = w2' := ⟨_, rfl⟩
    cases q with
    | false =>
      have HH := Lib.hid (H2.out rfl)
      clear H2 H3 HC2 HC3 HC4 S0
      have R' := R
      obtain ⟨d0, d1, d2, d3, d4, d5, f0, f1, f2, f3, f4, f5⟩ := R'
      go_wp2_with fail
      generalize hwF : World.setCell _ _ _ = wF
      obtain ⟨wi, y0, y1, y2, y3, y4, y5⟩ := ResAt.fill R hwF
      have eF : Ext w wF := wi.above (Nat.le_succ _) et
      clear hwF
      refine bodyPost_ret (v := .tuple #[sysV noSys (.slice none 0 0), .slice none 0 0, .int .i64 5]) (by simp [results, Tryz.results41, go_sem, y0, y1, y2, y3, y4, y5, sysV, noSys]) rfl ⟨_, rfl, SysRes2.bad HH.out eF.size, eF⟩
    | true =>
      have HH := Lib.hid (H3.out rfl)
      clear H2 H3
      obtain ⟨c0, c1, c2, c3, c4, c5⟩ := S0
      have hcall := HC2.out w2 et
      clear HC2
      go_wp2_with fail
      refine Calls.mono hcall ?_
      rintro e w3 hr
      obtain ⟨r, rfl, ⟨v', rfl, g1⟩, e3⟩ := ret_ext hr
      clear hr hcall c0 c1 c2 c3 c4 c5
      obtain ⟨a5, n5, cap5, rfl, -⟩ := SliceR.shape g1
      have et3 := et.trans e3
      have hcall := HC3.out w3 et3
      clear HC3
      go_wp2_with fail
      refine Calls.mono hcall ?_
      rintro e w4 hr
      obtain ⟨r, rfl, o4, e4⟩ := ret_ext hr
      clear hr hcall
      obtain ⟨a6, n6, cap6, rfl, -⟩ := OwnA.shape o4
      have et4 := et3.trans e4
      have hcall := HC4.out w4 et4
      clear HC4
      go_wp2_with fail
      refine Calls.mono hcall ?_
      rintro e w5 hr
      obtain ⟨r, rfl, o5, e5⟩ := ret_ext hr
      clear hr hcall
      have hx' : IntsR (.new w4 w5) w5 r key := o5.ints HM.out (Nat.le_refl _)
      obtain ⟨xa, xn, xc, rfl, -⟩ := SliceR.shape hx'
      clear o5
      have hs23 := e3.size
      have hs34 := e4.size
      have hs45 := e5.size
      have R4 := R.ext (e3.trans e4)
      have hR0 := R.lt
      have hR3 : w.heap.size + 1 < w3.heap.size := by omega
      have G1 := stable_rows.ext g1 e4
      have HG1 := Lib.hid G1
      have Het4 := Lib.hid et4
      have HR4 := Lib.hid R4
      clear G1 g1 R4 R et et3 et4
      go_wp2_with (at_builtin; (refine wpList_appendRow (E := IntsR) (L := w3.heap.size) (B := w3.heap.size) (xs := cuts) stable_ints slRepr_slice rfl _ _ 26 rfl Tryz.underlying26 Tryz.infoInts rfl o4 e5 (xa, xn, xc) key hx' rfl (by omega) (by omega) (by omega) ?_); intro v6 w6 hown6 hb6 hs6 hg6 hat6; have R6 : ResAt w6 (w.heap.size + 1) := HR4.out.of (hb6.block _ hR3); have R6' := R6; obtain ⟨d0, d1, d2, d3, d4, d5, f0, f1, f2, f3, f4, f5⟩ := R6'; obtain ⟨a9, n9, k9, rfl, -⟩ := OwnA.shape hown6)
      generalize hwF : World.setCell _ _ _ = wF
      obtain ⟨wi, y0, y1, y2, y3, y4, y5⟩ := ResAt.fill R6 hwF
      have et6 : Ext w w6 := Below.trans Het4.out (hb6.mono (by have := Het4.out.size; omega))
      have eF : Ext w wF := wi.above (Nat.le_succ _) et6
      have hr9 : RowsR ⟨w3.heap.size, w6.heap.size, true⟩ w6 (.slice a9 n9 k9) (cuts ++ [key]) := OwnR.reads hown6 (Nat.le_refl _)
      have hrl : RowsR ⟨w2.heap.size, w3.heap.size, true⟩ w6 (.slice a5 n5 cap5) (t ++ [row]) := stable_rows.keep HG1.out (fun k hk _ => hb6.block k hk.2)
      have hs46 := hb6.size
      clear hwF hown6
      refine bodyPost_ret (v := .tuple #[sysV mk (.slice a5 n5 cap5), .slice a9 n9 k9, .int .i64 0]) (by simp [results, Tryz.results41, go_sem, y0, y1, y2, y3, y4, y5, sysV]) rfl ⟨_, rfl, ?_, eF⟩
      rw [HH.out]
      have hsF := wi.size
      refine ⟨_, _, w3.heap.size, rfl, ⟨by omega, by omega⟩, stable_rows.sub (stable_rows.within hrl wi (fun q h1 h2 => by have q1 := h1.1; have q2 := h2.2; simp only at q1 q2; omega)) ⟨fun q hq => ⟨?_, ?_⟩, fun _ => rfl⟩, stable_rows.sub (stable_rows.within hr9 wi (fun q h1 h2 => by have q1 := h1.1; have q2 := h2.2; simp only at q1 q2; omega)) ⟨fun q hq => ⟨?_, ?_⟩, fun _ => rfl⟩⟩
      · have q1 := hq.1; simp only at *; omega
      · have q2 := hq.2; simp only at *; omega
      · have q1 := hq.1; simp only at *; omega
      · have q2 := hq.2; simp only at *; omega
  · have HH := Lib.hid (H1.out hd0)
    have hb : (rc != 0) = true := by rw [bne_iff_ne]; exact hd0
    have hb0 : (rc == 0) = false := by rw [beq_eq_false_iff_ne]; exact hd0
    clear hd0 H1 H2 H3 HC1 HC2 HC3 HC4 S0 HL
    have R' := R
    obtain ⟨d0, d1, d2, d3, d4, d5, f0, f1, f2, f3, f4, f5⟩ := R'
    go_wp2_with fail
    generalize hwF : World.setCell _ _ _ = wF
    obtain ⟨wi, y0, y1, y2, y3, y4, y5⟩ := ResAt.fill R hwF
    have eF : Ext w wF := wi.above (Nat.le_succ _) et
    clear hwF
    refine bodyPost_ret (v := .tuple #[sysV noSys (.slice none 0 0), .slice none 0 0, .int .i64 rc]) (by simp [results, Tryz.results41, go_sem, y0, y1, y2, y3, y4, y5, sysV, noSys]) rfl ⟨_, rfl, SysRes2.bad HH.out eF.size, eF⟩
end Go.Proofs.YtegmognpofcfiaaGreat
