/- Proved: the routes between two rooms, as the program finds them: the variables are laid, then the walk. -/
import Derived.Test.YtaogpbhgoeepbaaChecked
import Derived.Outline
import Derived.Laws.EntriesVeiled
import Derived.Test.YtaogpbhgoeepbaaURegionInv
import Derived.Test.YtaogpbhgoeepbaaURoutesImpl
import Derived.Test.YtaogpbhgoeepbaaUReach
namespace Go.Proofs.Ytaogpbhgoeepbaa
open Go.ChangeShapes Go.WideShapes Go.ChangeAt Go.RowKit
set_option linter.unusedVariables false

/-- a slice in a block of its own -/
def At (t : Value) (n c : Nat) (B : Nat) (w : World) (X : Obj) : Prop := ∃ k, t = .slice (some ⟨k, 0, none⟩) n c ∧ B ≤ k ∧ w.heap[k]? = some X
/-- a variable in a block of its own -/
def VarAt (t : Value) (T : TypeId) (B : Nat) (w : World) (C : Value → Prop) : Prop := ∃ k, t = .pointer (some ⟨k, 0, none⟩) ∧ B ≤ k ∧ ∃ v, w.heap[k]? = some (.cells #[v] T (0, 0)) ∧ C v
theorem At.alloc {t : Value} {n c B : Nat} {w : World} {X : Obj} (h : At t n c B w X) (o : Obj) : At t n c B (w.alloc o) X := by
  obtain ⟨k, h1, h2, h3⟩ := h
  exact ⟨k, h1, h2, by rw [heap_alloc_old w o (lt_of_block h3)]; exact h3⟩
theorem At.new {n c B : Nat} {w : World} (hB : B ≤ w.heap.size) (X : Obj) : At (.slice (some ⟨w.heap.size, 0, none⟩) n c) n c B (w.alloc X) X := ⟨_, rfl, hB, heap_alloc_new w X⟩
theorem At.set {t : Value} {n c B : Nat} {w : World} {X Y : Obj} (h : At t n c B w X) {b : Nat} (hb : w.heap[b]? = some Y) (hne : X ≠ Y) (u : Value) : At t n c B (w.setCell ⟨b, 0, none⟩ u) X := by
  obtain ⟨k, h1, h2, h3⟩ := h
  refine ⟨k, h1, h2, ?_⟩
  rw [Below.heap_setCell w ⟨b, 0, none⟩ u k (fun e => ?_)]
  · exact h3
  · subst e; rw [hb] at h3; injection h3 with h3; exact hne h3.symm
theorem VarAt.alloc {t : Value} {T : TypeId} {B : Nat} {w : World} {C : Value → Prop} (h : VarAt t T B w C) (o : Obj) : VarAt t T B (w.alloc o) C := by
  obtain ⟨k, h1, h2, v, h3, h4⟩ := h
  exact ⟨k, h1, h2, v, by rw [heap_alloc_old w o (lt_of_block h3)]; exact h3, h4⟩
theorem VarAt.new {T : TypeId} {B : Nat} {w : World} {C : Value → Prop} (hB : B ≤ w.heap.size) (v : Value) (hC : C v) : VarAt (.pointer (some ⟨w.heap.size, 0, none⟩)) T B (w.alloc (.cells #[v] T)) C := ⟨_, rfl, hB, v, heap_alloc_new w _, hC⟩
theorem VarAt.set {t : Value} {T T' : TypeId} {B : Nat} {w : World} {C : Value → Prop} (h : VarAt t T B w C) {b : Nat} {v' : Value} (hb : w.heap[b]? = some (.cells #[v'] T' (0, 0))) (hne : T ≠ T') (u : Value) : VarAt t T B (w.setCell ⟨b, 0, none⟩ u) C := by
  obtain ⟨k, h1, h2, v, h3, h4⟩ := h
  refine ⟨k, h1, h2, v, ?_, h4⟩
  rw [Below.heap_setCell w ⟨b, 0, none⟩ u k (fun e => ?_)]
  · exact h3
  · subst e; rw [hb] at h3; injection h3 with h3; injection h3 with _ h3 _; exact hne h3.symm
theorem VarAt.imp {t : Value} {T : TypeId} {B : Nat} {w : World} {C C' : Value → Prop} (h : VarAt t T B w C) (hC : ∀ v, C v → C' v) : VarAt t T B w C' := by
  obtain ⟨k, h1, h2, v, h3, h4⟩ := h
  exact ⟨k, h1, h2, v, h3, hC v h4⟩

/-- what holds while the three variables of the walk are laid, in whatever order -/
structure RIF (B R nc : Nat) (listed : Array Bool) (w0 w : World) (t11 t12 t13 t15 t16 t17 t18 t19 : Value) : Prop where
  hsz : listed.size = 11
  hb : Below B w0 w
  hz : w0.heap.size ≤ w.heap.size
  d8 : Lst listed 8 → Lst listed 0 ∧ Lst listed 5
  d9 : Lst listed 9 → Lst listed 1 ∧ Lst listed 6
  d10 : Lst listed 10 → Lst listed 4 ∧ Lst listed 7
  f0 : Lst listed 0 → At t15 0 0 B w (.cells #[] 25 (0, 0))
  f1 : Lst listed 1 → At t16 0 0 B w (.cells #[] 2 (0, 0))
  f2 : Lst listed 2 → t17 = .pointer (some ⟨R, 0, none⟩)
  f3 : Lst listed 3 → t18 = .int .i64 nc
  f4 : Lst listed 4 → At t19 nc nc B w (.cells (madeCells #[.bool false] nc) 4 (0, 0))
  f5 : Lst listed 5 → VarAt t11 22 B w (fun v => Lst listed 8 → v = t15)
  f6 : Lst listed 6 → VarAt t12 25 B w (fun v => Lst listed 9 → v = t16)
  f7 : Lst listed 7 → VarAt t13 87 B w (fun v => Lst listed 10 → v = t19)
def RI (w0 : World) (B R nc : Nat) (mk : Value → Value → Value → Value → Value → Value → Value → Value → Act) (listed : Array Bool) (a : Act) (w : World) : Prop :=
  ∃ t11 t12 t13 t15 t16 t17 t18 t19, a = mk t11 t12 t13 t15 t16 t17 t18 t19 ∧ RIF B R nc listed w0 w t11 t12 t13 t15 t16 t17 t18 t19
theorem Lst.old {listed : Array Bool} {i j : Nat} (h : Lst listed j) : Lst (listed.setIfInBounds i true) j := _root_.Go.getD_set_true h
theorem Lst.new {listed : Array Bool} {i : Nat} (h : i < listed.size) : Lst (listed.setIfInBounds i true) i := by
  unfold Lst; rw [Array.getD_eq_getD_getElem?, Array.getElem?_setIfInBounds, if_pos rfl, if_pos h]; rfl
theorem Lst.ne {listed : Array Bool} {i j : Nat} (h : Lst (listed.setIfInBounds i true) j) (hne : i ≠ j) : Lst listed j := h.set.resolve_left hne
theorem dep_set {listed : Array Bool} {i s x y : Nat} (hs : i ≠ s) (h : Lst listed s → Lst listed x ∧ Lst listed y) : Lst (listed.setIfInBounds i true) s → Lst (listed.setIfInBounds i true) x ∧ Lst (listed.setIfInBounds i true) y := fun hl => by
  have := h (hl.ne hs); exact ⟨this.1.old, this.2.old⟩

theorem run_makeB {P : Program} (w : World) (t : TypeId) (h1 : P.underlying t = some (.slice 4)) (h2 : (P.info? 4).map (fun i => (i.zero, i.size, i.bytes)) = some (some (.bool false), 1, 1)) (n : Nat) (hn : n ≤ 1000) :
    (Instr.makeSlice t (.int .i64 n) (.int .i64 n)).run P w = .ok (.slice (some ⟨w.heap.size, 0, none⟩) n n) (w.alloc (.cells (madeCells #[.bool false] n) 4)) := by
  obtain ⟨i, hi, hz0, hz1, hz2⟩ := info_parts h2
  have hr := run_make (P := P) w t 4 i (.bool false) h1 hi hz0 .i64 .i64 n n (by omega) (Int.le_refl _) (by rw [hz2]; omega) (by omega)
  simp only [Int.toNat_natCast, hz1, Nat.mul_one] at hr
  exact hr
theorem empty_row {α : Type} {f : α → Value} {e : TypeId} {B : Nat} {w : World} {k : Nat} (hB : B ≤ k) (h : w.heap[k]? = some (.cells #[] e (0, 0))) : OwnP f e B w (.slice (some ⟨k, 0, none⟩) 0 0) [] :=
  ⟨rfl, .inr ⟨k, 0, #[], rfl, hB, h, Nat.le_refl _, Nat.zero_le _, rfl, rfl⟩⟩
theorem made_row {w : World} {B k n : Nat} (hB : B ≤ k) (hn : n ≤ 1000) (h : w.heap[k]? = some (.cells (madeCells #[.bool false] n) 4 (0, 0))) : OwnP Value.bool 4 B w (.slice (some ⟨k, 0, none⟩) n n) (List.replicate n false) := by
  unfold OwnP
  have e1 : (madeCells #[Value.bool false] n).toList = (List.replicate n false).map Value.bool := by rw [toList_madeCells_one]; simp
  rw [List.length_replicate]
  refine ⟨by simp, .inr ⟨k, n, _, rfl, hB, h, Nat.le_refl _, by unfold maxLen; omega, by rw [size_madeCells]; simp, ?_⟩⟩
  rw [← e1, List.take_of_length_le (by rw [e1]; simp)]

def routesL (c : Int) (ds : List (List Int)) (f t : Int) (op : List Int) : List (List Int) := routesN ds op t c.toNat (reach0 c f) f

set_option maxRecDepth 100000 in
set_option maxHeartbeats 4000000 in
theorem routesTo_c (w : World) (v vo : Value) (z q : Zone) (x : Int × List (List Int)) (op : List Int) (f t : Int) (most : Nat) (h : RoomsR z w v x) (ho : IntsR q w vo op)
    (hok : roomsOk x.1 x.2 = true) (hop : rising op x.2.length = true) (hf : 0 ≤ f) (hf' : f < x.1) (hm : most ≤ 1099511627000) :
    Calls Try.prog 58 #[v, .int .i64 f, .int .i64 t, vo, .int .i64 most] w (Ret w fun r w' => RowsR (.new w w') w' r ((routesL x.1 x.2 f t op).take most)) := by
  obtain ⟨c, ds⟩ := x
  obtain ⟨u, rfl, hc, hr⟩ := h
  simp only at hc hr hok hop hf' ⊢
  obtain ⟨nc, rfl⟩ : ∃ nc : Nat, c = nc := ⟨c.toNat, by omega⟩
  have hnc : nc ≤ 8 := by have := (roomsOk_sides hok).1; omega
  have HH := Lib.hid (show RoomsR z w (.agg #[.int .i64 nc, u]) (nc, ds) from ⟨_, rfl, hc, hr⟩)
  obtain ⟨a, n, cap, rfl, -⟩ := SliceR.shape hr
  obtain ⟨ao, no, co, rfl, -⟩ := SliceR.shape ho
  have HO := Lib.hid ho; clear ho
  have Hok := Lib.hid hok; clear hok
  have Hop := Lib.hid hop; clear hop hr hc
  go_enter Try.func58, Try.ntmps58
  go_wp2_with fail
  generalize hw4 : World.alloc (World.alloc (World.alloc (World.alloc w _) _) _) _ = w4
  have HZ4 : Hid (w4.heap.size = w.heap.size + 4) := by show _ = _; rw [← hw4]; simp
  have HT4 : Hid (w4.cell? ⟨w.heap.size + 1, 0, none⟩ = some (.int .i64 t) ∧ w4.cell? ⟨w.heap.size + 2, 0, none⟩ = some (.slice ao no co) ∧ w4.cell? ⟨w.heap.size + 3, 0, none⟩ = some (.int .i64 most) ∧ w4.cell? ⟨w.heap.size, 1, none⟩ = some (.slice a n cap)) := by
    show _ ∧ _
    have q := (show w4 = _ from hw4.symm)
    rw [q]; clear q hw4 HZ4
    refine ⟨?_, ?_, ?_, ?_⟩ <;> go_simp
  have HE4 : Hid (Ext w w4) := by
    show Ext _ _
    have q := (show w4 = _ from hw4.symm)
    rw [q]
    exact ((Ext.alloc _ _).trans (Ext.alloc _ _)).trans ((Ext.alloc _ _).trans (Ext.alloc _ _))
  have HC4 : Hid (w4.cell? ⟨w.heap.size, 0, none⟩ = some (.int .i64 nc)) := by show _ = _; rw [← hw4]; clear hw4 HZ4 HT4 HE4; go_simp
  clear hw4
  refine wp_region_any (by kernel_rfl) ?_
  refine wpAny_inv (RI w4 w4.heap.size w.heap.size nc (fun t11 t12 t13 t15 t16 t17 t18 t19 => { tmps := #[.agg #[.int .i64 nc, .slice a n cap], .int .i64 f, .int .i64 t, .slice ao no co, .int .i64 most, .pointer (some ⟨w.heap.size, 0, none⟩), undef, .pointer (some ⟨w.heap.size + 1, 0, none⟩), .pointer (some ⟨w.heap.size + 2, 0, none⟩), .pointer (some ⟨w.heap.size + 3, 0, none⟩), .slice none 0 0, t11, t12, t13, undef, t15, t16, t17, t18, t19, undef, undef, undef, undef, undef], defers := [] })) ?hsz ?step ?done _ _ _ _ ?init ?fuel
  case fuel => exact Nat.le_of_eq (by kernel_rfl)
  case hsz => intro listed a w h; obtain ⟨_, _, _, _, _, _, _, _, -, h⟩ := h; exact h.hsz
  case init =>
    have hl : ∀ j, ¬ Lst (Array.replicate 11 false) j := fun j h => by unfold Lst at h; rw [Array.getD_eq_getD_getElem?, Array.getElem?_replicate] at h; split at h <;> cases h
    exact ⟨undef, undef, undef, undef, undef, undef, undef, undef, rfl, by simp, (Below.refl _ _).drew, Nat.le_refl _, fun h => absurd h (hl _), fun h => absurd h (hl _), fun h => absurd h (hl _), fun h => absurd h (hl _), fun h => absurd h (hl _), fun h => absurd h (hl _), fun h => absurd h (hl _), fun h => absurd h (hl _), fun h => absurd h (hl _), fun h => absurd h (hl _), fun h => absurd h (hl _)⟩
  case done =>
    intro listed a' w5 hI hr
    obtain ⟨t11, t12, t13, t15, t16, t17, t18, t19, rfl, F⟩ := hI
    have l0 : Lst listed 0 := lst_all F.hsz hr rfl (by simp)
    have l1 : Lst listed 1 := lst_all F.hsz hr rfl (by simp)
    have l2 : Lst listed 2 := lst_all F.hsz hr rfl (by simp)
    have l3 : Lst listed 3 := lst_all F.hsz hr rfl (by intro e he hb; simp at he; rw [he]; exact l2)
    have l4 : Lst listed 4 := lst_all F.hsz hr rfl (by intro e he hb; simp at he; rw [he]; exact l3)
    have l5 : Lst listed 5 := lst_all F.hsz hr rfl (by simp)
    have l6 : Lst listed 6 := lst_all F.hsz hr rfl (by simp)
    have l7 : Lst listed 7 := lst_all F.hsz hr rfl (by simp)
    have l8 : Lst listed 8 := by
      refine lst_all F.hsz hr rfl ?_
      intro e he hb
      simp at he
      repeat' (rcases he with he | he)
      all_goals (first | (rw [he]; assumption) | assumption)
    have l9 : Lst listed 9 := by
      refine lst_all F.hsz hr rfl ?_
      intro e he hb
      simp at he
      repeat' (rcases he with he | he)
      all_goals (first | (rw [he]; assumption) | assumption)
    have l10 : Lst listed 10 := by
      refine lst_all F.hsz hr rfl ?_
      intro e he hb
      simp at he
      repeat' (rcases he with he | he)
      all_goals (first | (rw [he]; assumption) | assumption)
    obtain ⟨k0, rfl, hB0, h0⟩ := F.f0 l0
    obtain ⟨k1, rfl, hB1, h1⟩ := F.f1 l1
    obtain ⟨k4, rfl, hB4, h4⟩ := F.f4 l4
    obtain ⟨kS, rfl, hBS, vS, hS, eS⟩ := F.f5 l5
    obtain ⟨kU, rfl, hBU, vU, hU, eU⟩ := F.f6 l6
    obtain ⟨kN, rfl, hBN, vN, hN, eN⟩ := F.f7 l7
    obtain rfl := eS l8
    obtain rfl := eU l9
    obtain rfl := eN l10
    have hb5 := F.hb
    have hz5 := F.hz
    clear F hr l0 l1 l2 l3 l4 l5 l6 l7 l8 l9 l10 eS eU eN
    have ne : ∀ {k k' : Nat} {X Y : Obj}, w5.heap[k]? = some X → w5.heap[k']? = some Y → X ≠ Y → k ≠ k' := fun h h' hne e => by subst e; rw [h] at h'; injection h' with h'; exact hne h'
    have n0S := ne h0 hS (by intro h; injection h with h1 h2 h3; first | exact absurd h2 (by decide) | simp at h1)
    have n0U := ne h0 hU (by intro h; injection h with h1 h2 h3; first | exact absurd h2 (by decide) | simp at h1)
    have n0N := ne h0 hN (by intro h; injection h with h1 h2 h3; first | exact absurd h2 (by decide) | simp at h1)
    have n04 := ne h0 h4 (by intro h; injection h with h1 h2 h3; first | exact absurd h2 (by decide) | simp at h1)
    have n01 := ne h0 h1 (by intro h; injection h with h1 h2 h3; first | exact absurd h2 (by decide) | simp at h1)
    have n1S := ne h1 hS (by intro h; injection h with h1 h2 h3; first | exact absurd h2 (by decide) | simp at h1)
    have n1U := ne h1 hU (by intro h; injection h with h1 h2 h3; first | exact absurd h2 (by decide) | simp at h1)
    have n1N := ne h1 hN (by intro h; injection h with h1 h2 h3; first | exact absurd h2 (by decide) | simp at h1)
    have n14 := ne h1 h4 (by intro h; injection h with h1 h2 h3; first | exact absurd h2 (by decide) | simp at h1)
    have nSU := ne hS hU (by intro h; injection h with h1 h2 h3; first | exact absurd h2 (by decide) | simp at h1)
    have nSN := ne hS hN (by intro h; injection h with h1 h2 h3; first | exact absurd h2 (by decide) | simp at h1)
    have nS4 := ne hS h4 (by intro h; injection h with h1 h2 h3; first | exact absurd h2 (by decide) | simp at h1)
    have nUN := ne hU hN (by intro h; injection h with h1 h2 h3; first | exact absurd h2 (by decide) | simp at h1)
    have nU4 := ne hU h4 (by intro h; injection h with h1 h2 h3; first | exact absurd h2 (by decide) | simp at h1)
    have nN4 := ne hN h4 (by intro h; injection h with h1 h2 h3; first | exact absurd h2 (by decide) | simp at h1)
    have L0 := lt_of_block h0
    have L1 := lt_of_block h1
    have L4 := lt_of_block h4
    have LS := lt_of_block hS
    have LU := lt_of_block hU
    have LN := lt_of_block hN
    have hz4 := HZ4.out
    obtain ⟨fr, hfr⟩ : ∃ fr : RF, fr = { T := w.heap.size + 1, S := kS, M := w.heap.size + 3, U := kU, N := kN, O := w.heap.size + 2, R := w.heap.size, W := w5.heap.size, g := k4, B := w4.heap.size, H := w5.heap.size + 1 } := ⟨_, rfl⟩
    have hF : ∀ k, fr.isF k → k = w.heap.size + 1 ∨ k = w.heap.size + 3 ∨ k = kN ∨ k = w.heap.size + 2 ∨ k = w.heap.size ∨ k = w5.heap.size ∨ k = kS ∨ k = kU ∨ k = k4 := fun k hk => by
      subst hfr
      unfold RF.isF RF.isC at hk
      simp only at hk
      omega
    have hok2 : fr.Ok := by
      refine ⟨fun k hk => ?_, ?_, fun h => ?_, fun h => ?_, fun h => ?_, ?_, ?_, ?_⟩
      · have := hF k hk; subst hfr; show k < w5.heap.size + 1; omega
      · subst hfr; exact ⟨hBS, hBU, hB4⟩
      · subst hfr; unfold RF.isC at h; simp only at h; omega
      · subst hfr; unfold RF.isC at h; simp only at h; omega
      · subst hfr; unfold RF.isC at h; simp only at h; omega
      · subst hfr; exact nSU
      · subst hfr; exact nS4
      · subst hfr; exact nU4
    have hcall : ∀ w6, w6 = w5.alloc (.cells #[fr.fn] 98) → RS fr ⟨t, most, nc, .slice ao no co, nc, .slice a n cap⟩ w6 (.slice (some ⟨k0, 0, none⟩) 0 0) (.slice (some ⟨k1, 0, none⟩) 0 0) [] [] (List.replicate nc false) := by
      rintro w6 rfl
      have he : Ext w5 (w5.alloc (.cells #[fr.fn] 98)) := Ext.alloc _ _
      have hk6 : ∀ k, k < w5.heap.size → (w5.alloc (.cells #[fr.fn] 98)).heap[k]? = w5.heap[k]? := fun k hk => heap_alloc_old w5 _ hk
      have e0 : ∀ (o : Nat) (u : Value), w4.cell? ⟨w.heap.size + 1, o, none⟩ = some u → (w5.alloc (.cells #[fr.fn] 98)).cell? ⟨w.heap.size + 1, o, none⟩ = some u := fun o u h => he.cell ((hb5.cell (p := ⟨w.heap.size + 1, o, none⟩) (by show w.heap.size + 1 < w4.heap.size; omega)).trans h)
      have e2 : ∀ (o : Nat) (u : Value), w4.cell? ⟨w.heap.size + 2, o, none⟩ = some u → (w5.alloc (.cells #[fr.fn] 98)).cell? ⟨w.heap.size + 2, o, none⟩ = some u := fun o u h => he.cell ((hb5.cell (p := ⟨w.heap.size + 2, o, none⟩) (by show w.heap.size + 2 < w4.heap.size; omega)).trans h)
      have e3 : ∀ (o : Nat) (u : Value), w4.cell? ⟨w.heap.size + 3, o, none⟩ = some u → (w5.alloc (.cells #[fr.fn] 98)).cell? ⟨w.heap.size + 3, o, none⟩ = some u := fun o u h => he.cell ((hb5.cell (p := ⟨w.heap.size + 3, o, none⟩) (by show w.heap.size + 3 < w4.heap.size; omega)).trans h)
      have e4 : ∀ (o : Nat) (u : Value), w4.cell? ⟨w.heap.size, o, none⟩ = some u → (w5.alloc (.cells #[fr.fn] 98)).cell? ⟨w.heap.size, o, none⟩ = some u := fun o u h => he.cell ((hb5.cell (p := ⟨w.heap.size, o, none⟩) (by show w.heap.size < w4.heap.size; omega)).trans h)
      obtain ⟨c1, c2, c3, c4⟩ := HT4.out
      have nF : ∀ k, k < w5.heap.size → w4.heap.size ≤ k → k ≠ kN → k ≠ kS → k ≠ kU → k ≠ k4 → ¬ fr.isF k := fun k h1 h2 h3 h4 h5 h6 hk => by have := hF k hk; omega
      refine ⟨⟨?_, ?_, ?_, ?_, ?_, ?_, ?_⟩, ?_, ?_, ?_, ?_, ?_, ?_, ?_, ?_, ?_⟩
      · subst hfr; exact e0 _ _ c1
      · subst hfr; exact e3 _ _ c3
      · subst hfr; exact he.cell (cell_of_one hN)
      · subst hfr; exact e2 _ _ c2
      · subst hfr; exact e4 _ _ HC4.out
      · subst hfr; exact e4 _ _ c4
      · subst hfr; simp
      · subst hfr; exact (hk6 _ LS).trans hS
      · subst hfr; exact (hk6 _ LU).trans hU
      · refine ⟨[], fun _ => ⟨0, 0, true⟩, rfl, ?_, fun i h => absurd h (Nat.not_lt_zero _), fun _ i j _ h => absurd h (Nat.not_lt_zero _), fun i h => absurd h (Nat.not_lt_zero _)⟩
        subst hfr; exact empty_row hB0 ((hk6 _ L0).trans h0)
      · subst hfr; exact empty_row hB1 ((hk6 _ L1).trans h1)
      · subst hfr; exact made_row hB4 (by show nc ≤ 1000; omega) ((hk6 _ L4).trans h4)
      · intro k hk; injection hk with hk; subst hk; exact nF _ L0 hB0 n0N n0S n0U n04
      · intro k hk; injection hk with hk; subst hk; exact nF _ L1 hB1 n1N n1S n1U n14
      · intro k hk e
        have hk' : k0 = k := by injection hk
        have e' : k1 = k := by injection e
        omega
      · subst hfr; simp
    have hB6 : fr.B = w4.heap.size := by subst hfr; rfl
    have hfn : fr.fn = .func (.func 108) #[] #[.pointer (some ⟨w.heap.size + 1, 0, none⟩), .pointer (some ⟨kS, 0, none⟩), .pointer (some ⟨w.heap.size + 3, 0, none⟩), .pointer (some ⟨kU, 0, none⟩), .pointer (some ⟨kN, 0, none⟩), .pointer (some ⟨w.heap.size + 2, 0, none⟩), .pointer (some ⟨w.heap.size, 0, none⟩), .pointer (some ⟨w5.heap.size, 0, none⟩)] := by subst hfr; rfl
    have hargs : fr.T = w.heap.size + 1 ∧ fr.S = kS ∧ fr.M = w.heap.size + 3 ∧ fr.U = kU ∧ fr.N = kN ∧ fr.O = w.heap.size + 2 ∧ fr.R = w.heap.size ∧ fr.W = w5.heap.size := by subst hfr; exact ⟨rfl, rfl, rfl, rfl, rfl, rfl, rfl, rfl⟩
    have hgo : canGo (List.replicate nc false) f = true := canGo_iff.2 ⟨hf, by rw [List.getD_eq_getElem?_getD, List.getElem?_replicate]; split <;> rfl⟩
    have hcnt : ((List.replicate nc false).set f.toNat true).count false ≤ nc := by
      have := List.count_le_length (a := false) (l := (List.replicate nc false).set f.toNat true)
      simpa using this
    have hC := fun (w6 : World) (e : w6 = w5.alloc (.cells #[fr.fn] 98)) (hb6 : Below w4.heap.size w4 w6) => routesTo1_c fr hok2 ⟨t, most, nc, .slice ao no co, nc, .slice a n cap⟩ ds op w4 z q (by rw [hB6]; exact Nat.le_refl _) (stable_Rooms.ext HH.out HE4.out) (stable_ints.ext HO.out HE4.out) Hok.out Hop.out hm rfl nc w6 _ _ [] [] (List.replicate nc false) f (hcall w6 e) (by rw [hB6]; exact hb6) hgo hf' hcnt (by simp) (by simp) (by omega) (Nat.zero_le _)
    obtain ⟨g1, g2, g3, g4, g5, g6, g7, g8⟩ := hargs
    simp only [g1, g2, g3, g4, g5, g6, g7, g8, hfn] at hC
    have HCc := Lib.hid hC
    have hW6 : Below w4.heap.size w4 (w5.alloc (.cells #[fr.fn] 98)) := hb5.alloc hz5 _
    rw [hfn] at hW6
    have HR : Hid ((more [] most [] (routesN ds op t nc ((List.replicate nc false).set f.toNat true) f)) = (routesL nc ds f t op).take most) := by
      show _ = _
      unfold more routesL reach0
      simp
    have HSf : Hid (∀ (w8 : World) vs vu rss rt s, RS fr ⟨t, most, nc, .slice ao no co, nc, .slice a n cap⟩ w8 vs vu rss rt s → w8.heap[kS]? = some (.cells #[vs] 22 (0, 0))) := fun w8 vs vu rss rt s h => by
      have := h.hS; rw [g2] at this; exact this
    have HBz : Hid (fr.B = w4.heap.size) := hB6
    have HFz : Hid (fr.H = w5.heap.size + 1) := by show _ = _; subst hfr; rfl
    clear n0S n0U n0N n04 n01 n1S n1U n1N n14 nSU nSN nS4 nUN nU4 nN4 ne hF hcall hC hB6 g1 g2 g3 g4 g5 g6 g7 g8 hfn hgo hcnt hok2 hfr hz4
    go_wp2_with fail
    refine Calls.mono (HCc.out _ rfl hW6) ?_
    rintro e w8 ⟨vs8, vu8, rfl, hr8, hb8, hz8⟩
    have c8 := cell_of_one (HSf.out _ _ _ _ _ _ hr8)
    have hrd := OwnA.reads (L := w.heap.size) hr8.oS (fun k hk => by have h1 := hk.1; have h2 := HFz.out; have h3 := HZ4.out; omega) (by rw [HBz.out, HZ4.out]; omega)
    rw [HR.out] at hrd
    rw [HBz.out] at hb8
    have HRD := Lib.hid hrd
    have hbw : Ext w w8 := HE4.out.trans (Ext.of (hW6.trans hb8))
    clear hrd hr8 HR HSf
    go_wp2_with fail
    go_ret
    exact ⟨_, rfl, HRD.out, hbw⟩
  case step =>
    intro listed a' w' hI i hi
    obtain ⟨t11, t12, t13, t15, t16, t17, t18, t19, rfl, F⟩ := hI
    have hi11 : i < 11 := by
      obtain ⟨-, o, ho, -⟩ := mem_ready.1 hi
      exact (Array.getElem?_eq_some_iff.1 ho).1
    have hsz' : (listed.setIfInBounds i true).size = 11 := by simp [F.hsz]
    have hno := not_lst hi
    have hnew : Lst (listed.setIfInBounds i true) i := Lst.new (by rw [F.hsz]; exact hi11)
    have hcs : i = 0 ∨ i = 1 ∨ i = 2 ∨ i = 3 ∨ i = 4 ∨ i = 5 ∨ i = 6 ∨ i = 7 ∨ i = 8 ∨ i = 9 ∨ i = 10 := by omega
    rcases hcs with rfl | rfl | rfl | rfl | rfl | rfl | rfl | rfl | rfl | rfl | rfl
    · refine wpOp_step rfl ?_
      intro K' hK
      go_simp
      refine hK _ _ ⟨_, _, _, _, _, _, _, _, rfl, hsz', F.hb.alloc F.hz _, by simp; exact Nat.le_succ_of_le F.hz, dep_set (by decide) F.d8, dep_set (by decide) F.d9, dep_set (by decide) F.d10, fun _ => At.new F.hz _, fun h => (F.f1 (h.ne (by decide))).alloc _, fun h => F.f2 (h.ne (by decide)), fun h => F.f3 (h.ne (by decide)), fun h => (F.f4 (h.ne (by decide))).alloc _, fun h => ((F.f5 (h.ne (by decide))).imp (fun v hv h8 => absurd (F.d8 (h8.ne (by decide))).1 hno)).alloc _, fun h => ((F.f6 (h.ne (by decide))).imp (fun v hv h8 => hv (h8.ne (by decide)))).alloc _, fun h => ((F.f7 (h.ne (by decide))).imp (fun v hv h8 => hv (h8.ne (by decide)))).alloc _⟩
    · refine wpOp_step rfl ?_
      intro K' hK
      go_simp
      refine hK _ _ ⟨_, _, _, _, _, _, _, _, rfl, hsz', F.hb.alloc F.hz _, by simp; exact Nat.le_succ_of_le F.hz, dep_set (by decide) F.d8, dep_set (by decide) F.d9, dep_set (by decide) F.d10, fun h => (F.f0 (h.ne (by decide))).alloc _, fun _ => At.new F.hz _, fun h => F.f2 (h.ne (by decide)), fun h => F.f3 (h.ne (by decide)), fun h => (F.f4 (h.ne (by decide))).alloc _, fun h => ((F.f5 (h.ne (by decide))).imp (fun v hv h8 => hv (h8.ne (by decide)))).alloc _, fun h => ((F.f6 (h.ne (by decide))).imp (fun v hv h8 => absurd (F.d9 (h8.ne (by decide))).1 hno)).alloc _, fun h => ((F.f7 (h.ne (by decide))).imp (fun v hv h8 => hv (h8.ne (by decide)))).alloc _⟩
    · refine wpOp_step rfl ?_
      intro K' hK
      go_simp
      refine hK _ _ ⟨_, _, _, _, _, _, _, _, rfl, hsz', F.hb, F.hz, dep_set (by decide) F.d8, dep_set (by decide) F.d9, dep_set (by decide) F.d10, fun h => F.f0 (h.ne (by decide)), fun h => F.f1 (h.ne (by decide)), fun _ => rfl, fun h => F.f3 (h.ne (by decide)), fun h => F.f4 (h.ne (by decide)), fun h => (F.f5 (h.ne (by decide))).imp (fun v hv h8 => hv (h8.ne (by decide))), fun h => (F.f6 (h.ne (by decide))).imp (fun v hv h8 => hv (h8.ne (by decide))), fun h => (F.f7 (h.ne (by decide))).imp (fun v hv h8 => hv (h8.ne (by decide)))⟩
    · have h2 : Lst listed 2 := lst_dep hi rfl (g := .data) (by simp) rfl
      obtain rfl := F.f2 h2
      have hcell : w'.cell? ⟨w.heap.size, 0, none⟩ = some (.int .i64 nc) := (F.hb.cell (p := ⟨w.heap.size, 0, none⟩) (by show w.heap.size < w4.heap.size; rw [HZ4.out]; omega)).trans HC4.out
      refine wpOp_step rfl ?_
      intro K' hK
      go_simp
      refine hK _ _ ⟨_, _, _, _, _, _, _, _, rfl, hsz', F.hb, F.hz, dep_set (by decide) F.d8, dep_set (by decide) F.d9, dep_set (by decide) F.d10, fun h => F.f0 (h.ne (by decide)), fun h => F.f1 (h.ne (by decide)), fun h => F.f2 (h.ne (by decide)), fun _ => rfl, fun h => F.f4 (h.ne (by decide)), fun h => (F.f5 (h.ne (by decide))).imp (fun v hv h8 => hv (h8.ne (by decide))), fun h => (F.f6 (h.ne (by decide))).imp (fun v hv h8 => hv (h8.ne (by decide))), fun h => (F.f7 (h.ne (by decide))).imp (fun v hv h8 => hv (h8.ne (by decide)))⟩
    · have h3 : Lst listed 3 := lst_dep hi rfl (g := .data) (by simp) rfl
      obtain rfl := F.f3 h3
      have hmk := run_makeB (P := Try.prog) w' 87 Try.underlying87 Try.infoBool nc (by omega)
      refine wpOp_step rfl ?_
      intro K' hK
      go_simp
      refine hK _ _ ⟨_, _, _, _, _, _, _, _, rfl, hsz', F.hb.alloc F.hz _, by simp; exact Nat.le_succ_of_le F.hz, dep_set (by decide) F.d8, dep_set (by decide) F.d9, dep_set (by decide) F.d10, fun h => (F.f0 (h.ne (by decide))).alloc _, fun h => (F.f1 (h.ne (by decide))).alloc _, fun h => F.f2 (h.ne (by decide)), fun h => F.f3 (h.ne (by decide)), fun _ => At.new F.hz _, fun h => ((F.f5 (h.ne (by decide))).imp (fun v hv h8 => hv (h8.ne (by decide)))).alloc _, fun h => ((F.f6 (h.ne (by decide))).imp (fun v hv h8 => hv (h8.ne (by decide)))).alloc _, fun h => ((F.f7 (h.ne (by decide))).imp (fun v hv h8 => absurd (F.d10 (h8.ne (by decide))).1 hno)).alloc _⟩
    · refine wpOp_step rfl ?_
      intro K' hK
      go_simp
      refine hK _ _ ⟨_, _, _, _, _, _, _, _, rfl, hsz', F.hb.alloc F.hz _, by simp; exact Nat.le_succ_of_le F.hz, dep_set (by decide) F.d8, dep_set (by decide) F.d9, dep_set (by decide) F.d10, fun h => (F.f0 (h.ne (by decide))).alloc _, fun h => (F.f1 (h.ne (by decide))).alloc _, fun h => F.f2 (h.ne (by decide)), fun h => F.f3 (h.ne (by decide)), fun h => (F.f4 (h.ne (by decide))).alloc _, fun _ => VarAt.new F.hz _ (fun h8 => absurd (F.d8 (h8.ne (by decide))).2 hno), fun h => ((F.f6 (h.ne (by decide))).imp (fun v hv h8 => hv (h8.ne (by decide)))).alloc _, fun h => ((F.f7 (h.ne (by decide))).imp (fun v hv h8 => hv (h8.ne (by decide)))).alloc _⟩
    · refine wpOp_step rfl ?_
      intro K' hK
      go_simp
      refine hK _ _ ⟨_, _, _, _, _, _, _, _, rfl, hsz', F.hb.alloc F.hz _, by simp; exact Nat.le_succ_of_le F.hz, dep_set (by decide) F.d8, dep_set (by decide) F.d9, dep_set (by decide) F.d10, fun h => (F.f0 (h.ne (by decide))).alloc _, fun h => (F.f1 (h.ne (by decide))).alloc _, fun h => F.f2 (h.ne (by decide)), fun h => F.f3 (h.ne (by decide)), fun h => (F.f4 (h.ne (by decide))).alloc _, fun h => ((F.f5 (h.ne (by decide))).imp (fun v hv h8 => hv (h8.ne (by decide)))).alloc _, fun _ => VarAt.new F.hz _ (fun h8 => absurd (F.d9 (h8.ne (by decide))).2 hno), fun h => ((F.f7 (h.ne (by decide))).imp (fun v hv h8 => hv (h8.ne (by decide)))).alloc _⟩
    · refine wpOp_step rfl ?_
      intro K' hK
      go_simp
      refine hK _ _ ⟨_, _, _, _, _, _, _, _, rfl, hsz', F.hb.alloc F.hz _, by simp; exact Nat.le_succ_of_le F.hz, dep_set (by decide) F.d8, dep_set (by decide) F.d9, dep_set (by decide) F.d10, fun h => (F.f0 (h.ne (by decide))).alloc _, fun h => (F.f1 (h.ne (by decide))).alloc _, fun h => F.f2 (h.ne (by decide)), fun h => F.f3 (h.ne (by decide)), fun h => (F.f4 (h.ne (by decide))).alloc _, fun h => ((F.f5 (h.ne (by decide))).imp (fun v hv h8 => hv (h8.ne (by decide)))).alloc _, fun h => ((F.f6 (h.ne (by decide))).imp (fun v hv h8 => hv (h8.ne (by decide)))).alloc _, fun _ => VarAt.new F.hz _ (fun h8 => absurd (F.d10 (h8.ne (by decide))).2 hno)⟩
    · have hs : Lst listed 0 := lst_dep hi rfl (g := .data) (by simp) rfl
      have hm : Lst listed 5 := lst_dep hi rfl (g := .data) (by simp) rfl
      obtain ⟨kv, rfl, hkB, v, hkv, hv⟩ := F.f5 hm
      obtain ⟨ks, rfl, hksB, hks⟩ := F.f0 hs
      have cv := cell_of_one hkv
      have fv := free_of_one hkv
      refine wpOp_step rfl ?_
      intro K' hK
      go_simp
      refine hK _ _ ⟨_, _, _, _, _, _, _, _, rfl, hsz', F.hb.setCell hkB _, by rw [size_set]; exact F.hz, fun _ => ⟨hs.old, hm.old⟩, dep_set (by decide) F.d9, dep_set (by decide) F.d10, fun h => (F.f0 (h.ne (by decide))).set hkv (by intro h; injection h with h1 h2 h3; first | exact absurd h2 (by decide) | simp at h1) _, fun h => (F.f1 (h.ne (by decide))).set hkv (by intro h; injection h with h1 h2 h3; first | exact absurd h2 (by decide) | simp at h1) _, fun h => F.f2 (h.ne (by decide)), fun h => F.f3 (h.ne (by decide)), fun h => (F.f4 (h.ne (by decide))).set hkv (by intro h; injection h with h1 h2 h3; first | exact absurd h2 (by decide) | simp at h1) _, fun _ => ⟨kv, rfl, hkB, _, one_setCell hkv, fun _ => rfl⟩, fun h => ((F.f6 (h.ne (by decide))).imp (fun v hv h8 => hv (h8.ne (by decide)))).set hkv (by decide) _, fun h => ((F.f7 (h.ne (by decide))).imp (fun v hv h8 => hv (h8.ne (by decide)))).set hkv (by decide) _⟩
    · have hs : Lst listed 1 := lst_dep hi rfl (g := .data) (by simp) rfl
      have hm : Lst listed 6 := lst_dep hi rfl (g := .data) (by simp) rfl
      obtain ⟨kv, rfl, hkB, v, hkv, hv⟩ := F.f6 hm
      obtain ⟨ks, rfl, hksB, hks⟩ := F.f1 hs
      have cv := cell_of_one hkv
      have fv := free_of_one hkv
      refine wpOp_step rfl ?_
      intro K' hK
      go_simp
      refine hK _ _ ⟨_, _, _, _, _, _, _, _, rfl, hsz', F.hb.setCell hkB _, by rw [size_set]; exact F.hz, dep_set (by decide) F.d8, fun _ => ⟨hs.old, hm.old⟩, dep_set (by decide) F.d10, fun h => (F.f0 (h.ne (by decide))).set hkv (by intro h; injection h with h1 h2 h3; first | exact absurd h2 (by decide) | simp at h1) _, fun h => (F.f1 (h.ne (by decide))).set hkv (by intro h; injection h with h1 h2 h3; first | exact absurd h2 (by decide) | simp at h1) _, fun h => F.f2 (h.ne (by decide)), fun h => F.f3 (h.ne (by decide)), fun h => (F.f4 (h.ne (by decide))).set hkv (by intro h; injection h with h1 h2 h3; first | exact absurd h2 (by decide) | simp at h1) _, fun h => ((F.f5 (h.ne (by decide))).imp (fun v hv h8 => hv (h8.ne (by decide)))).set hkv (by decide) _, fun _ => ⟨kv, rfl, hkB, _, one_setCell hkv, fun _ => rfl⟩, fun h => ((F.f7 (h.ne (by decide))).imp (fun v hv h8 => hv (h8.ne (by decide)))).set hkv (by decide) _⟩
    · have hs : Lst listed 4 := lst_dep hi rfl (g := .data) (by simp) rfl
      have hm : Lst listed 7 := lst_dep hi rfl (g := .data) (by simp) rfl
      obtain ⟨kv, rfl, hkB, v, hkv, hv⟩ := F.f7 hm
      obtain ⟨ks, rfl, hksB, hks⟩ := F.f4 hs
      have cv := cell_of_one hkv
      have fv := free_of_one hkv
      refine wpOp_step rfl ?_
      intro K' hK
      go_simp
      refine hK _ _ ⟨_, _, _, _, _, _, _, _, rfl, hsz', F.hb.setCell hkB _, by rw [size_set]; exact F.hz, dep_set (by decide) F.d8, dep_set (by decide) F.d9, fun _ => ⟨hs.old, hm.old⟩, fun h => (F.f0 (h.ne (by decide))).set hkv (by intro h; injection h with h1 h2 h3; first | exact absurd h2 (by decide) | simp at h1) _, fun h => (F.f1 (h.ne (by decide))).set hkv (by intro h; injection h with h1 h2 h3; first | exact absurd h2 (by decide) | simp at h1) _, fun h => F.f2 (h.ne (by decide)), fun h => F.f3 (h.ne (by decide)), fun h => (F.f4 (h.ne (by decide))).set hkv (by intro h; injection h with h1 h2 h3; first | exact absurd h2 (by decide) | simp at h1) _, fun h => ((F.f5 (h.ne (by decide))).imp (fun v hv h8 => hv (h8.ne (by decide)))).set hkv (by decide) _, fun h => ((F.f6 (h.ne (by decide))).imp (fun v hv h8 => hv (h8.ne (by decide)))).set hkv (by decide) _, fun _ => ⟨kv, rfl, hkB, _, one_setCell hkv, fun _ => rfl⟩⟩
end Go.Proofs.Ytaogpbhgoeepbaa
