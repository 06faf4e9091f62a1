/- Proved: DrawReachWith, DrawRoutesTo, DrawCountRoutes, DrawShortRoute give some rooms, rooms' numbers, doors. -/
import Derived.Test.YtbkijealdjghgaaChecked
import Derived.Test.YtbkijealdjghgaaUDrawPlan
import Derived.Test.YtbkijealdjghgaaURoomsCode
namespace Go.Proofs.Ytbkijealdjghgaa
open Go.ChangeShapes Go.WideShapes Go.ChangeAt Go.RowKit
set_option linter.unusedVariables false

def ReachDrawn (B : Nat) (r : Value) (w' : World) : Prop := ∃ (c : Int) (u : Value) (ds : List (List Int)) (f : Int) (v : Value) (l : List Int) (z y : Zone), r = .tuple #[.agg #[.int .i64 c, u], .int .i64 f, v] ∧ I64 c ∧ I64 f ∧ RowsR z w' u ds ∧ IntsR y w' v l ∧ B ≤ z.lo ∧ B ≤ y.lo ∧ ds.length ≤ 13
theorem set2_keep {α : Type} {E : Repr α} (hE : Stable E) {z : Zone} {w : World} {v : Value} {x : α} (h : E z w v x) {R : Nat} (hR : ¬ z.Has R) (a b : Value) : E z ((w.setCell ⟨R, 0, none⟩ a).setCell ⟨R, 1, none⟩ b) v x :=
  hE.keep h (fun k hk _ => by rw [Below.heap_setCell _ _ _ _ (fun e : k = R => hR (e ▸ hk)), Below.heap_setCell _ _ _ _ (fun e : k = R => hR (e ▸ hk))])

set_option maxRecDepth 20000 in
set_option maxHeartbeats 2000000 in
theorem DrawReachWith_c (w : World) (v : Value) (z : Zone) (xs : List Int) (h : BytesR z w v xs) :
    Calls Try.prog 67 #[v] w (Ret w fun r w' => ReachDrawn w.heap.size r w') := by
  have hb0 : Ext w (w.alloc (.cells #[.int .i64 0, .slice none 0 0] 26)) := Ext.alloc _ _
  have hbx := Box2.new w (.int .i64 0) (.slice none 0 0) 26
  have hcall := l01From_c _ v z xs (stable_bytes.ext h hb0)
  have hs0 : (w.alloc (.cells #[.int .i64 0, .slice none 0 0] 26)).heap.size = w.heap.size + 1 := by simp
  clear h
  go_enter Try.func67, Try.ntmps67
  go_wp2_with fail
  generalize w.alloc (.cells #[.int .i64 0, .slice none 0 0] 26) = w0 at *
  refine Calls.mono hcall ?_
  rintro e w1 hr
  obtain ⟨_, rfl, ⟨g, hg, rfl, hs⟩, b1⟩ := ret_ext hr
  clear hr hcall
  have hcall := l25Draw_c w1 g hs
  have hlt := hs.lt
  have hsz1 := b1.size
  have hbx1 : Box2 w.heap.size (.int .i64 0) (.slice none 0 0) w1 := ⟨b1.cell hbx.1, b1.cell hbx.2.1, (b1.below.frozen (p := ⟨w.heap.size, 0, none⟩) (by show w.heap.size < _; omega)).trans hbx.2.2.1, (b1.below.frozen (p := ⟨w.heap.size, 1, none⟩) (by show w.heap.size < _; omega)).trans hbx.2.2.2⟩
  have HR : Hid (∀ w', Dr g w1 w' → Box2 w.heap.size (.int .i64 0) (.slice none 0 0) w') := fun w' hd => hbx1.dr hd (by omega)
  have HB := Lib.hid (hb0.trans b1)
  clear hbx hbx1 hs b1 hb0
  go_wp2_with fail
  refine Calls.mono hcall ?_
  rintro e w2 ⟨_, rfl, ⟨c, u, ds, rfl, hc, hdl, hrows⟩, hd2⟩
  clear hcall
  obtain ⟨a, n, cap, rfl, hn, -⟩ := SliceR.shape hrows
  clear hn
  have hsz2 := hd2.size
  have hxx := Box2.new w2 (.int .i64 c) (.slice a n cap) 26
  have hr2 : Dr g w2 (w2.alloc (.cells #[.int .i64 c, .slice a n cap] 26)) := (Dr.refl hd2.src).alloc _
  have HX : Hid (∀ w', Dr g (w2.alloc (.cells #[.int .i64 c, .slice a n cap] 26)) w' → Box2 w2.heap.size (.int .i64 c) (.slice a n cap) w') := fun w' hd => hxx.dr hd (by omega)
  obtain ⟨x0, x1, -, -⟩ := hxx
  have hcall := l25DrawRoom_c _ g hr2.src c (.slice a n cap)
  have HRows : Hid (∀ w', Dr g w2 w' → RowsR ⟨w1.heap.size, w2.heap.size, false⟩ w' (.slice a n cap) ds) := fun w' hd => stable_rows.dr hrows hd (.inl hlt)
  clear hrows
  go_wp2_with fail
  generalize w2.alloc (.cells #[.int .i64 c, .slice a n cap] 26) = wx at *
  refine Calls.mono hcall ?_
  rintro e w3 ⟨_, rfl, ⟨f, rfl, hf⟩, hd3⟩
  clear hcall x0 x1
  have hr3 : Dr g w3 w3 := Dr.refl hd3.src
  have hsz3 := hd3.size
  have hszx := hr2.size
  have HK : Hid (∀ w', Dr g w3 w' → w'.cell? ⟨w2.heap.size, 0, none⟩ = some (.int .i64 c) ∧ w'.cell? ⟨w2.heap.size, 1, none⟩ = some (.slice a n cap)) := fun w' hd => by
    obtain ⟨p1, p2, -, -⟩ := HX.out _ (hd3.trans hd)
    exact ⟨p1, p2⟩
  have HK2 : Hid (∀ w' s t, Dr g w3 w' → ((w'.setCell ⟨w.heap.size, 0, none⟩ s).setCell ⟨w.heap.size, 1, none⟩ t).cell? ⟨w2.heap.size, 0, none⟩ = some (.int .i64 c) ∧ ((w'.setCell ⟨w.heap.size, 0, none⟩ s).setCell ⟨w.heap.size, 1, none⟩ t).cell? ⟨w2.heap.size, 1, none⟩ = some (.slice a n cap)) := fun w' s t hd => by
    obtain ⟨p1, p2, -, -⟩ := HX.out _ (hd3.trans hd)
    constructor
    · rw [World.cell?_setCell_other _ _ _ _ (by intro e; injection e with e _ _; omega), World.cell?_setCell_other _ _ _ _ (by intro e; injection e with e _ _; omega)]; exact p1
    · rw [World.cell?_setCell_other _ _ _ _ (by intro e; injection e with e _ _; omega), World.cell?_setCell_other _ _ _ _ (by intro e; injection e with e _ _; omega)]; exact p2
  have HP := Lib.hid (fun (W : World) (hd : Dr g w3 W) => l25DrawOpen_c W g hd.src c _ _ ds (HRows.out W ((hr2.trans hd3).trans hd)) (by omega))
  have HRb := Lib.hid (fun (W : World) (hd : Dr g w3 W) => HR.out W (((hd2.trans hr2).trans hd3).trans hd))
  go_wp2_with fail
  go_region_held3 (fun w' => w'.cell? ⟨w2.heap.size, 0, none⟩ = some (.int .i64 c) ∧ w'.cell? ⟨w2.heap.size, 1, none⟩ = some (.slice a n cap)) (first | ((with_reducible refine HK2.out _ _ _ ?_); exact (by (repeat (first | assumption | (refine Dr.drew ?_) | (refine Dr.alloc ?_ _) | (refine Dr.trans ?_ (by assumption)))); done)) | (refine HK.out _ ?_; exact (by (repeat (first | assumption | (refine Dr.drew ?_) | (refine Dr.alloc ?_ _) | (refine Dr.trans ?_ (by assumption)))); done))) (first | (go_at_call 71; (with_reducible refine Calls.mono (HP.out _ ?_) ?_); exact (by (repeat (first | assumption | (refine Dr.drew ?_) | (refine Dr.alloc ?_ _) | (refine Dr.trans ?_ (by assumption)))); done); rintro e w8 ⟨v8, rfl, ⟨l, hl⟩, hd8⟩; (have hq8 : Dr g w3 w8 := by first | exact Dr.trans (Dr.drew hr3) hd8 | exact Dr.trans hr3 hd8); obtain ⟨k1, k2, k3, k4⟩ := HRb.out w8 hq8))
  all_goals (have hR8 := HRows.out w8 ((hr2.trans hd3).trans hq8))
  all_goals (have hsz8 := hq8.size)
  all_goals (clear HK HK2 HP HRb HX HR)
  all_goals (go_wp2_with fail)
  all_goals (have hbel : Below w.heap.size w w8 := HB.out.below.trans (((hd2.trans (hr2.trans hd3)).trans hq8).below'.mono (by omega)))
  all_goals (exact bodyPost_ret (v := .tuple #[.agg #[.int .i64 c, .slice a n cap], .int .i64 f, v8]) (by simp [results, Try.results67, go_sem, k1, k2]) rfl ⟨_, rfl, ⟨c, _, ds, f, v8, l, _, _, rfl, hc, hf, set2_keep stable_rows hR8 (fun h => by have := h.1; simp only at this; omega) _ _, set2_keep stable_ints hl (fun h => by have := h.1; simp only [World.drew] at this; omega) _ _, by show w.heap.size ≤ w1.heap.size; omega, by simp only [World.drew]; omega⟩, (hbel.setCell (p := ⟨w.heap.size, 0, none⟩) (Nat.le_refl _) _).setCell (p := ⟨w.heap.size, 1, none⟩) (Nat.le_refl _) _⟩)

def RoutesDrawn (B : Nat) (r : Value) (w' : World) : Prop := ∃ (c : Int) (u : Value) (ds : List (List Int)) (f t : Int) (v : Value) (l : List Int) (m : Int) (z y : Zone), r = .tuple #[.agg #[.int .i64 c, u], .int .i64 f, .int .i64 t, v, .int .i64 m] ∧ I64 c ∧ I64 f ∧ I64 t ∧ I64 m ∧ RowsR z w' u ds ∧ IntsR y w' v l ∧ B ≤ z.lo ∧ B ≤ y.lo ∧ ds.length ≤ 13

set_option maxRecDepth 20000 in
set_option maxHeartbeats 2000000 in
theorem DrawRoutesTo_c (w : World) (v : Value) (z : Zone) (xs : List Int) (h : BytesR z w v xs) :
    Calls Try.prog 61 #[v] w (Ret w fun r w' => RoutesDrawn w.heap.size r w') := by
  have hb0 : Ext w (w.alloc (.cells #[.int .i64 0, .slice none 0 0] 26)) := Ext.alloc _ _
  have hbx := Box2.new w (.int .i64 0) (.slice none 0 0) 26
  have hcall := l01From_c _ v z xs (stable_bytes.ext h hb0)
  have hs0 : (w.alloc (.cells #[.int .i64 0, .slice none 0 0] 26)).heap.size = w.heap.size + 1 := by simp
  have hby := stable_bytes.ext h hb0
  clear h
  go_enter Try.func61, Try.ntmps61
  go_wp2_with fail
  generalize w.alloc (.cells #[.int .i64 0, .slice none 0 0] 26) = w0 at *
  refine Calls.mono hcall ?_
  rintro e w1 hr
  obtain ⟨_, rfl, ⟨g, hg, rfl, hs⟩, b1⟩ := ret_ext hr
  clear hr hcall
  have hcall := DrawReachWith_c w1 v z xs (stable_bytes.ext hby b1)
  have hlt := hs.lt
  have hsz1 := b1.size
  have hbx1 : Box2 w.heap.size (.int .i64 0) (.slice none 0 0) w1 := ⟨b1.cell hbx.1, b1.cell hbx.2.1, (b1.below.frozen (p := ⟨w.heap.size, 0, none⟩) (by show w.heap.size < _; omega)).trans hbx.2.2.1, (b1.below.frozen (p := ⟨w.heap.size, 1, none⟩) (by show w.heap.size < _; omega)).trans hbx.2.2.2⟩
  have HR : Hid (∀ w', Dr g w1 w' → Box2 w.heap.size (.int .i64 0) (.slice none 0 0) w') := fun w' hd => hbx1.dr hd (by omega)
  have HB := Lib.hid (hb0.trans b1)
  have hr1 := Dr.refl hs
  clear hbx hbx1 hs b1 hb0 hby
  go_wp2_with fail
  refine Calls.mono hcall ?_
  rintro e w2 hr
  obtain ⟨_, rfl, ⟨c, u, ds, f, v2, l, z1, z2, rfl, hc, hf, hrows, hints, hz1, hz2⟩, b2⟩ := ret_ext hr
  clear hr hcall
  have hd2 : Dr g w1 w2 := hr1.below b2.below
  obtain ⟨a, n, cap, rfl, hn, -⟩ := SliceR.shape hrows
  obtain ⟨a2, n2, cap2, rfl, hn2, -⟩ := SliceR.shape hints
  clear hn hn2
  have hsz2 := hd2.size
  have hxx := Box2.new w2 (.int .i64 c) (.slice a n cap) 26
  have hr2 : Dr g w2 (w2.alloc (.cells #[.int .i64 c, .slice a n cap] 26)) := (Dr.refl hd2.src).alloc _
  have HX : Hid (∀ w', Dr g (w2.alloc (.cells #[.int .i64 c, .slice a n cap] 26)) w' → Box2 w2.heap.size (.int .i64 c) (.slice a n cap) w') := fun w' hd => hxx.dr hd (by omega)
  obtain ⟨x0, x1, -, -⟩ := hxx
  have hcall := l25DrawRoom_c _ g hr2.src c (.slice a n cap)
  have HRows : Hid (∀ w', Dr g w2 w' → RowsR z1 w' (.slice a n cap) ds) := fun w' hd => stable_rows.dr hrows hd (.inl (by omega))
  have HInts : Hid (∀ w', Dr g w2 w' → IntsR z2 w' (.slice a2 n2 cap2) l) := fun w' hd => stable_ints.dr hints hd (.inl (by omega))
  clear hrows hints
  go_wp2_with fail
  generalize w2.alloc (.cells #[.int .i64 c, .slice a n cap] 26) = wx at *
  refine Calls.mono hcall ?_
  rintro e w3 ⟨_, rfl, ⟨t, rfl, ht⟩, hd3⟩
  clear hcall x0 x1
  have hr3 : Dr g w3 w3 := Dr.refl hd3.src
  have hsz3 := hd3.size
  have hszx := hr2.size
  have HK : Hid (∀ w', Dr g w3 w' → w'.cell? ⟨w2.heap.size, 0, none⟩ = some (.int .i64 c) ∧ w'.cell? ⟨w2.heap.size, 1, none⟩ = some (.slice a n cap)) := fun w' hd => by
    obtain ⟨p1, p2, -, -⟩ := HX.out _ (hd3.trans hd)
    exact ⟨p1, p2⟩
  have HK2 : Hid (∀ w' s t, Dr g w3 w' → ((w'.setCell ⟨w.heap.size, 0, none⟩ s).setCell ⟨w.heap.size, 1, none⟩ t).cell? ⟨w2.heap.size, 0, none⟩ = some (.int .i64 c) ∧ ((w'.setCell ⟨w.heap.size, 0, none⟩ s).setCell ⟨w.heap.size, 1, none⟩ t).cell? ⟨w2.heap.size, 1, none⟩ = some (.slice a n cap)) := fun w' s t hd => by
    obtain ⟨p1, p2, -, -⟩ := HX.out _ (hd3.trans hd)
    constructor
    · rw [World.cell?_setCell_other _ _ _ _ (by intro e; injection e with e _ _; omega), World.cell?_setCell_other _ _ _ _ (by intro e; injection e with e _ _; omega)]; exact p1
    · rw [World.cell?_setCell_other _ _ _ _ (by intro e; injection e with e _ _; omega), World.cell?_setCell_other _ _ _ _ (by intro e; injection e with e _ _; omega)]; exact p2
  have hg3 : g < w3.heap.size := by omega
  have hm7 : ∀ y ∈ [0, 1, 3, 20, 60, 61, -1], I64 y := by simp [I64]
  have hlit := OwnP.ints (OwnP.lit (f := Value.int .i64) (e := 2) (B := w3.heap.size) (Nat.le_refl _) [0, 1, 3, 20, 60, 61, -1] #[.int .i64 0, .int .i64 1, .int .i64 3, .int .i64 20, .int .i64 60, .int .i64 61, .int .i64 (-1)] rfl (by simp [maxLen])) hm7 (Nat.le_refl _)
  have hpick := l01Pick_c _ g ((hr3.alloc (.cells #[.int .i64 0, .int .i64 1, .int .i64 3, .int .i64 20, .int .i64 60, .int .i64 61, .int .i64 (-1)] 2)).drew).src _ _ _ (stable_ints.drewN hlit 1) (.inl (by show g < w3.heap.size; omega)) (by simp)
  have hdl := (hr3.alloc (.cells #[.int .i64 0, .int .i64 1, .int .i64 3, .int .i64 20, .int .i64 60, .int .i64 61, .int .i64 (-1)] 2)).drew
  have HM := Lib.hid hm7
  have HP := Lib.hid hpick
  have HRb := Lib.hid (fun (W : World) (hd : Dr g w3 W) => HR.out W (((hd2.trans hr2).trans hd3).trans hd))
  clear hlit hpick hm7
  go_wp2_with fail
  go_region_held3 (fun w' => w'.cell? ⟨w2.heap.size, 0, none⟩ = some (.int .i64 c) ∧ w'.cell? ⟨w2.heap.size, 1, none⟩ = some (.slice a n cap)) (first | ((with_reducible refine HK2.out _ _ _ ?_); exact (by (repeat (first | assumption | (refine Dr.drew ?_) | (refine Dr.alloc ?_ _) | (refine Dr.trans ?_ (by assumption)))); done)) | (refine HK.out _ ?_; exact (by (repeat (first | assumption | (refine Dr.drew ?_) | (refine Dr.alloc ?_ _) | (refine Dr.trans ?_ (by assumption)))); done))) (first | (go_at_call 55; (with_reducible refine Calls.mono HP.out ?_); rintro e w8 ⟨_, rfl, ⟨m, hm, rfl⟩, hd8⟩; have hq8 := Dr.trans hdl hd8; obtain ⟨k1, k2, k3, k4⟩ := HRb.out w8 hq8))
  all_goals (have hd8' := (hr2.trans hd3).trans hq8)
  all_goals (have hR8 := HRows.out w8 hd8')
  all_goals (have hI8 := HInts.out w8 hd8')
  all_goals (clear HK HK2 HP HRb HX HR)
  all_goals (go_wp2_with fail)
  all_goals (have hbel : Below w.heap.size w w8 := HB.out.below.trans ((hd2.trans hd8').below'.mono (by omega)))
  all_goals (exact bodyPost_ret (v := .tuple #[.agg #[.int .i64 c, .slice a n cap], .int .i64 f, .int .i64 t, .slice a2 n2 cap2, .int .i64 m]) (by simp [results, Try.results61, go_sem, k1, k2]) rfl ⟨_, rfl, ⟨c, _, ds, f, t, _, l, m, _, _, rfl, hc, hf, ht, HM.out m hm, set2_keep stable_rows hR8 (fun h => by have := h.1; omega) _ _, set2_keep stable_ints hI8 (fun h => by have := h.1; omega) _ _, by omega, by omega⟩, (hbel.setCell (p := ⟨w.heap.size, 0, none⟩) (Nat.le_refl _) _).setCell (p := ⟨w.heap.size, 1, none⟩) (Nat.le_refl _) _⟩)

def CountDrawn (B : Nat) (r : Value) (w' : World) : Prop := ∃ (c : Int) (u : Value) (ds : List (List Int)) (f t : Int) (v : Value) (l : List Int) (z y : Zone), r = .tuple #[.agg #[.int .i64 c, u], .int .i64 f, .int .i64 t, v] ∧ I64 c ∧ I64 f ∧ I64 t ∧ RowsR z w' u ds ∧ IntsR y w' v l ∧ B ≤ z.lo ∧ B ≤ y.lo ∧ ds.length ≤ 13

set_option maxRecDepth 20000 in
set_option maxHeartbeats 2000000 in
theorem DrawCountRoutes_c (w : World) (v : Value) (z : Zone) (xs : List Int) (h : BytesR z w v xs) :
    Calls Try.prog 36 #[v] w (Ret w fun r w' => CountDrawn w.heap.size r w') := by
  have hb0 : Ext w (w.alloc (.cells #[.int .i64 0, .slice none 0 0] 26)) := Ext.alloc _ _
  have hbx := Box2.new w (.int .i64 0) (.slice none 0 0) 26
  have hcall := DrawRoutesTo_c _ v z xs (stable_bytes.ext h hb0)
  have hs0 : (w.alloc (.cells #[.int .i64 0, .slice none 0 0] 26)).heap.size = w.heap.size + 1 := by simp
  clear h
  go_enter Try.func36, Try.ntmps36
  go_wp2_with fail
  generalize w.alloc (.cells #[.int .i64 0, .slice none 0 0] 26) = w0 at *
  refine Calls.mono hcall ?_
  rintro e w2 hr
  obtain ⟨_, rfl, ⟨c, u, ds, f, t, v2, l, m, z1, z2, rfl, hc, hf, ht, hm, hrows, hints, hz1, hz2⟩, b2⟩ := ret_ext hr
  clear hr hcall
  obtain ⟨a, n, cap, rfl, hn, -⟩ := SliceR.shape hrows
  obtain ⟨a2, n2, cap2, rfl, hn2, -⟩ := SliceR.shape hints
  clear hn hn2
  have hsz2 := b2.size
  have hbx2 : Box2 w.heap.size (.int .i64 0) (.slice none 0 0) w2 := ⟨b2.cell hbx.1, b2.cell hbx.2.1, (b2.below.frozen (p := ⟨w.heap.size, 0, none⟩) (by show w.heap.size < _; omega)).trans hbx.2.2.1, (b2.below.frozen (p := ⟨w.heap.size, 1, none⟩) (by show w.heap.size < _; omega)).trans hbx.2.2.2⟩
  have hE3 : Ext w2 (w2.alloc (.cells #[.int .i64 c, .slice a n cap] 26)) := Ext.alloc _ _
  obtain ⟨x0, x1, -, -⟩ := Box2.new w2 (.int .i64 c) (.slice a n cap) 26
  have k0 : (w2.alloc (.cells #[.int .i64 c, .slice a n cap] 26)).cell? ⟨w.heap.size, 0, none⟩ = some (.int .i64 0) := hE3.cell hbx2.1
  have k1 : (w2.alloc (.cells #[.int .i64 c, .slice a n cap] 26)).cell? ⟨w.heap.size, 1, none⟩ = some (.slice none 0 0) := hE3.cell hbx2.2.1
  have k2 : (w2.alloc (.cells #[.int .i64 c, .slice a n cap] 26)).frozen? ⟨w.heap.size, 0, none⟩ = false := (hE3.below.frozen (p := ⟨w.heap.size, 0, none⟩) (by show w.heap.size < _; omega)).trans hbx2.2.2.1
  have k3 : (w2.alloc (.cells #[.int .i64 c, .slice a n cap] 26)).frozen? ⟨w.heap.size, 1, none⟩ = false := (hE3.below.frozen (p := ⟨w.heap.size, 1, none⟩) (by show w.heap.size < _; omega)).trans hbx2.2.2.2
  have hR3 := Lib.hid (stable_rows.ext hrows hE3)
  have hI3 := Lib.hid (stable_ints.ext hints hE3)
  have hbel : Hid (Below w.heap.size w (w2.alloc (.cells #[.int .i64 c, .slice a n cap] 26))) := ((hb0.trans b2).trans hE3).below
  clear hrows hints hbx2 hbx hE3 b2 hb0
  generalize hw3 : w2.alloc (.cells #[.int .i64 c, .slice a n cap] 26) = w3 at *
  go_wp2_with fail
  try rw [hw3]
  clear hw3
  exact bodyPost_ret (v := .tuple #[.agg #[.int .i64 c, .slice a n cap], .int .i64 f, .int .i64 t, .slice a2 n2 cap2]) (by simp [results, Try.results36, go_sem, k0, k1]) rfl ⟨_, rfl, ⟨c, _, ds, f, t, _, l, _, _, rfl, hc, hf, ht, set2_keep stable_rows hR3.out (fun h => by have := h.1; omega) _ _, set2_keep stable_ints hI3.out (fun h => by have := h.1; omega) _ _, by omega, by omega⟩, (hbel.out.setCell (p := ⟨w.heap.size, 0, none⟩) (Nat.le_refl _) _).setCell (p := ⟨w.heap.size, 1, none⟩) (Nat.le_refl _) _⟩
end Go.Proofs.Ytbkijealdjghgaa
