/- Proved: DrawRoomsBehind gives some rooms, a room's number and a door's number. -/
import Derived.Test.YtbkijealdjghgaaChecked
import Derived.Test.YtbkijealdjghgaaUDrawPlan
import Derived.Test.YtbkijealdjghgaaUDrawRoutes
namespace Go.Proofs.Ytbkijealdjghgaa
open Go.ChangeShapes Go.WideShapes Go.ChangeAt Go.RowKit
set_option linter.unusedVariables false

def BehindDrawn (B : Nat) (r : Value) (w' : World) : Prop := ∃ (c : Int) (u : Value) (ds : List (List Int)) (f d : Int) (z : Zone), r = .tuple #[.agg #[.int .i64 c, u], .int .i64 f, .int .i64 d] ∧ I64 c ∧ I64 f ∧ I64 d ∧ RowsR z w' u ds ∧ B ≤ z.lo

set_option maxRecDepth 20000 in
set_option maxHeartbeats 2000000 in
theorem DrawRoomsBehind_c (w : World) (v : Value) (z : Zone) (xs : List Int) (h : BytesR z w v xs) :
    Calls Try.prog 6 #[v] w (Ret w fun r w' => BehindDrawn w.heap.size r w') := by
  have hb0 : Ext w (w.alloc (.cells #[.int .i64 0, .slice none 0 0] 26)) := Ext.alloc _ _
  have hbx := Box2.new w (.int .i64 0) (.slice none 0 0) 26
  have hcall := l01From_c _ v z xs (stable_bytes.ext h hb0)
  have hs0 : (w.alloc (.cells #[.int .i64 0, .slice none 0 0] 26)).heap.size = w.heap.size + 1 := by simp
  clear h
  go_enter Try.func6, Try.ntmps6
  go_wp2_with fail
  generalize w.alloc (.cells #[.int .i64 0, .slice none 0 0] 26) = w0 at *
  refine Calls.mono hcall ?_
  rintro e w1 hr
  obtain ⟨_, rfl, ⟨g, hg, rfl, hs⟩, b1⟩ := ret_ext hr
  clear hr hcall
  have hcall := l25Draw_c w1 g hs
  have hlt := hs.lt
  have hsz1 := b1.size
  have hbx1 : Box2 w.heap.size (.int .i64 0) (.slice none 0 0) w1 := ⟨b1.cell hbx.1, b1.cell hbx.2.1, (b1.below.frozen (p := ⟨w.heap.size, 0, none⟩) (by show w.heap.size < _; omega)).trans hbx.2.2.1, (b1.below.frozen (p := ⟨w.heap.size, 1, none⟩) (by show w.heap.size < _; omega)).trans hbx.2.2.2⟩
  have HR : Hid (∀ w', Dr g w1 w' → Box2 w.heap.size (.int .i64 0) (.slice none 0 0) w') := fun w' hd => hbx1.dr hd (by omega)
  have HB := Lib.hid (hb0.trans b1)
  clear hbx hbx1 hs b1 hb0
  go_wp2_with fail
  refine Calls.mono hcall ?_
  rintro e w2 ⟨_, rfl, ⟨c, u, ds, rfl, hc, hdl, hrows⟩, hd2⟩
  clear hcall
  obtain ⟨a, n, cap, rfl, hn, -⟩ := SliceR.shape hrows
  have hn13 : n ≤ 13 := by omega
  clear hn hdl
  have hsz2 := hd2.size
  have hxx := Box2.new w2 (.int .i64 c) (.slice a n cap) 26
  have hr2 : Dr g w2 (w2.alloc (.cells #[.int .i64 c, .slice a n cap] 26)) := (Dr.refl hd2.src).alloc _
  have HX : Hid (∀ w', Dr g (w2.alloc (.cells #[.int .i64 c, .slice a n cap] 26)) w' → Box2 w2.heap.size (.int .i64 c) (.slice a n cap) w') := fun w' hd => hxx.dr hd (by omega)
  obtain ⟨x0, x1, -, -⟩ := hxx
  have hcall := l25DrawRoom_c _ g hr2.src c (.slice a n cap)
  have HRows : Hid (∀ w', Dr g w2 w' → RowsR ⟨w1.heap.size, w2.heap.size, false⟩ w' (.slice a n cap) ds) := fun w' hd => stable_rows.dr hrows hd (.inl hlt)
  clear hrows
  go_wp2_with fail
  generalize w2.alloc (.cells #[.int .i64 c, .slice a n cap] 26) = wx at *
  refine Calls.mono hcall ?_
  rintro e w3 ⟨_, rfl, ⟨f, rfl, hf⟩, hd3⟩
  clear hcall x0 x1
  have hr3 : Dr g w3 w3 := Dr.refl hd3.src
  have hsz3 := hd3.size
  have hszx := hr2.size
  have HK : Hid (∀ w', Dr g w3 w' → w'.cell? ⟨w2.heap.size, 0, none⟩ = some (.int .i64 c) ∧ w'.cell? ⟨w2.heap.size, 1, none⟩ = some (.slice a n cap)) := fun w' hd => by
    obtain ⟨p1, p2, -, -⟩ := HX.out _ (hd3.trans hd)
    exact ⟨p1, p2⟩
  have HK2 : Hid (∀ w' s t, Dr g w3 w' → ((w'.setCell ⟨w.heap.size, 0, none⟩ s).setCell ⟨w.heap.size, 1, none⟩ t).cell? ⟨w2.heap.size, 0, none⟩ = some (.int .i64 c) ∧ ((w'.setCell ⟨w.heap.size, 0, none⟩ s).setCell ⟨w.heap.size, 1, none⟩ t).cell? ⟨w2.heap.size, 1, none⟩ = some (.slice a n cap)) := fun w' s t hd => by
    obtain ⟨p1, p2, -, -⟩ := HX.out _ (hd3.trans hd)
    constructor
    · rw [World.cell?_setCell_other _ _ _ _ (by intro e; injection e with e _ _; omega), World.cell?_setCell_other _ _ _ _ (by intro e; injection e with e _ _; omega)]; exact p1
    · rw [World.cell?_setCell_other _ _ _ _ (by intro e; injection e with e _ _; omega), World.cell?_setCell_other _ _ _ _ (by intro e; injection e with e _ _; omega)]; exact p2
  have HP := Lib.hid (fun (W : World) (hd : Dr g w3 W) => l01Next_c W g hd.src (IntKind.i64.wrap ((n : Int) + 1)) (wrapI _))
  have HQ := Lib.hid (fun (W : World) (hd : Dr g w3 W) => l01Next_c W g hd.src 24 (by unfold I64; omega))
  have HRb := Lib.hid (fun (W : World) (hd : Dr g w3 W) => HR.out W (((hd2.trans hr2).trans hd3).trans hd))
  go_wp2_with fail
  go_region_held3 (fun w' => w'.cell? ⟨w2.heap.size, 0, none⟩ = some (.int .i64 c) ∧ w'.cell? ⟨w2.heap.size, 1, none⟩ = some (.slice a n cap)) (first | ((with_reducible refine HK2.out _ _ _ ?_); exact (by (repeat (first | assumption | (refine Dr.drew ?_) | (refine Dr.alloc ?_ _) | (refine Dr.trans ?_ (by assumption)))); done)) | (refine HK.out _ ?_; exact (by (repeat (first | assumption | (refine Dr.drew ?_) | (refine Dr.alloc ?_ _) | (refine Dr.trans ?_ (by assumption)))); done))) (first | (go_at_call 27; (with_reducible refine Calls.mono (HQ.out _ ?_) ?_); exact (by (repeat (first | assumption | (refine Dr.drew ?_) | (refine Dr.alloc ?_ _) | (refine Dr.trans ?_ (by assumption)))); done); rintro e w9 ⟨_, rfl, ⟨q, rfl, hq0, hq1⟩, hd9⟩; (have hq9 : Dr g w3 w9 := Dr.trans hq8 hd9); obtain ⟨k1, k2, k3, k4⟩ := HRb.out w9 hq9) | (go_at_call 27; (with_reducible refine Calls.mono (HP.out _ ?_) ?_); exact (by (repeat (first | assumption | (refine Dr.drew ?_) | (refine Dr.alloc ?_ _) | (refine Dr.trans ?_ (by assumption)))); done); rintro e w8 ⟨_, rfl, ⟨p, rfl, hp0, hp1⟩, hd8⟩; (have hq8 : Dr g w3 w8 := Dr.trans (Dr.drew hr3) hd8)))
  all_goals (have hR9 := HRows.out w9 ((hr2.trans hd3).trans hq9))
  all_goals (have hsz9 := hq9.size)
  all_goals (clear HK HK2 HP HQ HRb HX HR)
  all_goals (go_wp2_with fail)
  all_goals (have hbel : Below w.heap.size w w9 := HB.out.below.trans (((hd2.trans (hr2.trans hd3)).trans hq9).below'.mono (by omega)))
  all_goals (exact bodyPost_ret (v := .tuple #[.agg #[.int .i64 c, .slice a n cap], .int .i64 f, .int .i64 (IntKind.i64.wrap (p - IntKind.i64.wrap (q.tdiv 23)))]) (by simp [results, Try.results6, go_sem, k1, k2]) rfl ⟨_, rfl, ⟨c, _, ds, f, _, _, rfl, hc, hf, wrapI _, set2_keep stable_rows hR9 (fun h => by have := h.1; simp only at this; omega) _ _, by show w.heap.size ≤ w1.heap.size; omega⟩, (hbel.setCell (p := ⟨w.heap.size, 0, none⟩) (Nat.le_refl _) _).setCell (p := ⟨w.heap.size, 1, none⟩) (Nat.le_refl _) _⟩)
end Go.Proofs.Ytbkijealdjghgaa
