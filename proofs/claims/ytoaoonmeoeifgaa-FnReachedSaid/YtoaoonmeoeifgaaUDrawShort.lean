/- Proved: DrawShortRoute gives some rooms, rooms' numbers, doors. -/
import Derived.Test.YtoaoonmeoeifgaaChecked
import Derived.Test.YtoaoonmeoeifgaaUDrawRoutes
namespace Go.Proofs.Ytoaoonmeoeifgaa
open Go.ChangeShapes Go.WideShapes Go.ChangeAt Go.RowKit
set_option linter.unusedVariables false

set_option maxRecDepth 20000 in
set_option maxHeartbeats 2000000 in
theorem DrawShortRoute_c (w : World) (v : Value) (z : Zone) (xs : List Int) (h : BytesR z w v xs) :
    Calls Try.prog 49 #[v] w (Ret w fun r w' => CountDrawn w.heap.size r w') := by
  have hb0 : Ext w (w.alloc (.cells #[.int .i64 0, .slice none 0 0] 40)) := Ext.alloc _ _
  have hbx := Box2.new w (.int .i64 0) (.slice none 0 0) 40
  have hcall := DrawCountRoutes_c _ v z xs (stable_bytes.ext h hb0)
  have hs0 : (w.alloc (.cells #[.int .i64 0, .slice none 0 0] 40)).heap.size = w.heap.size + 1 := by simp
  clear h
  go_enter Try.func49, Try.ntmps49
  go_wp2_with fail
  generalize w.alloc (.cells #[.int .i64 0, .slice none 0 0] 40) = w0 at *
  refine Calls.mono hcall ?_
  rintro e w2 hr
  obtain ⟨_, rfl, ⟨c, u, ds, f, t, v2, l, z1, z2, rfl, hc, hf, ht, hrows, hints, hz1, hz2⟩, b2⟩ := ret_ext hr
  clear hr hcall
  obtain ⟨a, n, cap, rfl, hn, -⟩ := SliceR.shape hrows
  obtain ⟨a2, n2, cap2, rfl, hn2, -⟩ := SliceR.shape hints
  clear hn hn2
  have hsz2 := b2.size
  have k0 : w2.cell? ⟨w.heap.size, 0, none⟩ = some (.int .i64 0) := b2.cell hbx.1
  have k1 : w2.cell? ⟨w.heap.size, 1, none⟩ = some (.slice none 0 0) := b2.cell hbx.2.1
  have k2 : w2.frozen? ⟨w.heap.size, 0, none⟩ = false := (b2.below.frozen (p := ⟨w.heap.size, 0, none⟩) (by show w.heap.size < _; omega)).trans hbx.2.2.1
  have k3 : w2.frozen? ⟨w.heap.size, 1, none⟩ = false := (b2.below.frozen (p := ⟨w.heap.size, 1, none⟩) (by show w.heap.size < _; omega)).trans hbx.2.2.2
  have hR3 := Lib.hid hrows
  have hI3 := Lib.hid hints
  have hbel : Hid (Below w.heap.size w w2) := (hb0.trans b2).below
  clear hrows hints hbx b2 hb0
  go_wp2_with fail
  exact bodyPost_ret (v := .tuple #[.agg #[.int .i64 c, .slice a n cap], .int .i64 f, .int .i64 t, .slice a2 n2 cap2]) (by simp [results, Try.results49, go_sem, k0, k1]) rfl ⟨_, rfl, ⟨c, _, ds, f, t, _, l, _, _, rfl, hc, hf, ht, set2_keep stable_rows hR3.out (fun h => by have := h.1; omega) _ _, set2_keep stable_ints hI3.out (fun h => by have := h.1; omega) _ _, by omega, by omega⟩, (hbel.out.setCell (p := ⟨w.heap.size, 0, none⟩) (Nat.le_refl _) _).setCell (p := ⟨w.heap.size, 1, none⟩) (Nat.le_refl _) _⟩
end Go.Proofs.Ytoaoonmeoeifgaa
