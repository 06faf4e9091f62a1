/- Proved: DrawIsBarrier gives some rooms, two rooms' numbers and some doors. -/
import Derived.Test.YtbkijealdjghgaaChecked
import Derived.Test.YtbkijealdjghgaaUDrawRoutes
import Derived.Test.YtbkijealdjghgaaUPkA
namespace Go.Proofs.Ytbkijealdjghgaa
open Go.ChangeShapes Go.WideShapes Go.ChangeAt Go.RowKit
set_option linter.unusedVariables false

set_option maxRecDepth 20000 in
set_option maxHeartbeats 2000000 in
theorem DrawIsBarrier_c (w : World) (v : Value) (z : Zone) (xs : List Int) (h : BytesR z w v xs) :
    Calls Try.prog 9 #[v] w (Ret w fun r w' => CountDrawn w.heap.size r w') := by
  have hb0 : Ext w (w.alloc (.cells #[.int .i64 0, .slice none 0 0] 26)) := Ext.alloc _ _
  have hbx := Box2.new w (.int .i64 0) (.slice none 0 0) 26
  have hcall := l01From_c _ v z xs (stable_bytes.ext h hb0)
  have hs0 : (w.alloc (.cells #[.int .i64 0, .slice none 0 0] 26)).heap.size = w.heap.size + 1 := by simp
  have hby := stable_bytes.ext h hb0
  clear h
  go_enter Try.func9, Try.ntmps9
  go_wp2_with fail
  generalize w.alloc (.cells #[.int .i64 0, .slice none 0 0] 26) = w0 at *
  refine Calls.mono hcall ?_
  rintro e w1 hr
  obtain ⟨_, rfl, ⟨g, hg, rfl, hs⟩, b1⟩ := ret_ext hr
  clear hr hcall
  have hcall := DrawCountRoutes_c w1 v z xs (stable_bytes.ext hby b1)
  have hlt := hs.lt
  have hsz1 := b1.size
  have hbx1 : Box2 w.heap.size (.int .i64 0) (.slice none 0 0) w1 := ⟨b1.cell hbx.1, b1.cell hbx.2.1, (b1.below.frozen (p := ⟨w.heap.size, 0, none⟩) (by show w.heap.size < _; omega)).trans hbx.2.2.1, (b1.below.frozen (p := ⟨w.heap.size, 1, none⟩) (by show w.heap.size < _; omega)).trans hbx.2.2.2⟩
  have HR : Hid (∀ w', Dr g w1 w' → Box2 w.heap.size (.int .i64 0) (.slice none 0 0) w') := fun w' hd => hbx1.dr hd (by omega)
  have HB := Lib.hid (hb0.trans b1)
  have hr1 := Dr.refl hs
  clear hbx hbx1 hs b1 hb0 hby
  go_wp2_with fail
  refine Calls.mono hcall ?_
  rintro e w2 hr
  obtain ⟨_, rfl, ⟨c, u, ds, f, t, v2, l, z1, z2, rfl, hc, hf, ht, hrows, hints, hz1, hz2, hl13⟩, b2⟩ := ret_ext hr
  clear hr hcall
  have hd2 : Dr g w1 w2 := hr1.below b2.below
  obtain ⟨a, n, cap, rfl, hn, -⟩ := SliceR.shape hrows
  have hn13 : n ≤ 13 := by omega
  obtain ⟨a2, n2, cap2, rfl, hn2, -⟩ := SliceR.shape hints
  clear hn hn2
  have hsz2 := hd2.size
  have hxx := Box2.new w2 (.int .i64 c) (.slice a n cap) 26
  have hr2 : Dr g w2 (w2.alloc (.cells #[.int .i64 c, .slice a n cap] 26)) := (Dr.refl hd2.src).alloc _
  have HX : Hid (∀ w', Dr g (w2.alloc (.cells #[.int .i64 c, .slice a n cap] 26)) w' → Box2 w2.heap.size (.int .i64 c) (.slice a n cap) w') := fun w' hd => hxx.dr hd (by omega)
  have hszx : (w2.alloc (.cells #[.int .i64 c, .slice a n cap] 26)).heap.size = w2.heap.size + 1 := by simp
  have HRows : Hid (∀ w', Dr g w2 w' → RowsR z1 w' (.slice a n cap) ds) := fun w' hd => stable_rows.dr hrows hd (.inl (by omega))
  have HInts : Hid (∀ w', Dr g w2 w' → IntsR z2 w' (.slice a2 n2 cap2) l) := fun w' hd => stable_ints.dr hints hd (.inl (by omega))
  clear hrows hints hxx
  go_wp2_with fail
  generalize w2.alloc (.cells #[.int .i64 c, .slice a n cap] 26) = wx at *
  have hrx : Dr g wx wx := Dr.refl hr2.src
  have oi : OwnP (Value.int .i64) 2 wx.heap.size (wx.alloc (.cells #[] 2)) (.slice (some ⟨wx.heap.size, 0, none⟩) 0 0) [] := OwnP.empty (Nat.le_refl _)
  have di : Dr g wx (wx.alloc (.cells #[] 2)) := hrx.alloc _
  generalize hwi : wx.alloc (.cells #[] 2) = wi at *
  clear hwi
  have hgr : g < wx.heap.size := by omega
  have HRb := Lib.hid (fun (W : World) (hd : Dr g wx W) => HR.out W ((hd2.trans hr2).trans hd))
  have HFin : Hid (∀ w' v' l' z', Dr g wx w' → IntsR z' w' v' l' → w.heap.size + 1 ≤ z'.lo → CountDrawn w.heap.size (.tuple #[.agg #[.int .i64 c, .slice a n cap], .int .i64 f, .int .i64 t, v']) ((w'.setCell ⟨w.heap.size, 0, none⟩ (.int .i64 c)).setCell ⟨w.heap.size, 1, none⟩ (.slice a n cap)) ∧ Below w.heap.size w ((w'.setCell ⟨w.heap.size, 0, none⟩ (.int .i64 c)).setCell ⟨w.heap.size, 1, none⟩ (.slice a n cap))) := fun w' v' l' z' hd hi hz => by
    have hbel : Below w.heap.size w w' := HB.out.below.trans (((hd2.trans hr2).trans hd).below'.mono (by omega))
    exact ⟨⟨c, _, ds, f, t, v', l', z1, z', rfl, hc, hf, ht, set2_keep stable_rows (HRows.out _ (hr2.trans hd)) (fun h => by have := h.1; omega) _ _, set2_keep stable_ints hi (fun h => by have := h.1; omega) _ _, by omega, by omega, hl13⟩, (hbel.setCell (p := ⟨w.heap.size, 0, none⟩) (Nat.le_refl _) _).setCell (p := ⟨w.heap.size, 1, none⟩) (Nat.le_refl _) _⟩
  have HIx : Hid (∀ w', Dr g wx w' → IntsR z2 w' (.slice a2 n2 cap2) l) := fun w' hd => HInts.out _ (hr2.trans hd)
  clear HRows HB hd2 HR HInts hr2
  go_loopw [11, 12] (fun s5 s6 ww => ∃ (m : Nat) (l : List Int), s6 = .int .i64 m ∧ m ≤ n ∧ l.length ≤ m ∧ OwnP (Value.int .i64) 2 wx.heap.size ww s5 l ∧ (∀ y ∈ l, I64 y) ∧ Dr g wx ww) (fun _ s6 _ => n - (intOf s6).toNat)
  case atStart => exact ⟨0, [], rfl, by omega, by simp, by rw [← hszx]; exact oi, by simp, di⟩
  case round =>
    obtain ⟨m, l', rfl, hml, hlm, ho, hy, hdx⟩ := hrel
    clear oi di
    have hszr := hdx.size
    obtain ⟨x0, x1, -, -⟩ := HX.out wr hdx
    by_cases hmn : m < n
    · have hcall := Has_c wr _ _ l (m : Int) (HIx.out wr hdx) (by unfold I64; omega)
      generalize has l (m : Int) = q at *
      go_wp2_with fail
      refine Calls.mono hcall ?_
      rintro e w4 ⟨rfl, hd4⟩
      clear hcall
      have hdd : Dr g wr w4 := by obtain ⟨k, rfl⟩ := hd4; exact (Dr.refl hdx.src).drewN k
      have hd5 := hdx.trans hdd
      replace ho := ho.dr hdd hgr
      have hs4 := hdd.size
      have Hy := Lib.hid hy
      clear hd4 hdx hy hdd x0 x1
      cases q with
      | false =>
        go_wp2_with (at_builtin; (refine wpList_drawInt (g := g) (w0 := wx) rfl _ _ 29 rfl Try.underlying29 Try.infoI64 rfl ho (m : Int) rfl (by omega) hd5 (Nat.le_refl _) (by omega) ?_); intro v6 w6 hown6 hd6 hs6)
        go_wp2_with fail
        exact ⟨⟨m + 1, l' ++ [(m : Int)], by go_num, by omega, by simp; omega, hown6, ints_snoc Hy.out (by unfold I64; omega), hd6⟩, by simp [intOf]; omega⟩
      | true =>
        go_wp2_with fail
        exact ⟨⟨m + 1, l', by go_num, by omega, by omega, ho, Hy.out, hd5⟩, by simp [intOf]; omega⟩
    · have hcall := l01Next_c _ g hdx.src 4 (by unfold I64; omega)
      go_wp2_with fail
      refine Calls.mono hcall ?_
      rintro e w4 ⟨_, rfl, ⟨x4, rfl, hx0, -⟩, hd4⟩
      clear hcall
      replace ho := ho.dr hd4 hgr
      have hd5 := hdx.trans hd4
      have hs4 := hd4.size
      have Hy := Lib.hid hy
      obtain ⟨k1, k2, k3, k4⟩ := HRb.out w4 hd5
      obtain ⟨x0, x1, -, -⟩ := HX.out w4 hd5
      clear hd4 hdx hy
      by_cases hx4 : x4 = 0
      · subst hx4
        go_wp2_with fail
        exact bodyPost_ret (v := .tuple #[.agg #[.int .i64 c, .slice a n cap], .int .i64 f, .int .i64 t, .slice a2 n2 cap2]) (by simp [results, Try.results9, go_sem, k1, k2]) rfl ⟨_, rfl, HFin.out _ _ _ _ hd5 (HIx.out w4 hd5) (by omega)⟩
      · have hb : (x4 == 0) = false := by simpa using hx4
        go_wp2_with fail
        exact bodyPost_ret (v := .tuple #[.agg #[.int .i64 c, .slice a n cap], .int .i64 f, .int .i64 t, u11]) (by simp [results, Try.results9, go_sem, k1, k2]) rfl ⟨_, rfl, HFin.out _ _ _ _ hd5 (OwnP.ints ho Hy.out (Nat.le_refl _)) (by show _ ≤ wx.heap.size; omega)⟩
end Go.Proofs.Ytbkijealdjghgaa
