/- Proved: DrawOpenFor gives some table and some keys. -/
import Derived.Test.YtbkijealdjghgaaChecked
import Derived.Test.YtbkijealdjghgaaUDrawTab
import Derived.Test.YtbkijealdjghgaaUDrawPlan
namespace Go.Proofs.Ytbkijealdjghgaa
open Go.ChangeShapes Go.WideShapes Go.ChangeAt Go.RowKit
set_option linter.unusedVariables false

def OpenDrawn (B : Nat) (r : Value) (w' : World) : Prop := ∃ (u : Value) (t : List (List Int)) (v : Value) (ks : List Int) (z y : Zone), r = .tuple #[u, v] ∧ RowsR z w' u t ∧ IntsR y w' v ks ∧ B ≤ z.lo ∧ B ≤ y.lo

set_option maxRecDepth 20000 in
set_option maxHeartbeats 2000000 in
theorem DrawOpenFor_c (w : World) (v : Value) (z : Zone) (xs : List Int) (h : BytesR z w v xs) :
    Calls Try.prog 12 #[v] w (Ret w fun r w' => OpenDrawn w.heap.size r w') := by
  have hcall := l01From_c _ v z xs h
  clear h
  go_enter Try.func12, Try.ntmps12
  go_wp2_with fail
  refine Calls.mono hcall ?_
  rintro e w1 hr
  obtain ⟨_, rfl, ⟨g, hg, rfl, hs⟩, b1⟩ := ret_ext hr
  clear hr hcall
  have hcall := l11Draw_c w1 g hs
  have hlt := hs.lt
  have hsz1 := b1.size
  have HB := Lib.hid b1
  clear hs b1
  go_wp2_with fail
  refine Calls.mono hcall ?_
  rintro e w2 ⟨_, rfl, ⟨t, hrows, ht14, -⟩, hd2⟩
  clear hcall
  obtain ⟨a, n, cap, rfl, hn, -⟩ := SliceR.shape hrows
  have hn' : n ≤ 14 := by omega
  have hsz2 := hd2.size
  have HRows : Hid (∀ w', Dr g w2 w' → RowsR ⟨w1.heap.size, w2.heap.size, false⟩ w' (.slice a n cap) t) := fun w' hd => stable_rows.dr hrows hd (.inl hlt)
  clear hrows hn ht14
  go_wp2_with fail
  have hr2 : Dr g w2 w2 := Dr.refl hd2.src
  have oi : OwnP (Value.int .i64) 2 w2.heap.size (w2.alloc (.cells #[] 2)) (.slice (some ⟨w2.heap.size, 0, none⟩) 0 0) [] := OwnP.empty (Nat.le_refl _)
  have di : Dr g w2 (w2.alloc (.cells #[] 2)) := hr2.alloc _
  generalize hwi : w2.alloc (.cells #[] 2) = wi at *
  clear hwi
  have hgr : g < w2.heap.size := by omega
  have HD2 := Lib.hid hd2
  have HFin : Hid (∀ w' v' l, Dr g w2 w' → OwnP (Value.int .i64) 2 w2.heap.size w' v' l → (∀ y ∈ l, I64 y) → OpenDrawn w.heap.size (.tuple #[.slice a n cap, v']) w' ∧ Below w.heap.size w w') := fun w' v' l hd ho hy =>
    ⟨⟨_, t, v', l, _, _, rfl, HRows.out w' hd, OwnP.ints ho hy (Nat.le_refl _), by show w.heap.size ≤ w1.heap.size; omega, by show w.heap.size ≤ w2.heap.size; omega⟩, HB.out.below.trans ((HD2.out.trans hd).below'.mono (by omega))⟩
  clear HRows HB hd2
  go_loopw [6, 7] (fun s5 s6 wx => ∃ (m : Nat) (l : List Int), s6 = .int .i64 m ∧ m ≤ n ∧ l.length ≤ m ∧ OwnP (Value.int .i64) 2 w2.heap.size wx s5 l ∧ (∀ y ∈ l, I64 y) ∧ Dr g w2 wx) (fun _ s6 _ => n - (intOf s6).toNat)
  case atStart => exact ⟨0, [], rfl, by omega, by simp, oi, by simp, di⟩
  case round =>
    obtain ⟨m, l, rfl, hm, hlm, ho, hy, hdx⟩ := hrel
    clear oi di
    have hszr := hdx.size
    by_cases hmn : m < n
    · have hcall := l01Next_c _ g hdx.src 2 (by unfold I64; omega)
      go_wp2_with fail
      refine Calls.mono hcall ?_
      rintro e w4 ⟨_, rfl, ⟨x4, rfl, hx0, -⟩, hd4⟩
      clear hcall
      replace ho := ho.dr hd4 hgr
      have hd5 := hdx.trans hd4
      have hs4 := hd4.size
      have Hy := Lib.hid hy
      clear hd4 hdx hy
      by_cases hx4 : x4 = 0
      · subst hx4
        go_wp2_with (at_builtin; (refine wpList_drawInt (g := g) (w0 := w2) rfl _ _ 29 rfl Try.underlying29 Try.infoI64 rfl ho (m : Int) rfl (by omega) hd5 (Nat.le_refl _) (by omega) ?_); intro v6 w6 hown6 hd6 hs6)
        go_wp2_with fail
        exact ⟨⟨m + 1, l ++ [(m : Int)], by go_num, by omega, by simp; omega, hown6, ints_snoc Hy.out (by unfold I64; omega), hd6⟩, by simp [intOf]; omega⟩
      · have hb : (x4 == 0) = false := by simpa using hx4
        go_wp2_with fail
        exact ⟨⟨m + 1, l, by go_num, by omega, by omega, ho, Hy.out, hd5⟩, by simp [intOf]; omega⟩
    · have hcall := l01Next_c _ g hdx.src 20 (by unfold I64; omega)
      go_wp2_with fail
      refine Calls.mono hcall ?_
      rintro e w4 ⟨_, rfl, ⟨x4, rfl, hx0, -⟩, hd4⟩
      clear hcall
      replace ho := ho.dr hd4 hgr
      have hd5 := hdx.trans hd4
      have hs4 := hd4.size
      have Hy := Lib.hid hy
      clear hd4 hdx hy
      by_cases hx4 : x4 = 0
      · subst hx4
        go_wp2_with (at_builtin; (refine wpList_drawInt (g := g) (w0 := w2) rfl _ _ 29 rfl Try.underlying29 Try.infoI64 rfl ho 0 rfl (by omega) hd5 (Nat.le_refl _) (by omega) ?_); intro v6 w6 hown6 hd6 hs6)
        go_wp2_with fail
        exact bodyPost_ret (v := .tuple #[.slice a n cap, v6]) (by simp [results, Try.results12, go_sem]) rfl ⟨_, rfl, HFin.out _ _ _ hd6 hown6 (ints_snoc Hy.out (by unfold I64; omega))⟩
      · have hb : (x4 == 0) = false := by simpa using hx4
        go_wp2_with fail
        exact bodyPost_ret (v := .tuple #[.slice a n cap, u6]) (by simp [results, Try.results12, go_sem]) rfl ⟨_, rfl, HFin.out _ _ _ hd5 ho Hy.out⟩
end Go.Proofs.Ytbkijealdjghgaa
