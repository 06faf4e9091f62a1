/- Proved: the draws of rooms: l25Valid, l25Draw, l25DrawRoom, l25DrawOpen. -/
import Derived.Test.YtbkijealdjghgaaChecked
import Derived.Test.YtbkijealdjghgaaUDrawRows
import Derived.Test.YtbkijealdjghgaaURooms
namespace Go.Proofs.Ytbkijealdjghgaa
open Go.ChangeShapes Go.WideShapes Go.ChangeAt Go.RowKit
set_option linter.unusedVariables false

def Valid25 (w : World) (r : Value) (w' : World) : Prop := ∃ (n : Nat) (u : Value) (ds : List (List Int)), r = .agg #[.int .i64 n, u] ∧ 2 ≤ n ∧ n ≤ 6 ∧ OwnR false w.heap.size IntsR 29 w.heap.size w' u ds ∧ 1 ≤ ds.length ∧ ds.length ≤ 8

set_option maxRecDepth 20000 in
set_option maxHeartbeats 2000000 in
theorem l25Valid_c (w : World) (g : Nat) (h : Src g w) : Calls Try.prog 54 #[.pointer (some ⟨g, 0, none⟩)] w (DrawR g w (Valid25 w)) := by
  have hlt := h.lt
  have hd0 := (Dr.refl h).alloc (.cells #[.int .i64 0, .slice none 0 0] 26)
  have hbx := Box2.new w (.int .i64 0) (.slice none 0 0) 26
  have hcall := l01Next_c _ g hd0.src 5 (by unfold I64; omega)
  have hsz0 : (w.alloc (.cells #[.int .i64 0, .slice none 0 0] 26)).heap.size = w.heap.size + 1 := by simp
  clear h
  go_enter Try.func54, Try.ntmps54
  go_wp2_with fail
  generalize w.alloc (.cells #[.int .i64 0, .slice none 0 0] 26) = w0 at *
  refine Calls.mono hcall ?_
  rintro e w1 ⟨_, rfl, ⟨x, rfl, hx0, hx1⟩, hd1⟩
  clear hcall
  have hbx1 := hbx.dr hd1 (by omega)
  have hd2 := hd0.trans hd1
  have hs1 : w.heap.size + 1 ≤ w1.heap.size := by have := hd1.size; omega
  have HB : Hid (∀ w', Dr g w1 w' → Box2 w.heap.size (.int .i64 0) (.slice none 0 0) w') := fun w' hd => hbx1.dr hd (by omega)
  clear hbx hbx1 hd1 hd0 hsz0
  go_wp2_with fail
  obtain ⟨n, hn⟩ : ∃ n : Nat, 2 + x = n := ⟨(2 + x).toNat, by omega⟩
  have hn7 : 2 ≤ n ∧ n ≤ 6 := by omega
  rw [hn]
  have hcall := l01Next_c _ g (hd2.alloc (.cells #[] 29)).src 8 (by unfold I64; omega)
  have o1 : OwnR false w1.heap.size IntsR 29 w1.heap.size (w1.alloc (.cells #[] 29)) (.slice (some ⟨w1.heap.size, 0, none⟩) 0 0) [] := OwnR.empty (Nat.le_refl _)
  have d1 : Dr g w1 (w1.alloc (.cells #[] 29)) := (Dr.refl hd2.src).alloc _
  generalize w1.alloc (.cells #[] 29) = w2 at *
  refine Calls.mono hcall ?_
  rintro e w3 ⟨_, rfl, ⟨k0, rfl, hk0, hk1⟩, hd3⟩
  clear hcall
  obtain ⟨k, hk⟩ : ∃ k : Nat, 1 + k0 = k := ⟨(1 + k0).toNat, by omega⟩
  have hk8 : 1 ≤ k ∧ k ≤ 8 := by omega
  have hlt1 : g < w1.heap.size := by omega
  replace o1 := OwnR.dr stable_ints o1 hd3 hlt1 hlt1
  replace d1 := d1.trans hd3
  have HD2 := Lib.hid hd2
  clear hk0 hk1 hn hx0 hx1 hd3 hd2
  go_wp2_with fail
  try rw [hk]
  clear hk
  go_loopw [4, 5, 6] (fun s4 s5 _ wr => ∃ (j : Nat) (xss : List (List Int)), s5 = .int .i64 j ∧ xss.length + j = k ∧ OwnR false w1.heap.size IntsR 29 w1.heap.size wr s4 xss ∧ Dr g w1 wr) (fun _ s5 _ _ => (intOf s5).toNat)
  case atStart => exact ⟨k, [], rfl, by simp, o1, d1⟩
  case round =>
    obtain ⟨j, xss, rfl, hjk, hown, hd⟩ := hrel
    obtain ⟨wo, rfl⟩ : ∃ wo, wo = wr := ⟨_, rfl⟩
    clear o1 d1
    by_cases hj : 0 < j
    · have hcall := l01Next_c _ g hd.src (n - 1) (by unfold I64; omega)
      go_wp2_with fail
      refine Calls.mono hcall ?_
      rintro e w4 ⟨_, rfl, ⟨a, rfl, ha0, ha1⟩, hd4⟩
      clear hcall
      have hd5 := hd.trans hd4
      replace hown := OwnR.dr stable_ints hown hd4 hlt1 hlt1
      clear hd4 hd
      have hcall := l01Next_c _ g hd5.src ((n : Int) - 1 - a) (by unfold I64; omega)
      go_wp2_with fail
      refine Calls.mono hcall ?_
      rintro e w6 ⟨_, rfl, ⟨b, rfl, hb0, hb1⟩, hd6⟩
      clear hcall
      have hd7 := hd5.trans hd6
      replace hown := OwnR.dr stable_ints hown hd6 hlt1 hlt1
      clear hd6 hd5
      have HV : Hid (∀ k, u4.ownBlock = some k → k < w6.heap.size) := fun k hk => (OwnA.block hown k hk).2
      have hs6 : w1.heap.size ≤ w6.heap.size := hd7.size
      have hown8 := OwnR.alloc stable_ints hown (.cells #[.int .i64 a, .int .i64 (a + 1 + b)] 2)
      have hd8 := hd7.alloc (.cells #[.int .i64 a, .int .i64 (a + 1 + b)] 2)
      have hu := OwnP.ints (OwnP.lit (f := Value.int .i64) (e := 2) (B := w6.heap.size) (Nat.le_refl _) [a, a + 1 + b] #[.int .i64 a, .int .i64 (a + 1 + b)] rfl (by simp [maxLen])) (by simp only [List.mem_cons, List.not_mem_nil, or_false]; unfold I64; omega) (Nat.le_refl _)
      have hxl : xss.length ≤ 1000000 := by omega
      go_wp2_with (at_builtin; (refine wpList_drawRow (v := u4) (g := g) (w0 := w1) stable_ints slRepr_slice rfl _ _ 24 rfl Try.underlying24 Try.infoInts rfl hown8 (some ⟨w6.heap.size, 0, none⟩, 2, 2) _ hu (by simp) rfl hxl hs6 (by simp) HV.out hd8 (Nat.le_refl _) ?_); intro v8 w8 hown9 hd9 hs9)
      go_wp2_with fail
      exact ⟨⟨j - 1, _, by go_num, by simp; omega, hown9, hd9⟩, by simp [intOf]; omega⟩
    · obtain rfl : j = 0 := by omega
      have hB := HB.out wo hd
      obtain ⟨q1, q2, q3, q4⟩ := hB
      have Hown := Lib.hid hown
      obtain ⟨a4, n4, c4, rfl, -⟩ := OwnA.shape hown
      clear hown
      go_wp2_with fail
      have hd' := HD2.out.trans hd
      refine bodyPost_ret (v := .agg #[.int .i64 n, .slice a4 n4 c4]) (by simp [results, Try.results54, go_sem, q1, q2]) rfl ⟨_, rfl, ⟨n, _, xss, rfl, hn7.1, hn7.2, ?_, by omega, by omega⟩, ?_⟩
      · exact OwnR.lower (OwnR.set_far stable_ints (OwnR.set_far stable_ints Hown.out (p := ⟨w.heap.size, 0, none⟩) (by show w.heap.size < _; omega) (by show w.heap.size < _; omega) _) (p := ⟨w.heap.size, 1, none⟩) (by show w.heap.size < _; omega) (by show w.heap.size < _; omega) _) (by omega) (by omega)
      · exact (hd'.put (p := ⟨w.heap.size, 0, none⟩) (Nat.le_refl _) _).put (p := ⟨w.heap.size, 1, none⟩) (Nat.le_refl _) _

theorem wrapI (x : Int) : I64 (IntKind.i64.wrap x) := by rw [IntKind.wrap_i64]; unfold I64; omega

set_option maxRecDepth 20000 in
set_option maxHeartbeats 2000000 in
theorem l25DrawRoom_c (w : World) (g : Nat) (h : Src g w) (c : Int) (v : Value) : Calls Try.prog 26 #[.pointer (some ⟨g, 0, none⟩), .agg #[.int .i64 c, v]] w (DrawR g w fun r _ => ∃ y, r = .int .i64 y ∧ I64 y) := by
  have hlt := h.lt
  have hd0 := (Dr.refl h).alloc (.cells #[.int .i64 c, v] 26)
  have hbx := Box2.new w (.int .i64 c) v 26
  have HB : Hid (∀ w', Dr g (w.alloc (.cells #[.int .i64 c, v] 26)) w' → w'.cell? ⟨w.heap.size, 0, none⟩ = some (.int .i64 c)) := fun w' hd => (hbx.dr hd (by omega)).1
  have HN : Hid (∀ w' n, Dr g (w.alloc (.cells #[.int .i64 c, v] 26)) w' → I64 n → Calls Try.prog 27 #[.pointer (some ⟨g, 0, none⟩), .int .i64 n] w' (DrawR g w' (Num n))) := fun w' n hd hn => l01Next_c w' g hd.src n hn
  have hr0 : Dr g (w.alloc (.cells #[.int .i64 c, v] 26)) (w.alloc (.cells #[.int .i64 c, v] 26)) := Dr.refl hd0.src
  clear h hbx
  go_enter Try.func26, Try.ntmps26
  go_wp2_with fail
  generalize hw0 : w.alloc (.cells #[.int .i64 c, v] 26) = w0 at *
  clear hw0
  go_region_held3 (fun w' => w'.cell? ⟨w.heap.size, 0, none⟩ = some (.int .i64 c)) (exact HB.out _ (by (repeat (first | assumption | (refine Dr.drew ?_) | (refine Dr.alloc ?_ _) | (refine Dr.trans ?_ (by assumption)))); done)) (first | (go_at_call 27; (with_reducible refine (HN.out _ _ (by (repeat (first | assumption | (refine Dr.drew ?_) | (refine Dr.alloc ?_ _) | (refine Dr.trans ?_ (by assumption)))); done) (by first | exact wrapI _ | (unfold I64; omega))).mono ?_); rintro e w7 ⟨_, rfl, ⟨y, rfl, hy0, hy1⟩, hd7⟩))
  go_wp2_with fail
  go_ret
  exact ⟨_, rfl, ⟨_, rfl, wrapI _⟩, hd0.trans (by (repeat (first | assumption | (refine Dr.drew ?_) | (refine Dr.alloc ?_ _) | (refine Dr.trans ?_ (by assumption)))); done)⟩

set_option maxRecDepth 20000 in
set_option maxHeartbeats 2000000 in
theorem l25DrawOpen_c (w : World) (g : Nat) (h : Src g w) (c : Int) (z : Zone) (v : Value) (ds : List (List Int)) (hr : RowsR z w v ds) (hl : ds.length ≤ 1000) : Calls Try.prog 71 #[.pointer (some ⟨g, 0, none⟩), .agg #[.int .i64 c, v]] w (DrawR g w fun r w' => ∃ l, IntsR ⟨w.heap.size, w'.heap.size, true⟩ w' r l) := by
  have hlt := h.lt
  obtain ⟨a, n, cap, rfl, hn, -⟩ := SliceR.shape hr
  have hn' : n ≤ 1000 := by omega
  clear hr hl hn
  have hd0 := (Dr.refl h).alloc (.cells #[.int .i64 c, .slice a n cap] 26)
  have hbx := Box2.new w (.int .i64 c) (.slice a n cap) 26
  have HB : Hid (∀ w', Dr g (w.alloc (.cells #[.int .i64 c, .slice a n cap] 26)) w' → w'.cell? ⟨w.heap.size, 1, none⟩ = some (.slice a n cap)) := fun w' hd => (hbx.dr hd (by omega)).2.1
  have hr0 : Dr g (w.alloc (.cells #[.int .i64 c, .slice a n cap] 26)) (w.alloc (.cells #[.int .i64 c, .slice a n cap] 26)) := Dr.refl hd0.src
  have hs0 : (w.alloc (.cells #[.int .i64 c, .slice a n cap] 26)).heap.size = w.heap.size + 1 := by simp
  clear h hbx
  go_enter Try.func71, Try.ntmps71
  go_wp2_with fail
  generalize hw0 : w.alloc (.cells #[.int .i64 c, .slice a n cap] 26) = w0 at *
  clear hw0
  have oi : OwnP (Value.int .i64) 2 w0.heap.size (w0.alloc (.cells #[] 2)) (.slice (some ⟨w0.heap.size, 0, none⟩) 0 0) [] := OwnP.empty (Nat.le_refl _)
  have di : Dr g w0 (w0.alloc (.cells #[] 2)) := hr0.alloc _
  generalize hwi : w0.alloc (.cells #[] 2) = wi at *
  clear hwi
  have hgr : g < w0.heap.size := by omega
  go_loopw [5, 6] (fun s5 s6 wx => ∃ (m : Nat) (l : List Int), s6 = .int .i64 m ∧ m ≤ n ∧ l.length ≤ m ∧ OwnP (Value.int .i64) 2 w0.heap.size wx s5 l ∧ (∀ y ∈ l, I64 y) ∧ Dr g w0 wx) (fun _ s6 _ => n - (intOf s6).toNat)
  case atStart => exact ⟨0, [], rfl, by omega, by simp, by rw [← hs0]; exact oi, by simp, di⟩
  case round =>
    obtain ⟨m, l, rfl, hm, hlm, ho, hy, hdx⟩ := hrel
    clear oi di
    have hbox := HB.out wr hdx
    have hszr := hdx.size
    by_cases hmn : m < n
    · have hcall := l01Next_c _ g hdx.src 4 (by unfold I64; omega)
      go_wp2_with fail
      refine Calls.mono hcall ?_
      rintro e w4 ⟨_, rfl, ⟨x4, rfl, hx0, -⟩, hd4⟩
      clear hcall
      replace ho := ho.dr hd4 hgr
      have hd5 := hdx.trans hd4
      have hs4 := hd4.size
      have Hy := Lib.hid hy
      clear hd4 hdx hy hbox
      by_cases hx4 : 0 < x4
      · go_wp2_with (at_builtin; (refine wpList_drawInt (g := g) (w0 := w0) rfl _ _ 29 rfl Try.underlying29 Try.infoI64 rfl ho (m : Int) rfl (by omega) hd5 (Nat.le_refl _) (by omega) ?_); intro v6 w6 hown6 hd6 hs6)
        go_wp2_with fail
        exact ⟨⟨m + 1, l ++ [(m : Int)], by go_num, by omega, by simp; omega, hown6, ints_snoc Hy.out (by unfold I64; omega), hd6⟩, by simp [intOf]; omega⟩
      · go_wp2_with fail
        exact ⟨⟨m + 1, l, by go_num, by omega, by omega, ho, Hy.out, hd5⟩, by simp [intOf]; omega⟩
    · have hcall := l01Next_c _ g hdx.src 24 (by unfold I64; omega)
      go_wp2_with fail
      refine Calls.mono hcall ?_
      rintro e w4 ⟨_, rfl, ⟨x4, rfl, hx0, -⟩, hd4⟩
      clear hcall
      replace ho := ho.dr hd4 hgr
      have hd5 := hdx.trans hd4
      have hs4 := hd4.size
      have Hy := Lib.hid hy
      clear hd4 hdx hy hbox
      by_cases hx4 : x4 = 0
      · subst hx4
        go_wp2_with (at_builtin; (refine wpList_drawInt (g := g) (w0 := w0) rfl _ _ 29 rfl Try.underlying29 Try.infoI64 rfl ho 0 rfl (by omega) hd5 (Nat.le_refl _) (by omega) ?_); intro v6 w6 hown6 hd6 hs6)
        go_wp2_with fail
        go_ret
        have hi := OwnP.ints hown6 (ints_snoc Hy.out (by unfold I64; omega)) (Nat.le_refl _)
        exact ⟨_, rfl, ⟨_, stable_ints.sub hi ⟨fun k hk => ⟨by have := hk.1; simp only at this ⊢; omega, hk.2⟩, fun h => rfl⟩⟩, hd0.trans hd6⟩
      · have hb : (x4 == 0) = false := by simpa using hx4
        go_wp2_with fail
        go_ret
        have hi := OwnP.ints ho Hy.out (Nat.le_refl _)
        exact ⟨_, rfl, ⟨_, stable_ints.sub hi ⟨fun k hk => ⟨by have := hk.1; simp only at this ⊢; omega, hk.2⟩, fun h => rfl⟩⟩, hd0.trans hd5⟩
end Go.Proofs.Ytbkijealdjghgaa
