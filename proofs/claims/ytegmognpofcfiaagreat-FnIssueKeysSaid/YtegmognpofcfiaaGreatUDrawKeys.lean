/- Proved: the draws of cuts and keys: l02DrawCuts, l02Some, l02DrawKey. -/
import Derived.Test.YtegmognpofcfiaaGreatChecked
import Derived.Deep.RegionHeld3
import Derived.Lib.MinMax
import Derived.Test.YtegmognpofcfiaaGreatUDrawMk
import Derived.Test.YtegmognpofcfiaaGreatUKeyFirst
namespace Go.Proofs.YtegmognpofcfiaaGreat
open Go.ChangeShapes Go.WideShapes Go.ChangeAt Go.RowKit
set_option linter.unusedVariables false

/-- a list in memory of its own -/
def DrawL (w : World) (r : Value) (w' : World) : Prop := ∃ l, IntsR ⟨w.heap.size, w'.heap.size, true⟩ w' r l

set_option maxRecDepth 20000 in
set_option maxHeartbeats 4000000 in
theorem l02DrawCuts_c (w : World) (g : Nat) (h : Src g w) (mk : MK) (hm : MkR mk) : Calls Tryz.prog 239 #[.pointer (some ⟨g, 0, none⟩), mk.v] w (DrawR g w (DrawL w)) := by
  have hlt := h.lt
  obtain ⟨c, d, s, m, lm⟩ := mk
  obtain ⟨⟨hc0, hc1⟩, ⟨hd0, hd1⟩, hs0, hs1⟩ := hm
  simp only at hc0 hc1 hd0 hd1 hs0 hs1
  have hdw := (Dr.refl h).alloc (.cells #[.int .i64 c, .int .i64 d, .int .i64 s, .int .i64 m, .int .i64 lm] 25)
  have hbx := Box5.new w ⟨c, d, s, m, lm⟩ 25
  have hsz0 : (w.alloc (.cells #[.int .i64 c, .int .i64 d, .int .i64 s, .int .i64 m, .int .i64 lm] 25)).heap.size = w.heap.size + 1 := by simp
  simp only at hbx
  unfold MK.v
  simp only
  clear h
  have hN : ∀ n : Int, I64 n → ∀ w', Dr g w w' → Calls Tryz.prog 91 #[.pointer (some ⟨g, 0, none⟩), .int .i64 n] w' (DrawR g w' (Num n)) := fun n hn w' hd => l01Next_c w' g hd.src n hn
  have HN := Lib.hid hN
  clear hN
  generalize hw0 : w.alloc (.cells #[.int .i64 c, .int .i64 d, .int .i64 s, .int .i64 m, .int .i64 lm] 25) = w0 at *
  have HB : Hid (∀ w', Dr g w0 w' → Box5 w.heap.size ⟨c, d, s, m, lm⟩ w') := fun w' hd => hbx.dr hd (by omega)
  have hr0 : Dr g w0 w0 := Dr.refl hdw.src
  have HS2 : Hid (∀ w', Dr g w0 w' → w'.cell? ⟨w.heap.size, 2, none⟩ = some (.int .i64 s)) := fun w' hd => (HB.out w' hd).1.2.2.1
  have HS1 : Hid (∀ w', Dr g w0 w' → w'.cell? ⟨w.heap.size, 1, none⟩ = some (.int .i64 d)) := fun w' hd => (HB.out w' hd).1.2.1
  have HN0 : Hid (∀ (w' : World) (n : Int), Dr g w0 w' → I64 n → Calls Tryz.prog 91 #[.pointer (some ⟨g, 0, none⟩), .int .i64 n] w' (DrawR g w' (Num n))) := fun w' n hd hn => l01Next_c w' g hd.src n hn
  have oi : OwnP (Value.int .i64) 2 w0.heap.size (w0.alloc (.cells #[] 2)) (.slice (some ⟨w.heap.size + 1, 0, none⟩) 0 0) [] := by rw [← hsz0]; exact OwnP.empty (Nat.le_refl _)
  have di : Dr g w0 (w0.alloc (.cells #[] 2)) := hr0.alloc _
  have hgr : g < w0.heap.size := by omega
  obtain ⟨⟨c0, c1, c2, c3, c4⟩, f0, f1, f2, f3, f4⟩ := (HB.out _ di).out
  have hcall := HN.out (max 1 d) (by unfold I64; omega) _ (hdw.trans di)
  go_enter Tryz.func239, Tryz.ntmps239
  go_wp2_with fail
  refine Calls.mono hcall ?_
  rintro e w2 ⟨_, rfl, ⟨at', rfl, ha0, ha1⟩, hd2⟩
  clear hcall c0 c1 c2 c3 c4 f0 f1 f2 f3 f4
  replace oi := oi.dr hd2 hgr
  replace di := di.trans hd2
  clear hd2 hw0 hbx
  have ha : -100 ≤ at' ∧ at' ≤ 100 := by omega
  clear ha0 ha1
  go_wp2_with fail
  go_loopw [5, 6, 7] (fun s5 s6 s7 wx => ∃ (k : Nat) (l : List Int) (a : Int), s7 = .int .i64 k ∧ s6 = .int .i64 a ∧ k ≤ 8 ∧ l.length = k ∧ (-100 - 40 * k ≤ a ∧ a ≤ 100 + 40 * k) ∧ OwnP (Value.int .i64) 2 w0.heap.size wx s5 l ∧ (∀ y ∈ l, I64 y) ∧ Dr g w0 wx) (fun _ _ s7 _ => 9 - (intOf s7).toNat)
  case atStart => exact ⟨0, [], at', rfl, rfl, by omega, rfl, by omega, oi, by simp, di⟩
  case round =>
    obtain ⟨k, l, a, rfl, rfl, hk, hl, ha2, ho, hy, hdx⟩ := hrel
    clear oi di
    obtain ⟨⟨c0, c1, c2, c3, c4⟩, f0, f1, f2, f3, f4⟩ := (HB.out _ hdx).out
    simp only at c0 c1 c2 c3 c4
    have hsz := hdx.size
    have Hy := Lib.hid hy
    obtain ⟨lim, hlim⟩ : ∃ lim, min 8 c = lim := ⟨_, rfl⟩
    have hmin := Lib.run_min_ints (P := Tryz.prog) wr #[2, 2] 2 .i64 .i64 8 c
    rw [hlim] at hmin
    by_cases hlt2 : (k : Int) < lim
    · go_wp2_with (at_builtin; (refine wpList_drawInt (g := g) (w0 := w0) rfl _ _ 29 rfl Tryz.underlying29 Tryz.infoI64 rfl ho a rfl (by omega) hdx (Nat.le_refl _) (by omega) ?_); intro v6 w6 hown6 hd6 hs6)
      go_wp2_with fail
      clear c0 c1 c2 c3 c4 f0 f1 f2 f3 f4 hmin ho hy hdx
      go_region_held3 (fun w' => w'.cell? ⟨w.heap.size, 2, none⟩ = some (.int .i64 s)) (exact HS2.out _ (by (repeat (first | assumption | (refine Dr.drew ?_) | (refine Dr.alloc ?_ _) | (refine Dr.trans ?_ (by assumption)))); done)) (first | (go_at_call 91; (with_reducible refine (HN0.out _ _ (by (repeat (first | assumption | (refine Dr.drew ?_) | (refine Dr.alloc ?_ _) | (refine Dr.trans ?_ (by assumption)))); done) (wrapI _)).mono ?_); rintro e w7 ⟨_, rfl, ⟨y, rfl, hy0, hy1⟩, hd7⟩))
      all_goals (have hw7 : Dr g w0 w7 := (by (repeat (first | assumption | (refine Dr.drew ?_) | (refine Dr.alloc ?_ _) | (refine Dr.trans ?_ (by assumption)))); done))
      all_goals
        have hms : max 0 s = s := by omega
        rw [hms, IntWalk.i64_in (2 * s) (by omega), IntWalk.i64_in (2 * s + 1) (by omega)] at hy1
        rw [IntWalk.i64_in (a + y) (by omega), IntWalk.i64_in (a + y - s) (by omega)]
        have ha3 : -100 - 40 * ((k : Int) + 1) + 1 ≤ a + y - s ∧ a + y - s ≤ 100 + 40 * (k : Int) + 30 := by omega
        generalize a + y - s = a2 at *
        have ho7 : OwnP (Value.int .i64) 2 w0.heap.size w7 v6 (l ++ [a]) := hown6.dr ((Dr.refl hd6.src).drew.trans hd7) hgr
        have hs7 := hw7.size
        have hcall := l01Next_c w7 g hw7.src 24 (by unfold I64; omega)
        clear hown6 hd6 hs6 hd7
        go_wp2_with fail
        refine Calls.mono hcall ?_
        rintro e w8 ⟨_, rfl, ⟨x, rfl, hx0, hx1⟩, hd8⟩
        clear hcall
        replace ho7 := ho7.dr hd8 hgr
        have hw8 := hw7.trans hd8
        have c1 := HS1.out _ hw8
        have hmin2 := Lib.run_min_ints (P := Tryz.prog) w8 #[2, 2] 2 .i64 .i64 (d - 1) a2
        by_cases hxp : 0 < x
        · go_wp2_with fail
          exact ⟨⟨k + 1, l ++ [a], _, by go_num, rfl, by omega, by simp; omega, by omega, ho7, ints_snoc Hy.out (by unfold I64; omega), hw8⟩, by simp [intOf]; omega⟩
        · go_wp2_with fail
          exact ⟨⟨k + 1, l ++ [a], a2, by go_num, rfl, by omega, by simp; omega, by omega, ho7, ints_snoc Hy.out (by unfold I64; omega), hw8⟩, by simp [intOf]; omega⟩
    · have hcall := l01Next_c _ g hdx.src 24 (by unfold I64; omega)
      go_wp2_with fail
      refine Calls.mono hcall ?_
      rintro e w4 ⟨_, rfl, ⟨x4, rfl, hx0, -⟩, hd4⟩
      clear hcall c0 c1 c2 c3 c4 f0 f1 f2 f3 f4
      replace ho := ho.dr hd4 hgr
      have hd5 := hdx.trans hd4
      have hs4 := hd4.size
      clear hd4 hdx hy
      by_cases hx4 : x4 = 0
      · subst hx4
        go_wp2_with (at_builtin; (refine wpList_drawInt (g := g) (w0 := w0) rfl _ _ 29 rfl Tryz.underlying29 Tryz.infoI64 rfl ho 0 rfl (by omega) hd5 (Nat.le_refl _) (by omega) ?_); intro v6 w6 hown6 hd6 hs6)
        go_wp2_with fail
        go_ret
        have hi := OwnP.ints hown6 (ints_snoc Hy.out (by unfold I64; omega)) (Nat.le_refl _)
        exact ⟨_, rfl, ⟨_, stable_ints.sub hi ⟨fun k hk => ⟨by have := hk.1; simp only at this ⊢; omega, hk.2⟩, fun h => rfl⟩⟩, hdw.trans hd6⟩
      · have hb : (x4 == 0) = false := by simpa using hx4
        go_wp2_with fail
        go_ret
        have hi := OwnP.ints ho Hy.out (Nat.le_refl _)
        exact ⟨_, rfl, ⟨_, stable_ints.sub hi ⟨fun k hk => ⟨by have := hk.1; simp only at this ⊢; omega, hk.2⟩, fun h => rfl⟩⟩, hdw.trans hd5⟩

theorem KeyRes.ints {lo : Nat} {L : List (List Int)} {r : Value} {w' : World} (h : KeyRes lo L r w') : ∃ u b ks, r = .tuple #[u, .bool b] ∧ IntsR ⟨lo, w'.heap.size, true⟩ w' u ks := by
  cases L with
  | nil =>
    obtain ⟨u, ks, e, i⟩ := h.1 rfl
    exact ⟨u, _, ks, e, i⟩
  | cons k L' =>
    obtain ⟨u, e, i⟩ := h.2 k L' rfl
    exact ⟨u, _, k, e, i⟩

set_option maxRecDepth 20000 in
set_option maxHeartbeats 4000000 in
theorem l02Some_c (w : World) (g : Nat) (h : Src g w) (mk : MK) (hm : isMaker mk = true) : Calls Tryz.prog 119 #[.pointer (some ⟨g, 0, none⟩), mk.v] w (DrawR g w (DrawL w)) := by
  have hlt := h.lt
  have HNx := Lib.hid (fun (w' : World) (v : Value) (z : Zone) (xs : List Int) (q : IntsR z w' v xs) hl hs => l02Next_c mk (mkOk hm) w' v z xs q hl hs)
  have HF := Lib.hid (fun (w' : World) => l02First_c mk (mkOk hm) mk.c.toNat [] (by simp) w'.heap.size w' (.slice none 0 0) (.new w' w') (SliceR.nil _ _ _) (Nat.le_refl _) (Nat.le_refl _) (Nat.le_refl _) rfl (fun i hi => by simp at hi))
  have hmi := isMaker_iff.1 hm
  generalize hD1 : (fun xs => aft mk mk.d.toNat xs 0) = AF at *
  have HNy : Hid (∀ (w' : World) (v : Value) (z : Zone) (xs : List Int), IntsR z w' v xs → xs.length = mk.c.toNat → (∀ i, i < xs.length → 0 ≤ xs.getD i 0 ∧ xs.getD i 0 < mk.d) → Calls Tryz.prog 196 #[mk.v, v] w' (Ret w' fun r' w'' => KeyRes w'.heap.size (AF xs) r' w'')) := fun w' v z xs q hl hs => by rw [← hD1]; exact HNx.out w' v z xs q hl hs
  clear HNx hD1
  generalize keysR mk mk.d.toNat mk.c.toNat [] = FF at *
  obtain ⟨c, d, s, m, lm⟩ := mk
  simp only at hmi
  have hdw := (Dr.refl h).alloc (.cells #[.int .i64 c, .int .i64 d, .int .i64 s, .int .i64 m, .int .i64 lm] 25)
  have hbx := Box5.new w ⟨c, d, s, m, lm⟩ 25
  have hsz0 : (w.alloc (.cells #[.int .i64 c, .int .i64 d, .int .i64 s, .int .i64 m, .int .i64 lm] 25)).heap.size = w.heap.size + 1 := by simp
  unfold MK.v at *
  simp only at HNy HF ⊢
  clear h hm
  generalize hw0 : w.alloc (.cells #[.int .i64 c, .int .i64 d, .int .i64 s, .int .i64 m, .int .i64 lm] 25) = w0 at *
  have HB : Hid (∀ w', Dr g w0 w' → Box5 w.heap.size ⟨c, d, s, m, lm⟩ w') := fun w' hd => hbx.dr hd (by omega)
  have hr0 : Dr g w0 w0 := Dr.refl hdw.src
  have oi : OwnP (Value.int .i64) 2 w0.heap.size (w0.alloc (.cells #[] 2)) (.slice (some ⟨w.heap.size + 1, 0, none⟩) 0 0) [] := by rw [← hsz0]; exact OwnP.empty (Nat.le_refl _)
  have di : Dr g w0 (w0.alloc (.cells #[] 2)) := hr0.alloc _
  have hgr : g < w0.heap.size := by omega
  go_enter Tryz.func119, Tryz.ntmps119
  go_wp2_with fail
  generalize w0.alloc (.cells #[] 2) = w1 at *
  clear hw0 hbx
  go_loopw [5, 6] (fun s5 s6 wx => ∃ (k : Nat) (l : List Int), s6 = .int .i64 k ∧ (k : Int) ≤ c ∧ l.length = k ∧ OwnP (Value.int .i64) 2 w0.heap.size wx s5 l ∧ (∀ y ∈ l, 0 ≤ y ∧ y < d) ∧ Dr g w0 wx) (fun _ s6 _ => 9 - (intOf s6).toNat)
  case atStart => exact ⟨0, [], rfl, by omega, rfl, oi, by simp, di⟩
  case round =>
    obtain ⟨k, l, rfl, hk, hl, ho, hy, hdx⟩ := hrel
    clear oi di
    obtain ⟨⟨c0, c1, c2, c3, c4⟩, f0, f1, f2, f3, f4⟩ := (HB.out _ hdx).out
    simp only at c0 c1 c2 c3 c4
    have hsz := hdx.size
    have Hy := Lib.hid hy
    clear hy
    by_cases hlt2 : (k : Int) < c
    · have hcall := l01Next_c wr g hdx.src d (by unfold I64; omega)
      go_wp2_with fail
      refine Calls.mono hcall ?_
      rintro e w4 ⟨_, rfl, ⟨y, rfl, hy0, hy1⟩, hd4⟩
      clear hcall c0 c1 c2 c3 c4 f0 f1 f2 f3 f4
      replace ho := ho.dr hd4 hgr
      have hd5 := hdx.trans hd4
      have hs4 := hd4.size
      clear hd4 hdx
      go_wp2_with (at_builtin; (refine wpList_drawInt (g := g) (w0 := w0) rfl _ _ 29 rfl Tryz.underlying29 Tryz.infoI64 rfl ho y rfl (by omega) hd5 (Nat.le_refl _) (by omega) ?_); intro v6 w6 hown6 hd6 hs6)
      go_wp2_with fail
      exact ⟨⟨k + 1, l ++ [y], by go_num, by omega, by simp; omega, hown6, fun x hx => by
        rcases List.mem_append.1 hx with hx | hx
        · exact Hy.out x hx
        · rw [List.mem_singleton.1 hx]; omega, hd6⟩, by simp [intOf]; omega⟩
    · have hi := OwnP.ints ho (fun x hx => by have := Hy.out x hx; unfold I64; omega) (Nat.le_refl _)
      have hcall := HNy.out wr _ _ l hi (by omega) (fun i hi => by
        have e : l.getD i 0 = l[i] := by simp [hi]
        rw [e]; exact Hy.out _ (List.getElem_mem hi))
      obtain ⟨a5, n5, k5, rfl, -⟩ := OwnP.shape ho
      clear ho hi
      go_wp2_with fail
      refine Calls.mono hcall ?_
      rintro e w4 hr
      obtain ⟨r, rfl, hk4, e4⟩ := ret_ext hr
      clear hcall hr c0 c1 c2 c3 c4 f0 f1 f2 f3 f4
      obtain ⟨u, b, ks, rfl, hi⟩ := hk4.ints
      have hd4 := hdx.below e4
      clear hk4
      have HI := Lib.hid hi
      have hs4 := hd4.size
      clear hi
      obtain ⟨⟨c0, c1, c2, c3, c4⟩, f0, f1, f2, f3, f4⟩ := (HB.out _ hd4).out
      simp only at c0 c1 c2 c3 c4
      cases b with
      | true =>
        go_wp2_with fail
        go_ret
        exact ⟨_, rfl, ⟨_, stable_ints.sub HI.out ⟨fun k hk => ⟨by have := hk.1; simp only at this ⊢; omega, hk.2⟩, fun h => rfl⟩⟩, hdw.trans hd4⟩
      | false =>
        have hcall := HF.out w4
        go_wp2_with fail
        refine Calls.mono hcall ?_
        rintro e w5 hr
        obtain ⟨r, rfl, hk5, e5⟩ := ret_ext hr
        clear hcall hr
        obtain ⟨u5, b5, ks5, rfl, hi⟩ := hk5.ints
        have hd5 := hd4.below e5
        have HI5 := Lib.hid hi
        clear hi hk5 c0 c1 c2 c3 c4 f0 f1 f2 f3 f4
        go_wp2_with fail
        go_ret
        exact ⟨_, rfl, ⟨_, stable_ints.sub HI5.out ⟨fun k hk => ⟨by have := hk.1; simp only at this ⊢; omega, hk.2⟩, fun h => rfl⟩⟩, hdw.trans hd5⟩

set_option maxRecDepth 20000 in
set_option maxHeartbeats 4000000 in
theorem l02DrawKey_c (w : World) (g : Nat) (h : Src g w) (mk : MK) (hm : MkR mk) : Calls Tryz.prog 187 #[.pointer (some ⟨g, 0, none⟩), mk.v] w (DrawR g w (DrawL w)) := by
  have hlt := h.lt
  have HC := Lib.hid (fun (w' : World) (hd : Dr g w w') => l02DrawCuts_c w' g hd.src mk hm)
  have HM := Lib.hid (fun (w' : World) => IsMakerSpec_c w' mk)
  have HS := Lib.hid (fun (w' : World) (hd : Dr g w w') (hi : isMaker mk = true) => l02Some_c w' g hd.src mk hi)
  generalize isMaker mk = q at *
  obtain ⟨c, d, s, m, lm⟩ := mk
  have hdw := (Dr.refl h).alloc (.cells #[.int .i64 c, .int .i64 d, .int .i64 s, .int .i64 m, .int .i64 lm] 25)
  have hbx := Box5.new w ⟨c, d, s, m, lm⟩ 25
  have hsz0 : (w.alloc (.cells #[.int .i64 c, .int .i64 d, .int .i64 s, .int .i64 m, .int .i64 lm] 25)).heap.size = w.heap.size + 1 := by simp
  unfold MK.v at *
  simp only at HC HM HS ⊢
  clear h hm
  go_enter Tryz.func187, Tryz.ntmps187
  go_wp2_with fail
  generalize w.alloc (.cells #[.int .i64 c, .int .i64 d, .int .i64 s, .int .i64 m, .int .i64 lm] 25) = w0 at *
  have HB : Hid (∀ w', Dr g w0 w' → Box5 w.heap.size ⟨c, d, s, m, lm⟩ w') := fun w' hd => hbx.dr hd (by omega)
  have hr0 : Dr g w0 w0 := Dr.refl hdw.src
  clear hbx
  refine Calls.mono (HC.out w0 hdw) ?_
  rintro e w1 ⟨v1, rfl, ⟨l1, hi1⟩, hd1⟩
  have HI1 := Lib.hid hi1
  have hs1 := hd1.size
  obtain ⟨a1, n1, k1, rfl, -⟩ := SliceR.shape hi1
  clear hi1
  obtain ⟨⟨c0, c1, c2, c3, c4⟩, f0, f1, f2, f3, f4⟩ := (HB.out _ hd1).out
  simp only at c0 c1 c2 c3 c4
  have hcall := HM.out w1
  go_wp2_with fail
  refine Calls.mono hcall ?_
  rintro e w2 hr
  obtain ⟨r, rfl, rfl, e2⟩ := ret_ext hr
  clear hcall hr c0 c1 c2 c3 c4 f0 f1 f2 f3 f4
  have hd2 := hd1.below e2
  have HL2 : Hid (∀ w', Dr g w2 w' → DrawL w (.slice a1 n1 k1) w') := fun w' hd => ⟨_, stable_ints.sub (stable_ints.dr (stable_ints.ext HI1.out e2) hd (.inl (by show g < w0.heap.size; omega))) ⟨fun k hk => ⟨by have := hk.1; simp only at this ⊢; omega, by have h1 := hk.2; have h2 := hd.size; have h3 := e2.size; simp only at h1 ⊢; omega⟩, fun h => h⟩⟩
  have hr2 : Dr g w2 w2 := Dr.refl hd2.src
  obtain ⟨⟨c0, c1, c2, c3, c4⟩, f0, f1, f2, f3, f4⟩ := (HB.out _ hd2).out
  simp only at c0 c1 c2 c3 c4
  cases q with
  | false =>
    go_wp2_with fail
    go_ret
    exact ⟨_, rfl, HL2.out _ hr2, hdw.trans hd2⟩
  | true =>
    have hcall := l01Next_c w2 g hd2.src 12 (by unfold I64; omega)
    go_wp2_with fail
    refine Calls.mono hcall ?_
    rintro e w3 ⟨_, rfl, ⟨x, rfl, hx0, hx1⟩, hd3⟩
    clear hcall c0 c1 c2 c3 c4 f0 f1 f2 f3 f4
    have hd4 := hd2.trans hd3
    by_cases hx : x = 0
    · subst hx
      go_wp2_with fail
      go_ret
      exact ⟨_, rfl, HL2.out _ hd3, hdw.trans hd4⟩
    · have hb : (x == 0) = false := by simpa using hx
      obtain ⟨⟨c0, c1, c2, c3, c4⟩, f0, f1, f2, f3, f4⟩ := (HB.out _ hd4).out
      simp only at c0 c1 c2 c3 c4
      have hcall := HS.out w3 (hdw.trans hd4) (by simp)
      have hs3 := (hdw.trans hd4).size
      go_wp2_with fail
      refine Calls.mono hcall ?_
      rintro e w4 ⟨v4, rfl, ⟨l4, hi4⟩, hd5⟩
      clear hcall
      have HI4 := Lib.hid hi4
      clear hi4
      go_wp2_with fail
      go_ret
      exact ⟨_, rfl, ⟨_, stable_ints.sub HI4.out ⟨fun k hk => ⟨by have := hk.1; simp only at this ⊢; omega, hk.2⟩, fun h => h⟩⟩, hdw.trans (hd4.trans hd5)⟩
end Go.Proofs.YtegmognpofcfiaaGreat
