/- Proved: the draws of cuts and keys: l02DrawCuts, l02Some, l02DrawKey; the draws of systems: l15Valid; the draws of systems: l15DrawCuts, l15Draw; the draw of a system and cuts: l15Draw. -/
import Derived.Test.YthgmojggpjnckaaGreatChecked
import Derived.Deep.RegionHeld3
import Derived.Lib.MinMax
import Derived.Deep.RegionLaw
import Derived.Test.YthgmojggpjnckaaGreatUPkDb
import Derived.Test.YthgmojggpjnckaaGreatUKeyFirst
namespace Go.Proofs.YthgmojggpjnckaaGreat
open Go.ChangeShapes Go.WideShapes Go.ChangeAt Go.RowKit
set_option linter.unusedVariables false

/-- a list in memory of its own -/
def DrawL (w : World) (r : Value) (w' : World) : Prop := ∃ l, IntsR ⟨w.heap.size, w'.heap.size, true⟩ w' r l

set_option maxRecDepth 20000 in
set_option maxHeartbeats 4000000 in
theorem l02DrawCuts_c (w : World) (g : Nat) (h : Src g w) (mk : MK) (hm : MkR mk) : Calls Tryz.prog 164 #[.pointer (some ⟨g, 0, none⟩), mk.v] w (DrawR g w (DrawL w)) := by
  have hlt := h.lt
  obtain ⟨c, d, s, m, lm⟩ := mk
  obtain ⟨⟨hc0, hc1⟩, ⟨hd0, hd1⟩, hs0, hs1⟩ := hm
  simp only at hc0 hc1 hd0 hd1 hs0 hs1
  have hdw := (Dr.refl h).alloc (.cells #[.int .i64 c, .int .i64 d, .int .i64 s, .int .i64 m, .int .i64 lm] 25)
  have hbx := Box5.new w ⟨c, d, s, m, lm⟩ 25
  have hsz0 : (w.alloc (.cells #[.int .i64 c, .int .i64 d, .int .i64 s, .int .i64 m, .int .i64 lm] 25)).heap.size = w.heap.size + 1 := by simp
  simp only at hbx
  unfold MK.v
  simp only
  clear h
  have hN : ∀ n : Int, I64 n → ∀ w', Dr g w w' → Calls Tryz.prog 49 #[.pointer (some ⟨g, 0, none⟩), .int .i64 n] w' (DrawR g w' (Num n)) := fun n hn w' hd => l01Next_c w' g hd.src n hn
  have HN := Lib.hid hN
  clear hN
  generalize hw0 : w.alloc (.cells #[.int .i64 c, .int .i64 d, .int .i64 s, .int .i64 m, .int .i64 lm] 25) = w0 at *
  have HB : Hid (∀ w', Dr g w0 w' → Box5 w.heap.size ⟨c, d, s, m, lm⟩ w') := fun w' hd => hbx.dr hd (by omega)
  have hr0 : Dr g w0 w0 := Dr.refl hdw.src
  have HS2 : Hid (∀ w', Dr g w0 w' → w'.cell? ⟨w.heap.size, 2, none⟩ = some (.int .i64 s)) := fun w' hd => (HB.out w' hd).1.2.2.1
  have HS1 : Hid (∀ w', Dr g w0 w' → w'.cell? ⟨w.heap.size, 1, none⟩ = some (.int .i64 d)) := fun w' hd => (HB.out w' hd).1.2.1
  have HN0 : Hid (∀ (w' : World) (n : Int), Dr g w0 w' → I64 n → Calls Tryz.prog 49 #[.pointer (some ⟨g, 0, none⟩), .int .i64 n] w' (DrawR g w' (Num n))) := fun w' n hd hn => l01Next_c w' g hd.src n hn
  have oi : OwnP (Value.int .i64) 2 w0.heap.size (w0.alloc (.cells #[] 2)) (.slice (some ⟨w.heap.size + 1, 0, none⟩) 0 0) [] := by rw [← hsz0]; exact OwnP.empty (Nat.le_refl _)
  have di : Dr g w0 (w0.alloc (.cells #[] 2)) := hr0.alloc _
  have hgr : g < w0.heap.size := by omega
  obtain ⟨⟨c0, c1, c2, c3, c4⟩, f0, f1, f2, f3, f4⟩ := (HB.out _ di).out
  have hcall := HN.out (max 1 d) (by unfold I64; omega) _ (hdw.trans di)
  go_enter Tryz.func164, Tryz.ntmps164
  go_wp2_with fail
  refine Calls.mono hcall ?_
  rintro e w2 ⟨_, rfl, ⟨at', rfl, ha0, ha1⟩, hd2⟩
  clear hcall c0 c1 c2 c3 c4 f0 f1 f2 f3 f4
  replace oi := oi.dr hd2 hgr
  replace di := di.trans hd2
  clear hd2 hw0 hbx
  have ha : -100 ≤ at' ∧ at' ≤ 100 := by omega
  clear ha0 ha1
  go_wp2_with fail
  go_loopw [5, 6, 7] (fun s5 s6 s7 wx => ∃ (k : Nat) (l : List Int) (a : Int), s7 = .int .i64 k ∧ s6 = .int .i64 a ∧ k ≤ 8 ∧ l.length = k ∧ (-100 - 40 * k ≤ a ∧ a ≤ 100 + 40 * k) ∧ OwnP (Value.int .i64) 2 w0.heap.size wx s5 l ∧ (∀ y ∈ l, I64 y) ∧ Dr g w0 wx) (fun _ _ s7 _ => 9 - (intOf s7).toNat)
  case atStart => exact ⟨0, [], at', rfl, rfl, by omega, rfl, by omega, oi, by simp, di⟩
  case round =>
    obtain ⟨k, l, a, rfl, rfl, hk, hl, ha2, ho, hy, hdx⟩ := hrel
    clear oi di
    obtain ⟨⟨c0, c1, c2, c3, c4⟩, f0, f1, f2, f3, f4⟩ := (HB.out _ hdx).out
    simp only at c0 c1 c2 c3 c4
    have hsz := hdx.size
    have Hy := Lib.hid hy
    obtain ⟨lim, hlim⟩ : ∃ lim, min 8 c = lim := ⟨_, rfl⟩
    have hmin := Lib.run_min_ints (P := Tryz.prog) wr #[2, 2] 2 .i64 .i64 8 c
    rw [hlim] at hmin
    by_cases hlt2 : (k : Int) < lim
    · go_wp2_with (at_builtin; (refine wpList_drawInt (g := g) (w0 := w0) rfl _ _ 41 rfl Tryz.underlying41 Tryz.infoI64 rfl ho a rfl (by omega) hdx (Nat.le_refl _) (by omega) ?_); intro v6 w6 hown6 hd6 hs6)
      go_wp2_with fail
      clear c0 c1 c2 c3 c4 f0 f1 f2 f3 f4 hmin ho hy hdx
      go_region_held3 (fun w' => w'.cell? ⟨w.heap.size, 2, none⟩ = some (.int .i64 s)) (exact HS2.out _ (by (repeat (first | assumption | (refine Dr.drew ?_) | (refine Dr.alloc ?_ _) | (refine Dr.trans ?_ (by assumption)))); done)) (first | (go_at_call 49; (with_reducible refine (HN0.out _ _ (by (repeat (first | assumption | (refine Dr.drew ?_) | (refine Dr.alloc ?_ _) | (refine Dr.trans ?_ (by assumption)))); done) (wrapI _)).mono ?_); rintro e w7 ⟨_, rfl, ⟨y, rfl, hy0, hy1⟩, hd7⟩))
      all_goals (have hw7 : Dr g w0 w7 := (by (repeat (first | assumption | (refine Dr.drew ?_) | (refine Dr.alloc ?_ _) | (refine Dr.trans ?_ (by assumption)))); done))
      all_goals
        have hms : max 0 s = s := by omega
        rw [hms, IntWalk.i64_in (2 * s) (by omega), IntWalk.i64_in (2 * s + 1) (by omega)] at hy1
        rw [IntWalk.i64_in (a + y) (by omega), IntWalk.i64_in (a + y - s) (by omega)]
        have ha3 : -100 - 40 * ((k : Int) + 1) + 1 ≤ a + y - s ∧ a + y - s ≤ 100 + 40 * (k : Int) + 30 := by omega
        generalize a + y - s = a2 at *
        have ho7 : OwnP (Value.int .i64) 2 w0.heap.size w7 v6 (l ++ [a]) := hown6.dr ((Dr.refl hd6.src).drew.trans hd7) hgr
        have hs7 := hw7.size
        have hcall := l01Next_c w7 g hw7.src 24 (by unfold I64; omega)
        clear hown6 hd6 hs6 hd7
        go_wp2_with fail
        refine Calls.mono hcall ?_
        rintro e w8 ⟨_, rfl, ⟨x, rfl, hx0, hx1⟩, hd8⟩
        clear hcall
        replace ho7 := ho7.dr hd8 hgr
        have hw8 := hw7.trans hd8
        have c1 := HS1.out _ hw8
        have hmin2 := Lib.run_min_ints (P := Tryz.prog) w8 #[2, 2] 2 .i64 .i64 (d - 1) a2
        by_cases hxp : 0 < x
        · go_wp2_with fail
          exact ⟨⟨k + 1, l ++ [a], _, by go_num, rfl, by omega, by simp; omega, by omega, ho7, ints_snoc Hy.out (by unfold I64; omega), hw8⟩, by simp [intOf]; omega⟩
        · go_wp2_with fail
          exact ⟨⟨k + 1, l ++ [a], a2, by go_num, rfl, by omega, by simp; omega, by omega, ho7, ints_snoc Hy.out (by unfold I64; omega), hw8⟩, by simp [intOf]; omega⟩
    · have hcall := l01Next_c _ g hdx.src 24 (by unfold I64; omega)
      go_wp2_with fail
      refine Calls.mono hcall ?_
      rintro e w4 ⟨_, rfl, ⟨x4, rfl, hx0, -⟩, hd4⟩
      clear hcall c0 c1 c2 c3 c4 f0 f1 f2 f3 f4
      replace ho := ho.dr hd4 hgr
      have hd5 := hdx.trans hd4
      have hs4 := hd4.size
      clear hd4 hdx hy
      by_cases hx4 : x4 = 0
      · subst hx4
        go_wp2_with (at_builtin; (refine wpList_drawInt (g := g) (w0 := w0) rfl _ _ 41 rfl Tryz.underlying41 Tryz.infoI64 rfl ho 0 rfl (by omega) hd5 (Nat.le_refl _) (by omega) ?_); intro v6 w6 hown6 hd6 hs6)
        go_wp2_with fail
        go_ret
        have hi := OwnP.ints hown6 (ints_snoc Hy.out (by unfold I64; omega)) (Nat.le_refl _)
        exact ⟨_, rfl, ⟨_, stable_ints.sub hi ⟨fun k hk => ⟨by have := hk.1; simp only at this ⊢; omega, hk.2⟩, fun h => rfl⟩⟩, hdw.trans hd6⟩
      · have hb : (x4 == 0) = false := by simpa using hx4
        go_wp2_with fail
        go_ret
        have hi := OwnP.ints ho Hy.out (Nat.le_refl _)
        exact ⟨_, rfl, ⟨_, stable_ints.sub hi ⟨fun k hk => ⟨by have := hk.1; simp only at this ⊢; omega, hk.2⟩, fun h => rfl⟩⟩, hdw.trans hd5⟩

theorem KeyRes.ints {lo : Nat} {L : List (List Int)} {r : Value} {w' : World} (h : KeyRes lo L r w') : ∃ u b ks, r = .tuple #[u, .bool b] ∧ IntsR ⟨lo, w'.heap.size, true⟩ w' u ks := by
  cases L with
  | nil =>
    obtain ⟨u, ks, e, i⟩ := h.1 rfl
    exact ⟨u, _, ks, e, i⟩
  | cons k L' =>
    obtain ⟨u, e, i⟩ := h.2 k L' rfl
    exact ⟨u, _, k, e, i⟩

set_option maxRecDepth 20000 in
set_option maxHeartbeats 4000000 in
theorem l02Some_c (w : World) (g : Nat) (h : Src g w) (mk : MK) (hm : isMaker mk = true) : Calls Tryz.prog 75 #[.pointer (some ⟨g, 0, none⟩), mk.v] w (DrawR g w (DrawL w)) := by
  have hlt := h.lt
  have HNx := Lib.hid (fun (w' : World) (v : Value) (z : Zone) (xs : List Int) (q : IntsR z w' v xs) hl hs => l02Next_c mk (mkOk hm) w' v z xs q hl hs)
  have HF := Lib.hid (fun (w' : World) => l02First_c mk (mkOk hm) mk.c.toNat [] (by simp) w'.heap.size w' (.slice none 0 0) (.new w' w') (SliceR.nil _ _ _) (Nat.le_refl _) (Nat.le_refl _) (Nat.le_refl _) rfl (fun i hi => by simp at hi))
  have hmi := isMaker_iff.1 hm
  generalize hD1 : (fun xs => aft mk mk.d.toNat xs 0) = AF at *
  have HNy : Hid (∀ (w' : World) (v : Value) (z : Zone) (xs : List Int), IntsR z w' v xs → xs.length = mk.c.toNat → (∀ i, i < xs.length → 0 ≤ xs.getD i 0 ∧ xs.getD i 0 < mk.d) → Calls Tryz.prog 113 #[mk.v, v] w' (Ret w' fun r' w'' => KeyRes w'.heap.size (AF xs) r' w'')) := fun w' v z xs q hl hs => by rw [← hD1]; exact HNx.out w' v z xs q hl hs
  clear HNx hD1
  generalize keysR mk mk.d.toNat mk.c.toNat [] = FF at *
  obtain ⟨c, d, s, m, lm⟩ := mk
  simp only at hmi
  have hdw := (Dr.refl h).alloc (.cells #[.int .i64 c, .int .i64 d, .int .i64 s, .int .i64 m, .int .i64 lm] 25)
  have hbx := Box5.new w ⟨c, d, s, m, lm⟩ 25
  have hsz0 : (w.alloc (.cells #[.int .i64 c, .int .i64 d, .int .i64 s, .int .i64 m, .int .i64 lm] 25)).heap.size = w.heap.size + 1 := by simp
  unfold MK.v at *
  simp only at HNy HF ⊢
  clear h hm
  generalize hw0 : w.alloc (.cells #[.int .i64 c, .int .i64 d, .int .i64 s, .int .i64 m, .int .i64 lm] 25) = w0 at *
  have HB : Hid (∀ w', Dr g w0 w' → Box5 w.heap.size ⟨c, d, s, m, lm⟩ w') := fun w' hd => hbx.dr hd (by omega)
  have hr0 : Dr g w0 w0 := Dr.refl hdw.src
  have oi : OwnP (Value.int .i64) 2 w0.heap.size (w0.alloc (.cells #[] 2)) (.slice (some ⟨w.heap.size + 1, 0, none⟩) 0 0) [] := by rw [← hsz0]; exact OwnP.empty (Nat.le_refl _)
  have di : Dr g w0 (w0.alloc (.cells #[] 2)) := hr0.alloc _
  have hgr : g < w0.heap.size := by omega
  go_enter Tryz.func75, Tryz.ntmps75
  go_wp2_with fail
  generalize w0.alloc (.cells #[] 2) = w1 at *
  clear hw0 hbx
  go_loopw [5, 6] (fun s5 s6 wx => ∃ (k : Nat) (l : List Int), s6 = .int .i64 k ∧ (k : Int) ≤ c ∧ l.length = k ∧ OwnP (Value.int .i64) 2 w0.heap.size wx s5 l ∧ (∀ y ∈ l, 0 ≤ y ∧ y < d) ∧ Dr g w0 wx) (fun _ s6 _ => 9 - (intOf s6).toNat)
  case atStart => exact ⟨0, [], rfl, by omega, rfl, oi, by simp, di⟩
  case round =>
    obtain ⟨k, l, rfl, hk, hl, ho, hy, hdx⟩ := hrel
    clear oi di
    obtain ⟨⟨c0, c1, c2, c3, c4⟩, f0, f1, f2, f3, f4⟩ := (HB.out _ hdx).out
    simp only at c0 c1 c2 c3 c4
    have hsz := hdx.size
    have Hy := Lib.hid hy
    clear hy
    by_cases hlt2 : (k : Int) < c
    · have hcall := l01Next_c wr g hdx.src d (by unfold I64; omega)
      go_wp2_with fail
      refine Calls.mono hcall ?_
      rintro e w4 ⟨_, rfl, ⟨y, rfl, hy0, hy1⟩, hd4⟩
      clear hcall c0 c1 c2 c3 c4 f0 f1 f2 f3 f4
      replace ho := ho.dr hd4 hgr
      have hd5 := hdx.trans hd4
      have hs4 := hd4.size
      clear hd4 hdx
      go_wp2_with (at_builtin; (refine wpList_drawInt (g := g) (w0 := w0) rfl _ _ 41 rfl Tryz.underlying41 Tryz.infoI64 rfl ho y rfl (by omega) hd5 (Nat.le_refl _) (by omega) ?_); intro v6 w6 hown6 hd6 hs6)
      go_wp2_with fail
      exact ⟨⟨k + 1, l ++ [y], by go_num, by omega, by simp; omega, hown6, fun x hx => by
        rcases List.mem_append.1 hx with hx | hx
        · exact Hy.out x hx
        · rw [List.mem_singleton.1 hx]; omega, hd6⟩, by simp [intOf]; omega⟩
    · have hi := OwnP.ints ho (fun x hx => by have := Hy.out x hx; unfold I64; omega) (Nat.le_refl _)
      have hcall := HNy.out wr _ _ l hi (by omega) (fun i hi => by
        have e : l.getD i 0 = l[i] := by simp [hi]
        rw [e]; exact Hy.out _ (List.getElem_mem hi))
      obtain ⟨a5, n5, k5, rfl, -⟩ := OwnP.shape ho
      clear ho hi
      go_wp2_with fail
      refine Calls.mono hcall ?_
      rintro e w4 hr
      obtain ⟨r, rfl, hk4, e4⟩ := ret_ext hr
      clear hcall hr c0 c1 c2 c3 c4 f0 f1 f2 f3 f4
      obtain ⟨u, b, ks, rfl, hi⟩ := hk4.ints
      have hd4 := hdx.below e4
      clear hk4
      have HI := Lib.hid hi
      have hs4 := hd4.size
      clear hi
      obtain ⟨⟨c0, c1, c2, c3, c4⟩, f0, f1, f2, f3, f4⟩ := (HB.out _ hd4).out
      simp only at c0 c1 c2 c3 c4
      cases b with
      | true =>
        go_wp2_with fail
        go_ret
        exact ⟨_, rfl, ⟨_, stable_ints.sub HI.out ⟨fun k hk => ⟨by have := hk.1; simp only at this ⊢; omega, hk.2⟩, fun h => rfl⟩⟩, hdw.trans hd4⟩
      | false =>
        have hcall := HF.out w4
        go_wp2_with fail
        refine Calls.mono hcall ?_
        rintro e w5 hr
        obtain ⟨r, rfl, hk5, e5⟩ := ret_ext hr
        clear hcall hr
        obtain ⟨u5, b5, ks5, rfl, hi⟩ := hk5.ints
        have hd5 := hd4.below e5
        have HI5 := Lib.hid hi
        clear hi hk5 c0 c1 c2 c3 c4 f0 f1 f2 f3 f4
        go_wp2_with fail
        go_ret
        exact ⟨_, rfl, ⟨_, stable_ints.sub HI5.out ⟨fun k hk => ⟨by have := hk.1; simp only at this ⊢; omega, hk.2⟩, fun h => rfl⟩⟩, hdw.trans hd5⟩

open Go.ChangeShapes Go.WideShapes Go.ChangeAt Go.RowKit
set_option linter.unusedVariables false

theorem ResAt.dr {b g : Nat} {w w' : World} (h : ResAt w b) (hd : Dr g w w') (hb : b ≠ g) : ResAt w' b := h.of (hd.grown.block b h.lt (by intro e; injection e with e; omega))
/-- a system that a draw hands back -/
def SysD (w : World) (r : Value) (w' : World) : Prop := ∃ (mk : MK) (v : Value) (t : List (List Int)), r = sysV mk v ∧ isSystem mk t = true ∧ OwnR true w.heap.size IntsR 41 w.heap.size w' v t ∧ t.length ≤ 4 ∧ ∀ x ∈ t, x.length ≤ 4
theorem put6 {g B : Nat} {w w' : World} (hd : Dr g w w') (hB : w.heap.size ≤ B) (u0 u1 u2 u3 u4 u5 : Value) : Dr g w ((((((w'.setCell ⟨B, 0, none⟩ u0).setCell ⟨B, 1, none⟩ u1).setCell ⟨B, 2, none⟩ u2).setCell ⟨B, 3, none⟩ u3).setCell ⟨B, 4, none⟩ u4).setCell ⟨B, 5, none⟩ u5) :=
  Dr.put (Dr.put (Dr.put (Dr.put (Dr.put (Dr.put hd (p := ⟨B, 0, none⟩) hB _) (p := ⟨B, 1, none⟩) hB _) (p := ⟨B, 2, none⟩) hB _) (p := ⟨B, 3, none⟩) hB _) (p := ⟨B, 4, none⟩) hB _) (p := ⟨B, 5, none⟩) hB _
theorem put6_other {w : World} {B k : Nat} (hk : k ≠ B) (u0 u1 u2 u3 u4 u5 : Value) : ((((((w.setCell ⟨B, 0, none⟩ u0).setCell ⟨B, 1, none⟩ u1).setCell ⟨B, 2, none⟩ u2).setCell ⟨B, 3, none⟩ u3).setCell ⟨B, 4, none⟩ u4).setCell ⟨B, 5, none⟩ u5).heap[k]? = w.heap[k]? := by
  rw [Below.heap_setCell _ _ _ _ hk, Below.heap_setCell _ _ _ _ hk, Below.heap_setCell _ _ _ _ hk, Below.heap_setCell _ _ _ _ hk, Below.heap_setCell _ _ _ _ hk, Below.heap_setCell _ _ _ _ hk]
theorem put6_size {w : World} {B : Nat} (u0 u1 u2 u3 u4 u5 : Value) : ((((((w.setCell ⟨B, 0, none⟩ u0).setCell ⟨B, 1, none⟩ u1).setCell ⟨B, 2, none⟩ u2).setCell ⟨B, 3, none⟩ u3).setCell ⟨B, 4, none⟩ u4).setCell ⟨B, 5, none⟩ u5).heap.size = w.heap.size := by
  simp [World.setCell]

set_option maxRecDepth 20000 in
set_option maxHeartbeats 8000000 in
theorem l15Valid_c (w : World) (g : Nat) (h : Src g w) : Calls Tryz.prog 109 #[.pointer (some ⟨g, 0, none⟩)] w (DrawR g w (SysD w)) := by
  have hlt := h.lt
  have hd0 := (Dr.refl h).alloc (.cells #[.int .i64 0, .int .i64 0, .int .i64 0, .int .i64 0, .int .i64 0, .slice none 0 0] 32)
  have R0 := res_new w 32
  have hsz0 : (w.alloc (.cells #[.int .i64 0, .int .i64 0, .int .i64 0, .int .i64 0, .int .i64 0, .slice none 0 0] 32)).heap.size = w.heap.size + 1 := by simp
  have hcall := l02Valid_c _ g hd0.src
  clear h
  go_enter Tryz.func109, Tryz.ntmps109
  go_wp2_with fail
  generalize w.alloc (.cells #[.int .i64 0, .int .i64 0, .int .i64 0, .int .i64 0, .int .i64 0, .slice none 0 0] 32) = w0 at *
  refine Calls.mono hcall ?_
  rintro e w1 ⟨_, rfl, ⟨mk, rfl, hmk, -, -, -⟩, hd1⟩
  clear hcall
  have hsa := hd1.size
  replace R0 := R0.dr hd1 (by omega)
  replace hd1 := hd0.trans hd1
  clear hd0
  have HMk := Lib.hid hmk
  clear hmk
  obtain ⟨c, d, s, m, lm⟩ := mk
  unfold MK.v
  have hby := Box5.new w1 ⟨c, d, s, m, lm⟩ 25
  have hd3 := hd1.alloc (.cells #[.int .i64 c, .int .i64 d, .int .i64 s, .int .i64 m, .int .i64 lm] 25)
  replace R0 := R0.dr ((Dr.refl hd1.src).alloc (.cells #[.int .i64 c, .int .i64 d, .int .i64 s, .int .i64 m, .int .i64 lm] 25)) (by omega)
  obtain ⟨b, hb⟩ : ∃ b, w1.heap.size = b := ⟨_, rfl⟩
  have hgb : b ≠ g := by omega
  have hwb : w.heap.size ≤ b := by omega
  have hbw : b ≠ w.heap.size := by omega
  have hb3 : (w1.alloc (.cells #[.int .i64 c, .int .i64 d, .int .i64 s, .int .i64 m, .int .i64 lm] 25)).heap.size = b + 1 := by simp [hb]
  have hcall := l01Next_c _ g hd3.src 4 (by unfold I64; omega)
  go_wp2_with fail
  simp only [hb] at hby ⊢
  generalize w1.alloc (.cells #[.int .i64 c, .int .i64 d, .int .i64 s, .int .i64 m, .int .i64 lm] 25) = w3 at *
  refine Calls.mono hcall ?_
  rintro e w4 ⟨_, rfl, ⟨x2, rfl, h20, h21⟩, hd4⟩
  clear hcall
  replace R0 := R0.dr hd4 (by omega)
  replace hby := hby.dr hd4 hgb
  have hs34 := hd4.size
  replace hd3 := hd3.trans hd4
  clear hd4
  have hcall := l01Next_c _ g hd3.src 4 (by unfold I64; omega)
  go_wp2_with fail
  refine Calls.mono hcall ?_
  rintro e w4' ⟨_, rfl, ⟨x3, rfl, h30, h31⟩, hd4⟩
  clear hcall
  replace R0 := R0.dr hd4 (by omega)
  replace hby := hby.dr hd4 hgb
  have hs44 := hd4.size
  replace hd3 := hd3.trans hd4
  clear hd4
  obtain ⟨rw', hrw⟩ : ∃ n : Nat, 1 + x2 = n := ⟨(1 + x2).toNat, by omega⟩
  obtain ⟨cl, hcl⟩ : ∃ n : Nat, 1 + x3 = n := ⟨(1 + x3).toNat, by omega⟩
  have hrw4 : 1 ≤ rw' ∧ rw' ≤ 4 := by omega
  have hcl5 : 1 ≤ cl ∧ cl ≤ 4 := by omega
  clear h20 h21 h30 h31 hd1
  go_wp2_with fail
  try rw [hrw]
  try rw [hcl]
  clear hrw hcl
  have HR0 := Lib.hid R0
  have HBy := Lib.hid hby
  have HD3 := Lib.hid hd3
  have hsrc := hd3.src
  have hs3 := hd3.size
  have hg4 : g < w4'.heap.size := by omega
  have hb4 : b < w4'.heap.size := by omega
  clear R0 hby hd3
  have o1 : OwnR true w4'.heap.size IntsR 41 w4'.heap.size (w4'.alloc (.cells #[] 41)) (.slice (some ⟨w4'.heap.size, 0, none⟩) 0 0) [] := OwnR.empty (Nat.le_refl _)
  have d1 := (Dr.refl hsrc).alloc (.cells #[] 41)
  generalize w4'.alloc (.cells #[] 41) = w5 at *
  go_loopw [6, 7, 8, 9] (fun s6 s7 _ _ wr => ∃ (k : Nat) (t : List (List Int)), s7 = .int .i64 k ∧ k ≤ rw' ∧ OwnR true w4'.heap.size IntsR 41 w4'.heap.size wr s6 t ∧ Tab01 k cl t ∧ Dr g w4' wr) (fun _ s7 _ _ _ => rw' - (intOf s7).toNat)
  case atStart => exact ⟨0, [], rfl, Nat.zero_le _, o1, ⟨rfl, by simp, by simp⟩, d1⟩
  case round =>
    obtain ⟨k, t, rfl, hk, hown, htab, hd⟩ := hrel
    obtain ⟨wo, rfl⟩ : ∃ wo, wo = wr := ⟨_, rfl⟩
    clear o1 d1
    have HO := Lib.hid hown
    have HT := Lib.hid htab
    have HD := Lib.hid hd
    have hsz := hd.size
    have hgr : g < wo.heap.size := by omega
    by_cases hlt2 : k < rw'
    · clear hown htab
      go_wp2_with fail
      have oi : OwnP (Value.int .i64) 2 wo.heap.size (wo.alloc (.cells #[] 2)) (.slice (some ⟨wo.heap.size, 0, none⟩) 0 0) [] := OwnP.empty (Nat.le_refl _)
      have di : Dr g wo (wo.alloc (.cells #[] 2)) := (Dr.refl hd.src).alloc _
      generalize wo.alloc (.cells #[] 2) = wi at *
      clear hd
      go_loopw [8, 9] (fun s8 s9 wx => ∃ (i : Nat) (l : List Int), s9 = .int .i64 i ∧ i ≤ cl ∧ l.length = i ∧ (∀ y ∈ l, y = 0 ∨ y = 1) ∧ OwnP (Value.int .i64) 2 wo.heap.size wx s8 l ∧ Dr g wo wx) (fun _ s9 _ => cl - (intOf s9).toNat)
      case atStart => exact ⟨0, [], rfl, Nat.zero_le _, rfl, by simp, oi, di⟩
      case round =>
        obtain ⟨i, l, rfl, hi, hll, hli, ho, hdx⟩ := hrel
        clear oi di
        have hsx := hdx.size
        by_cases hin : i < cl
        · have hcall := pickL_c wr g hdx.src [0, 0, 1] #[.int .i64 0, .int .i64 0, .int .i64 1] rfl (by simp [I64]) (by simp) (by simp) rfl rfl
          have hd5 := hdx.alloc (.cells #[.int .i64 0, .int .i64 0, .int .i64 1] 2)
          have ho5 := ho.alloc (.cells #[.int .i64 0, .int .i64 0, .int .i64 1] 2)
          have HLi := Lib.hid hli
          have Hll := Lib.hid hll
          clear hdx ho hli hll
          go_wp2_with fail
          refine Calls.mono hcall ?_
          rintro e w7 ⟨_, rfl, ⟨y, rfl, hyl⟩, hd6⟩
          have hy : y = 0 ∨ y = 1 := by simp only [List.mem_cons, List.not_mem_nil, or_false] at hyl; omega
          clear hcall hyl
          have hd7 := hd5.trans hd6
          have ho7 := ho5.dr hd6 hgr
          have hs7 := hd7.size
          have hl1 : l.length ≤ 1000000 := by rw [Hll.out]; omega
          clear hd5 hd6 ho5
          go_wp2_with (at_builtin; (refine wpList_drawInt (g := g) (w0 := wo) (B := wo.heap.size) rfl _ _ 41 rfl Tryz.underlying41 Tryz.infoI64 rfl ho7 y rfl hl1 hd7 (Nat.le_refl _) hs7 ?_); intro v8 w8 hown8 hd8 hs8)
          go_wp2_with fail
          exact ⟨⟨i + 1, l ++ [y], by go_num, by omega, by rw [List.length_append, List.length_singleton, Hll.out], fun z hz => by
            rcases List.mem_append.1 hz with hz | hz
            · exact HLi.out z hz
            · rw [List.mem_singleton.1 hz]; exact hy, hown8, hd8⟩, by simp [intOf]; omega⟩
        · have hie : i = cl := by omega
          obtain ⟨a7, n7, c7, rfl, -⟩ := OwnP.shape ho
          have HX : Hid (IntsR ⟨wo.heap.size, wr.heap.size, true⟩ wr (.slice a7 n7 c7) l) := OwnP.ints ho (fun y hy => by have := hli y hy; unfold I64; omega) (Nat.le_refl _)
          have HLn : Hid (l.length = cl) := hll.trans hie
          have HLi := Lib.hid hli
          have HOr : Hid (OwnA true (fun k => w4'.heap.size ≤ k ∧ k < wo.heap.size) IntsR 41 w4'.heap.size wr _ t) := OwnA.drA stable_ints HO.out.cap hdx hg4 (fun q => by omega)
          have HV : Hid (∀ k, u6.ownBlock = some k → k < wo.heap.size) := fun k hk => (OwnA.block HO.out k hk).2
          have HL1 : Hid (t.length ≤ 1000000) := by show _ ≤ _; rw [HT.out.len]; omega
          have HDx := Lib.hid (HD.out.trans hdx)
          clear ho hli hll hie hdx
          go_wp2_with (at_builtin; (refine wpList_drawRowT (v := u6) (g := g) (w0 := w4') (B := w4'.heap.size) (L := w4'.heap.size) stable_ints slRepr_slice rfl _ _ 30 rfl Tryz.underlying30 Tryz.infoInts rfl HOr.out (a7, n7, c7) l HX.out rfl rfl HL1.out hsz hsx HV.out HDx.out (Nat.le_refl _) (by omega) ?_); intro v8 w8 hown8 hd8 hs8)
          go_wp2_with fail
          exact ⟨⟨k + 1, t ++ [l], by go_num, by omega, hown8, ⟨by rw [List.length_append, List.length_singleton, HT.out.len], fun x hx => by
            rcases List.mem_append.1 hx with hx | hx
            · exact HT.out.row x hx
            · rw [List.mem_singleton.1 hx]; exact HLn.out, fun x hx => by
            rcases List.mem_append.1 hx with hx | hx
            · exact HT.out.ent x hx
            · rw [List.mem_singleton.1 hx]; exact HLi.out⟩, hd8⟩, by simp [intOf]; omega⟩
    · have hke : k = rw' := by omega
      subst hke
      clear hlt2 hk
      obtain ⟨a4, n4, c4, rfl, -⟩ := OwnA.shape hown
      have hcall := l01Next_c wo g hd.src k (by unfold I64; omega)
      clear hown htab
      go_wp2_with fail
      refine Calls.mono hcall ?_
      rintro e w6 ⟨_, rfl, ⟨ms, rfl, hm0, hm1⟩, hd6⟩
      clear hcall
      obtain ⟨ms, rfl⟩ : ∃ n : Nat, ms = n := ⟨ms.toNat, by omega⟩
      have hms : ms < k := by omega
      clear hm0 hm1
      have o6 := OwnR.dr stable_ints HO.out hd6 hg4 hg4
      have d6 := hd.trans hd6
      clear hd hd6
      obtain ⟨rw', hrr⟩ : ∃ n, n = k := ⟨_, rfl⟩
      subst hrr
      have hTab := HT.out
      clear HO HT HD hsz hgr
      go_wp2_with fail
      go_loopw [11] (fun s11 wr => ∃ (k : Nat) (t : List (List Int)), s11 = .int .i64 k ∧ k ≤ cl ∧ OwnR true w4'.heap.size IntsR 41 w4'.heap.size wr (.slice a4 n4 c4) t ∧ Tab01 rw' cl t ∧ openTo t k ∧ Dr g w4' wr) (fun s11 _ => cl - (intOf s11).toNat)
      case atStart => exact ⟨0, t, rfl, Nat.zero_le _, o6, hTab, fun j hj => absurd hj (Nat.not_lt_zero _), d6⟩
      case round =>
        clear o6 d6 hTab
        obtain ⟨k, t', rfl, hk, ho, htab, hop, hd⟩ := hrel
        have HT' := Lib.hid htab
        have HOp := Lib.hid hop
        have HO' := Lib.hid ho
        by_cases hlt2 : k < cl
        · have hcall := l01Next_c wr g hd.src 3 (by unfold I64; omega)
          clear ho htab hop
          go_wp2_with fail
          refine Calls.mono hcall ?_
          rintro e w7 ⟨_, rfl, ⟨x, rfl, hx0, hx1⟩, hd7⟩
          clear hcall
          have hO7 := OwnR.dr stable_ints HO'.out hd7 hg4 hg4
          replace hd7 := hd.trans hd7
          clear hd
          by_cases hxp : 0 < x
          · have hl8 := HT'.out.len
            have hj8 : ms < t'.length := by omega
            have hc8 : k < t'[ms].length := by rw [HT'.out.row _ (List.getElem_mem hj8)]; exact hlt2
            obtain ⟨gb, n', c', rb, ro, rn, rc, he, hnl, hc0, hrn, hrb1, hrb2, hrb3, ⟨x0, hcx⟩, hcf, hgb1, hgb2, hpoke⟩ := pokeAt hO7 hj8 hc8 (Nat.le_refl _)
            injection he with he1 he2 he3
            subst he1; subst he2; subst he3
            rw [HT'.out.row _ (List.getElem_mem hj8)] at hrn
            replace hrn := hrn.symm
            subst hrn
            have HO8 := Lib.hid (hpoke 1 (by unfold I64; omega))
            have HT8 := Lib.hid (HT'.out.set hj8 k)
            have HOp8 := Lib.hid (HOp.out.set hj8 k)
            have hd8 := hd7.put (p := ⟨rb, ro + k, none⟩) hrb1 (.int .i64 1)
            have hjn' : (ms : Int) < (n4 : Int) := by omega
            have hc0' : w7.cell? ⟨gb, 0 + ms, none⟩ = some (.slice (some ⟨rb, ro, none⟩) cl rc) := by rw [Nat.zero_add]; exact hc0
            have hki : (k : Int) < (cl : Int) := by omega
            clear hpoke hO7 hnl
            go_wp2_with fail
            clear hc0 hc0' hcx hcf hd7
            generalize w7.setCell ⟨rb, ro + k, none⟩ (.int .i64 1) = w8 at *
            obtain ⟨t8, ht8⟩ : ∃ t8, t'.set ms (t'[ms].set k 1) = t8 := ⟨_, rfl⟩
            rw [ht8] at HO8 HT8 HOp8
            clear ht8 hl8 hj8 hc8 hrb1 hrb2 hrb3 hgb1 hgb2 hjn'
            have hcall := l01Next_c w8 g hd8.src rw' (by unfold I64; omega)
            go_wp2_with fail
            refine Calls.mono hcall ?_
            rintro e w9 ⟨_, rfl, ⟨j, rfl, hj0, hj1⟩, hd9⟩
            clear hcall
            obtain ⟨jn, rfl⟩ : ∃ n : Nat, j = n := ⟨j.toNat, by omega⟩
            have hjn : jn < rw' := by omega
            have hO9 := OwnR.dr stable_ints HO8.out hd9 hg4 hg4
            have hd10 := hd8.trans hd9
            have hl8 := HT8.out.len
            have hj8 : jn < t8.length := by omega
            have hc8 : k < t8[jn].length := by rw [HT8.out.row _ (List.getElem_mem hj8)]; exact hlt2
            obtain ⟨gb, n', c', rb, ro, rn, rc, he, hnl, hc0, hrn, hrb1, hrb2, hrb3, ⟨x0, hcx⟩, hcf, hgb1, hgb2, hpoke⟩ := pokeAt hO9 hj8 hc8 (Nat.le_refl _)
            injection he with he1 he2 he3
            injection he1 with he1; injection he1 with he1 _ _
            subst he1; subst he2; subst he3
            rw [HT8.out.row _ (List.getElem_mem hj8)] at hrn
            replace hrn := hrn.symm
            subst hrn
            have HP := Lib.hid (hpoke 1 (by unfold I64; omega))
            have HTn := Lib.hid (HT8.out.set hj8 k)
            have HOn := Lib.hid (HOp8.out.next hj8 hc8)
            have hd11 := hd10.put (p := ⟨rb, ro + k, none⟩) hrb1 (.int .i64 1)
            have hjn' : (jn : Int) < (n4 : Int) := by omega
            have hc0' : w9.cell? ⟨gb, 0 + jn, none⟩ = some (.slice (some ⟨rb, ro, none⟩) cl rc) := by rw [Nat.zero_add]; exact hc0
            have hki : (k : Int) < (cl : Int) := by omega
            clear hpoke hO9 hnl hl8
            go_wp2_with fail
            exact ⟨⟨k + 1, _, by go_num, by omega, HP.out, HTn.out, HOn.out, hd11⟩, by simp [intOf]; omega⟩
          · obtain ⟨w8, hw8⟩ : ∃ w8, w8 = w7 := ⟨_, rfl⟩
            subst hw8
            obtain ⟨t8, ht8⟩ : ∃ t8, t8 = t' := ⟨_, rfl⟩
            subst ht8
            have HO8 := Lib.hid hO7
            have HT8 := HT'
            have HOp8 := HOp
            have hd8 := hd7
            clear hO7 hd7
            have hcall := l01Next_c w8 g hd8.src rw' (by unfold I64; omega)
            go_wp2_with fail
            refine Calls.mono hcall ?_
            rintro e w9 ⟨_, rfl, ⟨j, rfl, hj0, hj1⟩, hd9⟩
            clear hcall
            obtain ⟨jn, rfl⟩ : ∃ n : Nat, j = n := ⟨j.toNat, by omega⟩
            have hjn : jn < rw' := by omega
            have hO9 := OwnR.dr stable_ints HO8.out hd9 hg4 hg4
            have hd10 := hd8.trans hd9
            have hl8 := HT8.out.len
            have hj8 : jn < t8.length := by omega
            have hc8 : k < t8[jn].length := by rw [HT8.out.row _ (List.getElem_mem hj8)]; exact hlt2
            obtain ⟨gb, n', c', rb, ro, rn, rc, he, hnl, hc0, hrn, hrb1, hrb2, hrb3, ⟨x0, hcx⟩, hcf, hgb1, hgb2, hpoke⟩ := pokeAt hO9 hj8 hc8 (Nat.le_refl _)
            injection he with he1 he2 he3
            subst he1; subst he2; subst he3
            rw [HT8.out.row _ (List.getElem_mem hj8)] at hrn
            replace hrn := hrn.symm
            subst hrn
            have HP := Lib.hid (hpoke 1 (by unfold I64; omega))
            have HTn := Lib.hid (HT8.out.set hj8 k)
            have HOn := Lib.hid (HOp8.out.next hj8 hc8)
            have hd11 := hd10.put (p := ⟨rb, ro + k, none⟩) hrb1 (.int .i64 1)
            have hjn' : (jn : Int) < (n4 : Int) := by omega
            have hc0' : w9.cell? ⟨gb, 0 + jn, none⟩ = some (.slice (some ⟨rb, ro, none⟩) cl rc) := by rw [Nat.zero_add]; exact hc0
            have hki : (k : Int) < (cl : Int) := by omega
            clear hpoke hO9 hnl hl8
            go_wp2_with fail
            exact ⟨⟨k + 1, _, by go_num, by omega, HP.out, HTn.out, HOn.out, hd11⟩, by simp [intOf]; omega⟩
        · have hke : k = cl := by omega
          subst hke
          have HF : Hid (isSystem ⟨c, d, s, m, lm⟩ t' = true) := tab_system HMk.out HT'.out (by omega) (by omega) HOp.out
          obtain ⟨⟨c0, c1, c2, c3, c4'⟩, -⟩ := (HBy.out.dr hd hgb)
          simp only at c0 c1 c2 c3 c4'
          obtain ⟨r0, r1, r2, r3, r4, r5, f0, f1, f2, f3, f4, f5⟩ := HR0.out.dr hd (by omega)
          have HDF := Lib.hid (HD3.out.trans hd)
          have hsr := hd.size
          clear ho htab hop hd
          go_wp2_with fail
          refine bodyPost_ret (v := .agg #[.int .i64 c, .int .i64 d, .int .i64 s, .int .i64 m, .int .i64 lm, .slice a4 n4 c4]) (by simp [results, Tryz.results109, go_sem, r0, r1, r2, r3, r4, r5]) rfl ⟨_, rfl, ⟨⟨c, d, s, m, lm⟩, _, t', rfl, HF.out, ?_, by rw [HT'.out.len]; omega, fun x hx => by rw [HT'.out.row x hx]; omega⟩, put6 HDF.out (Nat.le_refl _) _ _ _ _ _ _⟩
          refine OwnR.lower (OwnA.outside stable_ints HO'.out (g := w.heap.size) (fun k _ hk => put6_other hk _ _ _ _ _ _) (by rw [put6_size]; exact Nat.le_refl _) (by omega) (fun e => by have := (OwnA.block HO'.out _ e).1; omega)) (by omega) (by omega)

open Go.ChangeShapes Go.WideShapes Go.ChangeAt Go.RowKit
set_option linter.unusedVariables false

theorem SysAt.dr {g b : Nat} {w w' : World} {mk : MK} {v : Value} (h : SysAt w b mk v) (hd : Dr g w w') (hb : b ≠ g) : SysAt w' b mk v := h.of (hd.grown.block b h.lt (by intro e; injection e with e; omega))
/-- a store of an element that lies from block lo on -/
theorem SliceR.storeLo {α : Type} {E : Repr α} (hE : Stable E) {z : Zone} {w1 : World} {b off n cap : Nat} {xs : List α} (h : SliceR E z w1 (.slice (some ⟨b, off, none⟩) n cap) xs) (ho : z.own = true) {lo : Nat} (hz : z.hi ≤ lo) (hlo : lo ≤ w1.heap.size) (i : Nat) (hi : i < n) (u : Value) (x : α)
    (hu : E ⟨lo, w1.heap.size, true⟩ w1 u x) :
    SliceR E ⟨z.lo, w1.heap.size, true⟩ (w1.setCell ⟨b, off + i, none⟩ u) (.slice (some ⟨b, off, none⟩) n cap) (xs.set i x) := by
  obtain ⟨a, cap', he, h1, h2, h3, h4⟩ := h
  injection he with ha hn hc
  subst ha; subst hc; subst hn
  refine ⟨some ⟨b, off, none⟩, cap, by simp, by simpa using h1, h2, (fun h => by cases h), fun ad had _ => ?_⟩
  cases had
  obtain ⟨k1, k2, k3, k4, Z, k5, k6, k7⟩ := h4 _ rfl (by omega)
  simp only at k2 k3 k4 k7
  have hbz := k2.2
  have k6' := k6 ho
  have hset : ∀ k, k ≠ b → (w1.setCell ⟨b, off + i, none⟩ u).heap[k]? = w1.heap[k]? := fun k hk => Below.heap_setCell _ _ _ _ hk
  refine ⟨k1, ⟨k2.1, by show b < w1.heap.size; omega⟩, by simp only [World.setCell, Array.size_modify]; omega, fun _ j hj => ?_, fun j => if j = i then ⟨lo, w1.heap.size, true⟩ else Z j, fun j hj => ?_, fun _ => ⟨fun j hj => ?_, fun j l hjl hl => ?_⟩, fun j hj => ?_⟩
  · rw [World.frozen?_setCell]; exact k4 ho j (by simpa using hj)
  · by_cases e : j = i
    · simp only [e, if_true]
      exact ⟨fun k hk => ⟨by have h1 := k2.1; have h2 := hk.1; simp only at h1 h2 ⊢; omega, hk.2⟩, fun _ => rfl⟩
    · simp only [e, if_false]
      have hs := k5 j (by simpa using hj)
      exact ⟨fun k hk => ⟨(hs.1 k hk).1, by have := (hs.1 k hk).2; show k < w1.heap.size; omega⟩, fun _ => hs.2 ho⟩
  · by_cases e : j = i
    · simp only [e, if_true]; intro hk; have := hk.1; simp only at this; omega
    · simp only [e, if_false]; exact k6'.1 j (by simpa using hj)
  · have hl' : l < xs.length := by simpa using hl
    have hj' : j < xs.length := by omega
    intro k ha hc
    by_cases e1 : j = i
    · have e2 : l ≠ i := by omega
      simp only [e1, e2, if_true, if_false] at ha hc
      have q1 := ha.1
      have q2 := ((k5 l hl').1 k hc).2
      simp only at q1; omega
    · by_cases e2 : l = i
      · simp only [e1, e2, if_true, if_false] at ha hc
        have q1 := hc.1
        have q2 := ((k5 j hj').1 k ha).2
        simp only at q1; omega
      · simp only [e1, e2, if_false] at ha hc
        exact k6'.2 j l hjl hl' k ha hc
  · have hj' : j < xs.length := by simpa using hj
    obtain ⟨u', c1, c2⟩ := k7 j hj'
    by_cases e : j = i
    · subst e
      refine ⟨u, World.cell?_setCell_same _ _ _ c1, ?_⟩
      simp only [if_true, List.getElem_set_self]
      refine hE.keep hu (fun k hk _ => hset k ?_)
      have q := hk.1; simp only at q; omega
    · refine ⟨u', ?_, ?_⟩
      · rw [World.cell?_setCell_other _ _ _ _ (by intro h; injection h with _ h _; simp only at h; omega)]; exact c1
      · simp only [e, if_false]
        rw [List.getElem_set_ne (by omega)]
        refine hE.keep c2 (fun k hk _ => hset k (fun e => ?_))
        exact k6'.1 j hj' (e ▸ hk)
/-- cuts that a draw hands back -/
def CutsD (w : World) (r : Value) (w' : World) : Prop := ∃ cuts : List (List Int), RowsR ⟨w.heap.size, w'.heap.size, false⟩ w' r cuts ∧ cuts.length ≤ 20

set_option maxRecDepth 20000 in
set_option maxHeartbeats 4000000 in
theorem l15DrawCuts_c (w : World) (g : Nat) (h : Src g w) (mk : MK) (hm : isMaker mk = true) (hmr : MkR mk) (a : Option Addr) (n cap : Nat) (hn : 1 ≤ n ∧ n ≤ 14) :
    Calls Tryz.prog 134 #[.pointer (some ⟨g, 0, none⟩), sysV mk (.slice a n cap)] w (DrawR g w (CutsD w)) := by
  have hlt := h.lt
  have HSo := Lib.hid (fun (w' : World) (h : Src g w') => l02Some_c w' g h mk hm)
  have HDc := Lib.hid (fun (w' : World) (h : Src g w') => l02DrawCuts_c w' g h mk hmr)
  have hd0 := Dr.refl h
  clear h hm hmr
  unfold sysV MK.v at *
  go_enter Tryz.func134, Tryz.ntmps134
  go_wp2_with fail
  generalize hwb : w.alloc (.cells #[.int .i64 mk.c, .int .i64 mk.d, .int .i64 mk.s, .int .i64 mk.m, .int .i64 mk.l, .slice a n cap] 32) = wb
  obtain ⟨S0, hb0, hsz⟩ : SysAt wb w.heap.size mk (.slice a n cap) ∧ Dr g w wb ∧ wb.heap.size = w.heap.size + 1 := by
    obtain ⟨e, s⟩ := sys_box hwb
    exact ⟨s, by rw [← hwb]; exact hd0.alloc _, by rw [← hwb]; simp⟩
  clear hwb hd0
  have HB0 := Lib.hid hb0
  have HS0 := Lib.hid S0
  have hgn : w.heap.size ≠ g := by omega
  have hgw : g < wb.heap.size := by omega
  have hsz' : w.heap.size + 1 = wb.heap.size := hsz.symm
  simp only [hsz']
  have hsrc := hb0.src
  have o0 : OwnR true wb.heap.size IntsR 41 wb.heap.size (wb.alloc (.cells #[] 41)) (.slice (some ⟨wb.heap.size, 0, none⟩) 0 0) [] := OwnR.empty (Nat.le_refl _)
  have d0 := (Dr.refl hsrc).alloc (.cells #[] 41)
  generalize wb.alloc (.cells #[] 41) = w0 at *
  clear hb0 S0 hsz hsrc
  go_loopw [5, 6] (fun s5 s6 wr => ∃ (k : Nat) (cuts : List (List Int)), s6 = .int .i64 k ∧ k ≤ n ∧ cuts.length = k ∧ OwnR true wb.heap.size IntsR 41 wb.heap.size wr s5 cuts ∧ Dr g wb wr) (fun _ s6 _ => n - (intOf s6).toNat)
  case atStart => exact ⟨0, [], rfl, Nat.zero_le _, rfl, o0, d0⟩
  case round =>
    clear o0 d0
    obtain ⟨k, cuts, rfl, hk, hkl, hown, hd⟩ := hrel
    have HO := Lib.hid hown
    have HD := Lib.hid hd
    have Hkl := Lib.hid hkl
    obtain ⟨c0, c1, c2, c3, c4, c5⟩ := HS0.out.dr hd hgn
    by_cases hlt2 : k < n
    · have hcall := HSo.out wr hd.src
      have HOc := Lib.hid hown.cap
      have HV : Hid (∀ k, u5.ownBlock = some k → k < wr.heap.size) := fun k hk => (OwnA.block HO.out k hk).2
      have hrl : wb.heap.size ≤ wr.heap.size := hd.size
      clear hown hd hkl
      go_wp2_with fail
      refine Calls.mono hcall ?_
      rintro e w7 ⟨r7, rfl, ⟨l, hl⟩, hd7⟩
      clear hcall
      obtain ⟨a7, n7, k7, rfl, -⟩ := SliceR.shape hl
      have HX := Lib.hid hl
      have HOr : Hid (OwnA true (fun k => wb.heap.size ≤ k ∧ k < wr.heap.size) IntsR 41 wb.heap.size w7 _ cuts) := OwnA.drA stable_ints HOc.out hd7 hgw (fun q => by omega)
      have HDx := Lib.hid (HD.out.trans hd7)
      have hs7 := hd7.size
      have HL1 : Hid (cuts.length ≤ 1000000) := by show _ ≤ _; rw [Hkl.out]; omega
      clear hl hd7 HOc c0 c1 c2 c3 c4 c5
      go_wp2_with (at_builtin; (refine wpList_drawRowT (v := u5) (g := g) (w0 := wb) (B := wb.heap.size) (L := wb.heap.size) stable_ints slRepr_slice rfl _ _ 30 rfl Tryz.underlying30 Tryz.infoInts rfl HOr.out (a7, n7, k7) l HX.out rfl rfl HL1.out hrl hs7 HV.out HDx.out (Nat.le_refl _) (by omega) ?_); intro v8 w8 hown8 hd8 hs8)
      go_wp2_with fail
      exact ⟨⟨k + 1, cuts ++ [l], by go_num, by omega, by rw [List.length_append, List.length_singleton, Hkl.out], hown8, hd8⟩, by simp [intOf]; omega⟩
    · have hcall := l01Next_c wr g hd.src 30 (by unfold I64; omega)
      obtain ⟨a5, n5, k5, rfl, hn5, -⟩ := OwnR.shape hown
      have Hn5 := Lib.hid hn5
      have hn5' : n5 = n := by omega
      clear hown hd hkl hn5
      go_wp2_with fail
      refine Calls.mono hcall ?_
      rintro e w7 ⟨_, rfl, ⟨x, rfl, hx0, hx1⟩, hd7⟩
      clear hcall
      have hO7 := OwnR.dr stable_ints HO.out hd7 hgw hgw
      have hd7t := HD.out.trans hd7
      have HO7 := Lib.hid hO7
      have HD7 := Lib.hid hd7t
      have hwz : w.heap.size ≤ wb.heap.size := by omega
      have hs7 := hd7t.size
      have HFin : Hid (∀ w' u (cs : List (List Int)), Dr g wb w' → RowsR ⟨w.heap.size, w'.heap.size, false⟩ w' u cs → cs.length ≤ 20 → DrawR g w (CutsD w) (.returned u) w') := fun w' u cs hd hr hl => ⟨_, rfl, ⟨cs, hr, hl⟩, HB0.out.trans hd⟩
      have HRow : Hid (RowsR ⟨w.heap.size, w7.heap.size, false⟩ w7 (.slice a5 n5 k5) cuts) := stable_rows.sub (OwnR.rows hO7) ⟨fun k hk => ⟨Nat.le_trans hwz hk.1, hk.2⟩, fun h => by cases h⟩
      have hcl : cuts.length ≤ 14 := by have := Hkl.out; omega
      have Hcl := Lib.hid hcl
      clear hO7 hd7t hd7 c0 c1 c2 c3 c4 c5
      obtain ⟨c0, c1, c2, c3, c4, c5⟩ := HS0.out.dr HD7.out hgn
      by_cases e0 : x = 0
      · subst e0
        have hcall := HDc.out w7 HD7.out.src
        obtain ⟨gb, ha5, hg1, hg2, hcell, hfr⟩ : ∃ gb, a5 = some ⟨gb, 0, none⟩ ∧ wb.heap.size ≤ gb ∧ gb < w7.heap.size ∧ (∃ u, w7.cell? ⟨gb, 0, none⟩ = some u) ∧ w7.frozen? ⟨gb, 0, none⟩ = false := by
          obtain ⟨us, Z, hl, ho, -⟩ := HO7.out
          obtain ⟨a', n', c', he, hn', -, hel⟩ := ho.shape
          injection he with q1 q2 q3
          subst q1
          obtain ⟨gb, rfl, h1, h2, h3, h4⟩ := hel 0 (by have := Hkl.out; omega)
          exact ⟨gb, rfl, h1, h2, ⟨_, h3⟩, h4⟩
        subst ha5
        clear hn5' hcl
        have hgbg : gb ≠ g := by omega
        have hRd : SliceR IntsR ⟨wb.heap.size, w7.heap.size, true⟩ w7 (.slice (some ⟨gb, 0, none⟩) n5 k5) cuts := OwnR.reads HO7.out (Nat.le_refl _)
        have HRd := Lib.hid hRd
        have hn50 : 0 < n5 := by have h1 := Hn5.out; have h2 := Hkl.out; omega
        have hn50' : (0 : Int) < (n5 : Int) := by omega
        obtain ⟨uc, hcell⟩ := hcell
        clear hRd
        go_wp2_with fail
        refine Calls.mono hcall ?_
        rintro e w8 ⟨r8, rfl, ⟨l, hl⟩, hd8⟩
        clear hcall c0 c1 c2 c3 c4 c5
        obtain ⟨a8, n8, k8, rfl, -⟩ := SliceR.shape hl
        have hc8 := hd8.cell hcell hgbg
        have hf8 := (hd8.frozen hg2 hgbg).trans hfr
        have hR8 := stable_rows.dr HRd.out hd8 (.inl hgw)
        have hSt := SliceR.storeLo stable_ints hR8 rfl (Nat.le_refl _) hd8.size 0 hn50 _ l hl
        rw [Nat.zero_add] at hSt
        have HSt := Lib.hid hSt
        have HDs := Lib.hid ((HD7.out.trans hd8).put (p := ⟨gb, 0, none⟩) hg1 (.slice a8 n8 k8))
        clear hSt hR8 hl hd8
        go_wp2_with fail
        go_ret
        exact HFin.out _ _ _ HDs.out (stable_rows.sub HSt.out ⟨fun k hk => ⟨Nat.le_trans hwz hk.1, by have := hk.2; simpa [World.setCell] using this⟩, fun h => by cases h⟩) (by rw [List.length_set]; have := Hcl.out; omega)
      · by_cases e1 : x = 1
        · subst e1
          have hcall := HSo.out w7 HD7.out.src
          have HOc := Lib.hid HO7.out.cap
          have HV : Hid (∀ k, (Value.slice a5 n5 k5).ownBlock = some k → k < w7.heap.size) := fun k hk => (OwnA.block HO7.out k hk).2
          clear hn5' hcl
          go_wp2_with fail
          refine Calls.mono hcall ?_
          rintro e w8 ⟨r8, rfl, ⟨l, hl⟩, hd8⟩
          clear hcall
          obtain ⟨a8, n8, k8, rfl, -⟩ := SliceR.shape hl
          have HX := Lib.hid hl
          have HOr : Hid (OwnA true (fun k => wb.heap.size ≤ k ∧ k < w7.heap.size) IntsR 41 wb.heap.size w8 _ cuts) := OwnA.drA stable_ints HOc.out hd8 hgw (fun q => by omega)
          have HDx := Lib.hid (HD7.out.trans hd8)
          have hs8 := hd8.size
          have HL1 : Hid (cuts.length ≤ 1000000) := by show _ ≤ _; have := Hcl.out; omega
          clear hl hd8 HOc c0 c1 c2 c3 c4 c5
          go_wp2_with (at_builtin; (refine wpList_drawRowT (v := .slice a5 n5 k5) (g := g) (w0 := wb) (B := wb.heap.size) (L := wb.heap.size) stable_ints slRepr_slice rfl _ _ 30 rfl Tryz.underlying30 Tryz.infoInts rfl HOr.out (a8, n8, k8) l HX.out rfl rfl HL1.out hs7 hs8 HV.out HDx.out (Nat.le_refl _) (by omega) ?_); intro v9 w9 hown9 hd9 hs9)
          go_wp2_with fail
          go_ret
          exact HFin.out _ _ _ hd9 (stable_rows.sub (OwnR.rows hown9) ⟨fun k hk => ⟨Nat.le_trans hwz hk.1, hk.2⟩, fun h => by cases h⟩) (by rw [List.length_append, List.length_singleton]; have := Hcl.out; omega)
        · clear hn5' hcl
          go_wp2_with fail
          go_ret
          exact HFin.out _ _ _ HD7.out HRow.out (by have := Hcl.out; omega)

open Go.ChangeShapes Go.WideShapes Go.ChangeAt Go.RowKit
set_option linter.unusedVariables false

/-- a system and cuts that a draw hands back -/
def SysCutsD (w : World) (r : Value) (w' : World) : Prop := ∃ (mk : MK) (v : Value) (t : List (List Int)) (u : Value) (cuts : List (List Int)), r = .tuple #[sysV mk v, u] ∧ MkR mk ∧ RowsR ⟨w.heap.size, w'.heap.size, false⟩ w' v t ∧ t.length ≤ 14 ∧ (∀ x ∈ t, x.length ≤ 14) ∧ RowsR ⟨w.heap.size, w'.heap.size, false⟩ w' u cuts ∧ cuts.length ≤ 20
theorem SysAt.putOther {b : Nat} {w : World} {mk : MK} {v : Value} {p : Addr} {u : Value} (h : SysAt w b mk v) (hb : b ≠ p.block) : SysAt (w.setCell p u) b mk v := h.of (Below.heap_setCell _ _ _ _ hb)
theorem ResAt.putOther {b : Nat} {w : World} {p : Addr} {u : Value} (h : ResAt w b) (hb : b ≠ p.block) : ResAt (w.setCell p u) b := h.of (Below.heap_setCell _ _ _ _ hb)
theorem rows_put6 {L B : Nat} {b : Bool} {w' : World} {v : Value} {t : List (List Int)} (h : RowsR ⟨L, w'.heap.size, b⟩ w' v t) (hB : B < L) (u0 u1 u2 u3 u4 u5 : Value) :
    RowsR ⟨B, ((((((w'.setCell ⟨B, 0, none⟩ u0).setCell ⟨B, 1, none⟩ u1).setCell ⟨B, 2, none⟩ u2).setCell ⟨B, 3, none⟩ u3).setCell ⟨B, 4, none⟩ u4).setCell ⟨B, 5, none⟩ u5).heap.size, false⟩ ((((((w'.setCell ⟨B, 0, none⟩ u0).setCell ⟨B, 1, none⟩ u1).setCell ⟨B, 2, none⟩ u2).setCell ⟨B, 3, none⟩ u3).setCell ⟨B, 4, none⟩ u4).setCell ⟨B, 5, none⟩ u5) v t := by
  rw [put6_size]
  exact stable_rows.sub (stable_rows.keep h (fun k hk _ => put6_other (by have := hk.1; simp only at this; omega) _ _ _ _ _ _)) ⟨fun k hk => ⟨by have := hk.1; simp only at this ⊢; omega, hk.2⟩, fun h => by cases h⟩

set_option maxRecDepth 20000 in
set_option maxHeartbeats 1500000 in
theorem l15Draw_c (w : World) (g : Nat) (h : Src g w) : Calls Tryz.prog 102 #[.pointer (some ⟨g, 0, none⟩)] w (DrawR g w (SysCutsD w)) := by
  have hlt := h.lt
  have hd0 := (Dr.refl h).alloc (.cells #[.int .i64 0, .int .i64 0, .int .i64 0, .int .i64 0, .int .i64 0, .slice none 0 0] 32)
  have R0 := res_new w 32
  have hsz0 : (w.alloc (.cells #[.int .i64 0, .int .i64 0, .int .i64 0, .int .i64 0, .int .i64 0, .slice none 0 0] 32)).heap.size = w.heap.size + 1 := by simp
  have hcall := l15Valid_c _ g hd0.src
  clear h
  go_enter Tryz.func102, Tryz.ntmps102
  go_wp2_with fail
  generalize w.alloc (.cells #[.int .i64 0, .int .i64 0, .int .i64 0, .int .i64 0, .int .i64 0, .slice none 0 0] 32) = w0 at *
  refine Calls.mono hcall ?_
  rintro e w1 ⟨_, rfl, ⟨mk, v, t, rfl, hsys, hown, ht4, hr4⟩, hd1⟩
  clear hcall
  have ok := sysOk hsys
  have hmk : isMaker mk = true := by unfold isSystem at hsys; exact (Bool.and_eq_true_iff.1 hsys).1
  have hl1 := ok.len
  have hdo := ok.doors
  have hrl : ∀ k, k < t.length → (t.getD k []).length = doorsOf t := ok.row
  have hsa := hd1.size
  replace R0 := R0.dr hd1 (by omega)
  replace hd1 := hd0.trans hd1
  clear hd0
  obtain ⟨a, n, cap, rfl, hn, -⟩ := OwnR.shape hown
  have ht0 : 0 < t.length := by omega
  have ht1 : 0 < t[0].length := by
    have h1 := hrl 0 ht0
    have e : t.getD 0 [] = t[0] := by simp [ht0]
    rw [e] at h1; omega
  obtain ⟨gb, n', c', rb, ro, rn, rc, he, hc0, hrn, hrb1, hrb2, hrb3, ⟨x0, hcx⟩, hcf, hgb1, hgb2, hpoke⟩ := pokeRows hown ht0 ht1
  injection he with he1 he2 he3
  subst he1; subst he2; subst he3
  have HPk := Lib.hid hpoke
  have hsrc1 := hd1.src
  have HP1 : Hid (∀ w', Dr g w1 w' → w'.cell? ⟨gb, 0, none⟩ = some (.slice (some ⟨rb, ro, none⟩) rn rc) ∧ w'.cell? ⟨rb, ro, none⟩ = some (.int .i64 x0) ∧ w'.frozen? ⟨rb, ro, none⟩ = false) := fun w' hd =>
    have h1 : gb ≠ g := by omega
    have h2 : rb ≠ g := by omega
    ⟨hd.cell hc0 h1, hd.cell hcx h2, (hd.frozen hrb2 h2).trans hcf⟩
  have HT0 := Lib.hid ht0
  clear hpoke hc0 hcx hcf
  have HMr := Lib.hid (mkR_of hmk)
  have HO1 := Lib.hid hown
  have HT4 := Lib.hid hr4
  have HRl := Lib.hid hrl
  have Hn := Lib.hid hn
  have HDo := Lib.hid hdo
  have hn14 : 1 ≤ n ∧ n ≤ 4 := by omega
  have hgt : g < w0.heap.size := by omega
  have HCc := Lib.hid (fun (w' : World) (h : Src g w') => l15DrawCuts_c w' g h mk hmk HMr.out (some ⟨gb, 0, none⟩) n cap (by omega))
  clear hown hr4 hrl hmk hn hdo hl1 hsys ok ht4 ht1
  unfold sysV at *
  go_wp2_with fail
  generalize hwb : World.alloc w1 _ = wb
  obtain ⟨eb, Sb⟩ := sys_box hwb
  have hdb : Dr g w wb := by rw [← hwb]; exact hd1.alloc _
  have hd1b : Dr g w1 wb := by rw [← hwb]; exact (Dr.refl hsrc1).alloc _
  have hsb : wb.heap.size = w1.heap.size + 1 := by rw [← hwb]; simp
  clear hwb
  replace R0 := R0.ext eb
  replace HO1 := Lib.hid (OwnR.below stable_ints HO1.out eb)
  obtain ⟨b, hb⟩ : ∃ b, w1.heap.size = b := ⟨_, rfl⟩
  rw [hb] at Sb hsb
  refine Calls.mono (HCc.out wb hdb.src) ?_
  rintro e w2 ⟨_, rfl, ⟨cuts, hcu, hcl⟩, hd2⟩
  obtain ⟨a2, n2, k2, rfl, -⟩ := SliceR.shape hcu
  have hbg : b ≠ g := by omega
  have hwg : w.heap.size ≠ g := by omega
  have hwb : w.heap.size < wb.heap.size := by omega
  have hgb : g < wb.heap.size := by omega
  have R2 := R0.dr hd2 hwg
  have S2 := Sb.dr hd2 hbg
  have hO2 := OwnR.dr stable_ints HO1.out hd2 hgt hgt
  have hd3 := hdb.trans hd2
  have hd12 := hd1b.trans hd2
  have Hcl := Lib.hid hcl
  have hcall := l01Next_c w2 g hd3.src 30 (by unfold I64; omega)
  rw [hb]
  clear HCc R0 Sb HO1 hdb hd2 hd1 hcl hd1b
  go_wp2_with fail
  refine Calls.mono hcall ?_
  rintro e w3 ⟨_, rfl, ⟨x, rfl, hx0, hx1⟩, hd4⟩
  clear hcall
  have HR3 := Lib.hid (R2.dr hd4 hwg)
  have HS3 := Lib.hid (S2.dr hd4 hbg)
  have HO3 := Lib.hid (OwnR.dr stable_ints hO2 hd4 hgt hgt)
  have HCu : Hid (RowsR ⟨wb.heap.size, w3.heap.size, false⟩ w3 (.slice a2 n2 k2) cuts) := stable_rows.sub (stable_rows.dr hcu hd4 (.inl hgb)) ⟨fun k hk => ⟨hk.1, Nat.lt_of_lt_of_le hk.2 hd4.size⟩, fun h => h⟩
  have HD3 := Lib.hid (hd3.trans hd4)
  have HD13 := Lib.hid (hd12.trans hd4)
  have hb3 : b < w3.heap.size := HS3.out.lt
  have hlo0 : w.heap.size < w0.heap.size := by omega
  have hRef : Dr g w3 w3 := Dr.refl hd4.src
  have HT1 : Hid (RowsR ⟨w0.heap.size, w3.heap.size, true⟩ w3 (.slice (some ⟨gb, 0, none⟩) n cap) t) := OwnR.reads HO3.out (Nat.le_refl _)
  have HTb : Hid (t.length ≤ 14 ∧ ∀ x ∈ t, x.length ≤ 14) := ⟨by rw [← Hn.out]; omega, fun x hx => by have := HT4.out x hx; omega⟩
  clear R2 S2 hO2 hcu hd3 hd4 hd12
  by_cases e0 : x = 0
  · subst e0
    have hn1 : (0 : Int) < (n : Int) := by omega
    have hrn' : (0 : Int) < (rn : Int) := by omega
    have hgne : gb ≠ g := by omega
    have hrne : rb ≠ g := by omega
    have hrng : gb ≠ rb := Ne.symm hrb3
    have hrbb : b ≠ rb := by omega
    have HCg : Hid (∀ w', Dr g w3 w' → w'.cell? ⟨b, 5, none⟩ = some (.slice (some ⟨gb, 0, none⟩) n cap) ∧ w'.cell? ⟨gb, 0, none⟩ = some (.slice (some ⟨rb, ro, none⟩) rn rc)) := fun w' hd => ⟨(HS3.out.dr hd hbg).c5, (HP1.out w' (HD13.out.trans hd)).1⟩
    have HCs : Hid (∀ w' u, Dr g w3 w' → (w'.setCell ⟨rb, ro, none⟩ u).cell? ⟨b, 5, none⟩ = some (.slice (some ⟨gb, 0, none⟩) n cap) ∧ (w'.setCell ⟨rb, ro, none⟩ u).cell? ⟨gb, 0, none⟩ = some (.slice (some ⟨rb, ro, none⟩) rn rc)) := fun w' u hd =>
      ⟨(World.cell?_of_block (a := ⟨b, 5, none⟩) (Below.heap_setCell _ _ _ _ hrbb)).trans (HCg.out w' hd).1, (World.cell?_of_block (a := ⟨gb, 0, none⟩) (Below.heap_setCell _ _ _ _ hrng)).trans (HCg.out w' hd).2⟩
    have HPick : Hid (∀ w', Drew (w3.alloc (.cells #[.int .i64 (-1), .int .i64 0, .int .i64 2] 2)) w' → Calls Tryz.prog 48 #[.pointer (some ⟨g, 0, none⟩), .slice (some ⟨w3.heap.size, 0, none⟩) 3 3] w' (DrawR g w' fun r _ => ∃ y, r = .int .i64 y ∧ y ∈ [(-1 : Int), 0, 2])) := fun w' hdq => by
      have hlit : IntsR ⟨w3.heap.size, w3.heap.size + 1, true⟩ (w3.alloc (.cells #[.int .i64 (-1), .int .i64 0, .int .i64 2] 2)) (.slice (some ⟨w3.heap.size, 0, none⟩) 3 3) [-1, 0, 2] := by
        have := OwnP.ints (OwnP.lit (f := Value.int .i64) (e := 2) (B := w3.heap.size) (w := w3) (Nat.le_refl _) [-1, 0, 2] #[.int .i64 (-1), .int .i64 0, .int .i64 2] rfl (by simp [maxLen])) (by simp [I64]) (Nat.le_refl _)
        rw [World.size_alloc] at this
        exact this
      have hsr : Src g w' := by obtain ⟨m, rfl⟩ := hdq; exact (hRef.src.alloc _).drewN m
      refine (l01Pick_c w' g hsr _ _ _ (stable_ints.ext hlit (Ext.ofDrew hdq)) (.inl (by show g < w3.heap.size; omega)) (by simp)).mono ?_
      rintro e w'' ⟨v, rfl, ⟨y, hy, rfl⟩, hd⟩
      exact ⟨_, rfl, ⟨y, rfl, hy⟩, hd⟩
    have HFin : Hid (∀ w' y, Dr g w3 w' → I64 y → RowsR ⟨w0.heap.size, (w'.setCell ⟨rb, ro, none⟩ (.int .i64 y)).heap.size, false⟩ (w'.setCell ⟨rb, ro, none⟩ (.int .i64 y)) (.slice (some ⟨gb, 0, none⟩) n cap) (t.set 0 ((t.getD 0 []).set 0 y)) ∧ RowsR ⟨wb.heap.size, (w'.setCell ⟨rb, ro, none⟩ (.int .i64 y)).heap.size, false⟩ (w'.setCell ⟨rb, ro, none⟩ (.int .i64 y)) (.slice a2 n2 k2) cuts ∧ Dr g w (w'.setCell ⟨rb, ro, none⟩ (.int .i64 y)) ∧ SysAt (w'.setCell ⟨rb, ro, none⟩ (.int .i64 y)) b mk (.slice (some ⟨gb, 0, none⟩) n cap) ∧ ResAt (w'.setCell ⟨rb, ro, none⟩ (.int .i64 y)) w.heap.size) := fun w' y hd hy => by
      have hd1' := HD13.out.trans hd
      have e0 : t.getD 0 [] = t[0]'HT0.out := by simp [HT0.out]
      have hO := HPk.out w' (fun k hk1 hk2 => hd1'.grown.block k hk2 (by intro q; injection q with q; omega)) hd1'.size (Nat.le_refl _) y hy
      rw [← e0] at hO
      have hsz : (w'.setCell ⟨rb, ro, none⟩ (.int .i64 y)).heap.size = w'.heap.size := by simp [World.setCell]
      refine ⟨OwnR.reads hO (Nat.le_refl _), ?_, (HD3.out.trans hd).put (p := ⟨rb, ro, none⟩) (by show w.heap.size ≤ rb; omega) _, (HS3.out.dr hd hbg).putOther hrbb, (HR3.out.dr hd hwg).putOther (by show w.heap.size ≠ rb; omega)⟩
      rw [hsz]
      have hc := stable_rows.dr HCu.out hd (.inl hgb)
      exact stable_rows.sub (stable_rows.keep hc (fun k hk _ => Below.heap_setCell _ _ _ _ (by have := hk.1; show k ≠ rb; simp only at this; omega))) ⟨fun k hk => ⟨hk.1, Nat.lt_of_lt_of_le hk.2 hd.size⟩, fun h => h⟩
    have hn1' : 0 < n := by omega
    clear hn14
    go_wp2_with fail
    first | (go_region_held3 (fun w' => w'.cell? ⟨b, 5, none⟩ = some (.slice (some ⟨gb, 0, none⟩) n cap) ∧ w'.cell? ⟨gb, 0, none⟩ = some (.slice (some ⟨rb, ro, none⟩) rn rc)) (first | with_reducible exact HCs.out _ _ hd77 | exact HCg.out _ (by (repeat (first | assumption | (refine Dr.drew ?_) | (refine Dr.alloc ?_ _) | (refine Dr.trans ?_ (by assumption)))); done) | fail) (first | (go_at_call 48; (with_reducible refine (HPick.out _ ?_).mono ?_); (first | exact ⟨0, rfl⟩ | exact ⟨1, rfl⟩ | exact ⟨2, rfl⟩); rintro e w7 ⟨_, rfl, ⟨y7, rfl, hy7⟩, hd7⟩; have hd77 : Dr g w3 w7 := (by (repeat (first | assumption | (refine Dr.drew ?_) | (refine Dr.alloc ?_ _) | (refine Dr.trans ?_ (by assumption)))); done); obtain ⟨-, z1, z2⟩ := HP1.out w7 (HD13.out.trans hd77)) | fail)) | fail
    have hy : I64 y7 := by simp only [List.mem_cons, List.not_mem_nil, or_false] at hy7; unfold I64; omega
    have HF := Lib.hid (HFin.out w7 y7 hd77 hy)
    clear hd7 hd77 hRef HFin HPick HCs HCg z1 z2
    generalize w7.setCell ⟨rb, ro, none⟩ (.int .i64 y7) = w8 at *
    obtain ⟨c0, c1, c2, c3, c4, c5⟩ := HF.out.2.2.2.1
    obtain ⟨r0, r1, r2, r3, r4, r5, f0, f1, f2, f3, f4, f5⟩ := HF.out.2.2.2.2
    have hwb' : w.heap.size ≠ b := by omega
    have hwb'' : b ≠ w.heap.size := by omega
    go_wp2_with fail
    refine bodyPost_ret (v := .tuple #[.agg #[.int .i64 mk.c, .int .i64 mk.d, .int .i64 mk.s, .int .i64 mk.m, .int .i64 mk.l, .slice (some ⟨gb, 0, none⟩) n cap], .slice a2 n2 k2]) (by simp [results, Tryz.results102, go_sem, r0, r1, r2, r3, r4, r5]) rfl ⟨_, rfl, ⟨mk, _, _, _, cuts, rfl, HMr.out, rows_put6 HF.out.1 hlo0 _ _ _ _ _ _, by rw [List.length_set]; exact HTb.out.1, fun x hx => ?_, rows_put6 HF.out.2.1 hwb _ _ _ _ _ _, Hcl.out⟩, put6 HF.out.2.2.1 (Nat.le_refl _) _ _ _ _ _ _⟩
    rcases List.mem_or_eq_of_mem_set hx with hx | hx
    · exact HTb.out.2 x hx
    · have e0 : t.getD 0 [] = t[0]'HT0.out := by simp [HT0.out]
      rw [hx, List.length_set, e0]; exact HTb.out.2 _ (List.getElem_mem _)
  · by_cases e1 : x = 1
    · subst e1
      have HCe : Hid (∀ w', Dr g w3 w' → w'.cell? ⟨b, 5, none⟩ = some (.slice (some ⟨gb, 0, none⟩) n cap)) := fun w' hd => (HS3.out.dr hd hbg).c5
      have HCp : Hid (∀ w' u0 u1 u2 u3 u4 u5, Dr g w3 w' → ((((((w'.setCell ⟨w.heap.size, 0, none⟩ u0).setCell ⟨w.heap.size, 1, none⟩ u1).setCell ⟨w.heap.size, 2, none⟩ u2).setCell ⟨w.heap.size, 3, none⟩ u3).setCell ⟨w.heap.size, 4, none⟩ u4).setCell ⟨w.heap.size, 5, none⟩ u5).cell? ⟨b, 5, none⟩ = some (.slice (some ⟨gb, 0, none⟩) n cap)) := fun w' u0 u1 u2 u3 u4 u5 hd => (World.cell?_of_block (put6_other (by show b ≠ w.heap.size; omega) _ _ _ _ _ _)).trans (HCe.out w' hd)
      have HM := Lib.hid (fun (w' : World) (h : Src g w') => l02Draw_c w' g h)
      go_wp2_with fail
      first | (go_region_held3 (fun w' => w'.cell? ⟨b, 5, none⟩ = some (.slice (some ⟨gb, 0, none⟩) n cap)) (first | with_reducible exact HCp.out _ _ _ _ _ _ _ hd77 | exact HCe.out _ (by (repeat (first | assumption | (refine Dr.drew ?_) | (refine Dr.alloc ?_ _) | (refine Dr.trans ?_ (by assumption)))); done) | fail) (first | (go_at_call 47; (with_reducible refine (HM.out _ (Dr.src (g := g) (w := w3) (by (repeat (first | assumption | (refine Dr.drew ?_) | (refine Dr.alloc ?_ _) | (refine Dr.trans ?_ (by assumption)))); done))).mono ?_); rintro e w7 ⟨_, rfl, ⟨mk7, rfl, hm7⟩, hd7⟩; have hd77 : Dr g w3 w7 := (by (repeat (first | assumption | (refine Dr.drew ?_) | (refine Dr.alloc ?_ _) | (refine Dr.trans ?_ (by assumption)))); done); obtain ⟨q0, q1, q2, q3, q4⟩ := mk7; unfold MK.v; obtain ⟨r0, r1, r2, r3, r4, r5, f0, f1, f2, f3, f4, f5⟩ := HR3.out.dr hd77 hwg) | fail)) | fail
      have HM7 := Lib.hid hm7
      have HD7 := Lib.hid hd77
      have HT7 := Lib.hid (stable_rows.sub (stable_rows.dr HT1.out hd77 (.inl hgt)) ⟨fun k hk => ⟨hk.1, Nat.lt_of_lt_of_le hk.2 hd77.size⟩, fun h => h⟩ : RowsR ⟨w0.heap.size, w7.heap.size, true⟩ w7 (.slice (some ⟨gb, 0, none⟩) n cap) t)
      have HC7 := Lib.hid (stable_rows.sub (stable_rows.dr HCu.out hd77 (.inl hgb)) ⟨fun k hk => ⟨hk.1, Nat.lt_of_lt_of_le hk.2 hd77.size⟩, fun h => h⟩ : RowsR ⟨wb.heap.size, w7.heap.size, false⟩ w7 (.slice a2 n2 k2) cuts)
      clear hm7 hd7 hd77
      go_wp2_with fail
      refine bodyPost_ret (v := .tuple #[.agg #[.int .i64 q0, .int .i64 q1, .int .i64 q2, .int .i64 q3, .int .i64 q4, .slice (some ⟨gb, 0, none⟩) n cap], .slice a2 n2 k2]) (by simp [results, Tryz.results102, go_sem, r0, r1, r2, r3, r4, r5]) rfl ⟨_, rfl, ⟨⟨q0, q1, q2, q3, q4⟩, _, t, _, cuts, rfl, HM7.out, rows_put6 HT7.out hlo0 _ _ _ _ _ _, HTb.out.1, HTb.out.2, rows_put6 HC7.out hwb _ _ _ _ _ _, Hcl.out⟩, put6 (HD3.out.trans HD7.out) (Nat.le_refl _) _ _ _ _ _ _⟩
    · by_cases e2 : x = 2
      · subst e2
        have HCe : Hid (∀ w', Dr g w3 w' → w'.cell? ⟨b, 0, none⟩ = some (.int .i64 mk.c) ∧ w'.cell? ⟨b, 1, none⟩ = some (.int .i64 mk.d) ∧ w'.cell? ⟨b, 2, none⟩ = some (.int .i64 mk.s) ∧ w'.cell? ⟨b, 3, none⟩ = some (.int .i64 mk.m) ∧ w'.cell? ⟨b, 4, none⟩ = some (.int .i64 mk.l)) := fun w' hd => by
          have q := HS3.out.dr hd hbg
          exact ⟨q.c0, q.c1, q.c2, q.c3, q.c4⟩
        have HCp : Hid (∀ w' u0 u1 u2 u3 u4 u5, Dr g w3 w' → ((((((w'.setCell ⟨w.heap.size, 0, none⟩ u0).setCell ⟨w.heap.size, 1, none⟩ u1).setCell ⟨w.heap.size, 2, none⟩ u2).setCell ⟨w.heap.size, 3, none⟩ u3).setCell ⟨w.heap.size, 4, none⟩ u4).setCell ⟨w.heap.size, 5, none⟩ u5).cell? ⟨b, 0, none⟩ = some (.int .i64 mk.c) ∧ ((((((w'.setCell ⟨w.heap.size, 0, none⟩ u0).setCell ⟨w.heap.size, 1, none⟩ u1).setCell ⟨w.heap.size, 2, none⟩ u2).setCell ⟨w.heap.size, 3, none⟩ u3).setCell ⟨w.heap.size, 4, none⟩ u4).setCell ⟨w.heap.size, 5, none⟩ u5).cell? ⟨b, 1, none⟩ = some (.int .i64 mk.d) ∧ ((((((w'.setCell ⟨w.heap.size, 0, none⟩ u0).setCell ⟨w.heap.size, 1, none⟩ u1).setCell ⟨w.heap.size, 2, none⟩ u2).setCell ⟨w.heap.size, 3, none⟩ u3).setCell ⟨w.heap.size, 4, none⟩ u4).setCell ⟨w.heap.size, 5, none⟩ u5).cell? ⟨b, 2, none⟩ = some (.int .i64 mk.s) ∧ ((((((w'.setCell ⟨w.heap.size, 0, none⟩ u0).setCell ⟨w.heap.size, 1, none⟩ u1).setCell ⟨w.heap.size, 2, none⟩ u2).setCell ⟨w.heap.size, 3, none⟩ u3).setCell ⟨w.heap.size, 4, none⟩ u4).setCell ⟨w.heap.size, 5, none⟩ u5).cell? ⟨b, 3, none⟩ = some (.int .i64 mk.m) ∧ ((((((w'.setCell ⟨w.heap.size, 0, none⟩ u0).setCell ⟨w.heap.size, 1, none⟩ u1).setCell ⟨w.heap.size, 2, none⟩ u2).setCell ⟨w.heap.size, 3, none⟩ u3).setCell ⟨w.heap.size, 4, none⟩ u4).setCell ⟨w.heap.size, 5, none⟩ u5).cell? ⟨b, 4, none⟩ = some (.int .i64 mk.l)) := fun w' u0 u1 u2 u3 u4 u5 hd => by
          have hb' : b ≠ w.heap.size := by omega
          obtain ⟨p0, p1, p2, p3, p4⟩ := HCe.out w' hd
          have e := put6_other (w := w') hb' u0 u1 u2 u3 u4 u5
          exact ⟨(World.cell?_of_block (a := ⟨b, 0, none⟩) e).trans p0, (World.cell?_of_block (a := ⟨b, 1, none⟩) e).trans p1, (World.cell?_of_block (a := ⟨b, 2, none⟩) e).trans p2, (World.cell?_of_block (a := ⟨b, 3, none⟩) e).trans p3, (World.cell?_of_block (a := ⟨b, 4, none⟩) e).trans p4⟩
        have HM := Lib.hid (fun (w' : World) (h : Src g w') => l11Draw_c w' g h)
        go_wp2_with fail
        first | (go_region_held3 (fun w' => w'.cell? ⟨b, 0, none⟩ = some (.int .i64 mk.c) ∧ w'.cell? ⟨b, 1, none⟩ = some (.int .i64 mk.d) ∧ w'.cell? ⟨b, 2, none⟩ = some (.int .i64 mk.s) ∧ w'.cell? ⟨b, 3, none⟩ = some (.int .i64 mk.m) ∧ w'.cell? ⟨b, 4, none⟩ = some (.int .i64 mk.l)) (first | with_reducible exact HCp.out _ _ _ _ _ _ _ hd77 | exact HCe.out _ (by (repeat (first | assumption | (refine Dr.drew ?_) | (refine Dr.alloc ?_ _) | (refine Dr.trans ?_ (by assumption)))); done) | fail) (first | (go_at_call 135; (with_reducible refine (HM.out _ (Dr.src (g := g) (w := w3) (by (repeat (first | assumption | (refine Dr.drew ?_) | (refine Dr.alloc ?_ _) | (refine Dr.trans ?_ (by assumption)))); done))).mono ?_); rintro e w7 ⟨_, rfl, ⟨t7, ht7, hl7, hr7⟩, hd7⟩; have hd77 : Dr g w3 w7 := (by (repeat (first | assumption | (refine Dr.drew ?_) | (refine Dr.alloc ?_ _) | (refine Dr.trans ?_ (by assumption)))); done); obtain ⟨a7, n7, c7, rfl, -⟩ := SliceR.shape ht7; have h77 : RowsR ⟨w3.heap.size, w7.heap.size, false⟩ w7 (.slice a7 n7 c7) t7 := ht7; obtain ⟨r0, r1, r2, r3, r4, r5, f0, f1, f2, f3, f4, f5⟩ := HR3.out.dr hd77 hwg) | fail)) | fail
        have HL7 : Hid (t7.length ≤ 14 ∧ ∀ x ∈ t7, x.length ≤ 14) := ⟨hl7, hr7⟩
        have HD7 := Lib.hid hd77
        have HT7 := Lib.hid h77
        have HC7 := Lib.hid (stable_rows.sub (stable_rows.dr HCu.out hd77 (.inl hgb)) ⟨fun k hk => ⟨hk.1, Nat.lt_of_lt_of_le hk.2 hd77.size⟩, fun h => h⟩ : RowsR ⟨wb.heap.size, w7.heap.size, false⟩ w7 (.slice a2 n2 k2) cuts)
        have hw3 : w.heap.size < w3.heap.size := by omega
        clear hd7 hd77 hl7 hr7 ht7 h77
        go_wp2_with fail
        refine bodyPost_ret (v := .tuple #[.agg #[.int .i64 mk.c, .int .i64 mk.d, .int .i64 mk.s, .int .i64 mk.m, .int .i64 mk.l, .slice a7 n7 c7], .slice a2 n2 k2]) (by simp [results, Tryz.results102, go_sem, r0, r1, r2, r3, r4, r5]) rfl ⟨_, rfl, ⟨mk, _, t7, _, cuts, rfl, HMr.out, rows_put6 HT7.out hw3 _ _ _ _ _ _, HL7.out.1, HL7.out.2, rows_put6 HC7.out hwb _ _ _ _ _ _, Hcl.out⟩, put6 (HD3.out.trans HD7.out) (Nat.le_refl _) _ _ _ _ _ _⟩
      · obtain ⟨c0, c1, c2, c3, c4, c5⟩ := HS3.out
        obtain ⟨r0, r1, r2, r3, r4, r5, f0, f1, f2, f3, f4, f5⟩ := HR3.out
        have hwb' : w.heap.size ≠ b := by omega
        have hwb'' : b ≠ w.heap.size := by omega
        clear hRef
        go_wp2_with fail
        refine bodyPost_ret (v := .tuple #[.agg #[.int .i64 mk.c, .int .i64 mk.d, .int .i64 mk.s, .int .i64 mk.m, .int .i64 mk.l, .slice (some ⟨gb, 0, none⟩) n cap], .slice a2 n2 k2]) (by simp [results, Tryz.results102, go_sem, r0, r1, r2, r3, r4, r5]) rfl ⟨_, rfl, ⟨mk, _, t, _, cuts, rfl, HMr.out, rows_put6 HT1.out hlo0 _ _ _ _ _ _, HTb.out.1, HTb.out.2, rows_put6 HCu.out hwb _ _ _ _ _ _, Hcl.out⟩, put6 HD3.out (Nat.le_refl _) _ _ _ _ _ _⟩
end Go.Proofs.YthgmojggpjnckaaGreat
