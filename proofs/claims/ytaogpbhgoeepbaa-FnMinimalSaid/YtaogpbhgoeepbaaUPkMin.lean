/- Proved: DrawIsHitting, DrawIsMinimal, DrawMinimalHittings give some sets and a list; DrawReachWith, DrawRoutesTo, DrawCountRoutes, DrawShortRoute give some rooms, rooms' numbers, doors; DrawDoorsToChange gives some rooms, rooms' numbers, doors; a room can be reached exactly if there is a route to it; rising lists, told in two ways; what ReachWith computes; codes that are none, lists of doors that rise; IsHitting and DisjointBound: program and reference compute the same, for all arguments; the least hitting list is minimal, hits, has at least as many elements as the bound and at most as many as the greedy one; DoorsToChange: program and reference compute the same, for all arguments; the doors to change stop all routes; the minimal lists are minimal, those with fewer elements first; MinimalHittings as the program computes it; ReachWith as the program computes it; the laws' own helpers for a list of integers (size, copy, equality, mark, held) do what their names say; laws.likeInts: whether two lists are equal; the laws' own helpers for a list of lists of integers (size, copy, equality, mark, held) do what their names say; laws.likeLists: whether two lists of lists are equal; laws.hasInt: whether a list has a number; laws.big: whether a code is longer than 4096 bytes. -/
import Derived.Test.YtaogpbhgoeepbaaChecked
import Derived.Deep.RegionHeld3
import Derived.Test.YtaogpbhgoeepbaaUDrawSets
import Derived.Test.YtaogpbhgoeepbaaULeastO
import Derived.Test.YtaogpbhgoeepbaaUSetsFacts
import Derived.Test.YtaogpbhgoeepbaaUDrawPlan
import Derived.Test.YtaogpbhgoeepbaaURoomsCode
import Derived.Test.YtaogpbhgoeepbaaURoutesLaw
import Derived.Test.YtaogpbhgoeepbaaULeastLaw
import Derived.Test.YtaogpbhgoeepbaaURisingFacts
import Derived.Test.YtaogpbhgoeepbaaUReachLaw
import Derived.Test.YtaogpbhgoeepbaaUBase2
import Derived.Test.YtaogpbhgoeepbaaURoutesCode
import Derived.Test.YtaogpbhgoeepbaaUHas
import Derived.Test.YtaogpbhgoeepbaaUSets
import Derived.Test.YtaogpbhgoeepbaaULeast
import Derived.Test.YtaogpbhgoeepbaaUGreedyLaw
import Derived.Test.YtaogpbhgoeepbaaUMinimal
import Derived.Test.YtaogpbhgoeepbaaURoutes
import Derived.Test.YtaogpbhgoeepbaaUMinSpec
import Derived.Test.YtaogpbhgoeepbaaUSortRows
import Derived.Test.YtaogpbhgoeepbaaULeastImpl
import Derived.Test.YtaogpbhgoeepbaaUReach
import Derived.Test.YtaogpbhgoeepbaaUInfo
import Derived.Test.YtaogpbhgoeepbaaUBytes
import Derived.Test.YtaogpbhgoeepbaaUExt
namespace Go.Proofs.Ytaogpbhgoeepbaa
open Go.ChangeShapes Go.WideShapes Go.ChangeAt Go.RowKit
set_option linter.unusedVariables false

theorem leastL_rng (p : List Int → Bool) (n : Nat) : ∀ x ∈ leastL p n, 0 ≤ x ∧ x < n := by
  intro x hx
  unfold leastL at hx
  have := bestOf_is p (allSets n)
  cases h : bestOf p (allSets n) with
  | none => rw [h] at hx; simp at hx
  | some b =>
    rw [h] at hx this
    exact (mem_allSets.1 this.1).2 x hx

def HitDrawn (r : Value) (w' : World) : Prop := ∃ (n : Int) (u : Value) (xss : List (List Int)) (v : Value) (l : List Int) (z y : Zone), r = .tuple #[.int .i64 n, u, v] ∧ I64 n ∧ RowsR z w' u xss ∧ IntsR y w' v l

set_option maxRecDepth 20000 in
set_option maxHeartbeats 2000000 in
theorem DrawIsHitting_c (w : World) (v : Value) (z : Zone) (xs : List Int) (h : BytesR z w v xs) :
    Calls Try.prog 86 #[v] w (Ret w fun r w' => HitDrawn r w') := by
  have hcall := l01From_c w v z xs h
  go_enter Try.func86, Try.ntmps86
  go_wp2_with fail
  refine Calls.mono hcall ?_
  rintro e w1 ⟨_, rfl, ⟨g, hg, rfl, hs⟩, hb⟩
  clear hcall h
  have hcall := l26Draw_c w1 g hs
  have hlt := hs.lt
  have HB : Hid (∀ w', Dr g w1 w' → Below w.heap.size w w') := fun w' hd => hb.trans (hd.below'.mono hg)
  go_wp2_with fail
  refine Calls.mono hcall ?_
  rintro e w2 ⟨_, rfl, ⟨n, u, xss, rfl, hn, hn13, hrows⟩, hd2⟩
  clear hcall hb hs
  have HR : Hid (∀ w', Dr g w2 w' → RowsR ⟨w1.heap.size, w2.heap.size, false⟩ w' u xss) := fun w' hd => stable_rows.dr hrows hd (.inl hlt)
  have hcall := AreSetsSpec_c w2 _ _ xss n hn hrows
  have hr2 := Dr.refl hd2.src
  go_wp2_with fail
  cases hA : areSets n xss with
  | true =>
    obtain ⟨a1, a12, -⟩ := areSets_mem hA
    rw [hA] at hcall
    refine Calls.mono hcall ?_
    rintro e w3 hr
    obtain ⟨rfl, -, e3⟩ := retq_ext hr
    clear hr hcall
    have hd3 := hr2.below e3.below
    have hcall := l01Next_c _ g hd3.src 3 (by unfold I64; omega)
    go_wp2_with fail
    refine Calls.mono hcall ?_
    rintro e w4 ⟨_, rfl, ⟨x4, rfl, -, -⟩, hd4⟩
    clear hcall
    have hdW := hd3.trans hd4
    by_cases hx4 : x4 = 0
    · subst hx4
      obtain ⟨m, rfl⟩ : ∃ m : Nat, n = m := ⟨n.toNat, by omega⟩
      have hcall := l26LeastO_c w4 _ _ xss m (by omega) (HR.out _ hdW)
      have HG := Lib.hid (leastL_rng (hitsB xss) m)
      go_wp2_with fail
      refine Calls.mono hcall ?_
      rintro e w5 hr
      obtain ⟨u5, rfl, r5, b5⟩ := ret_ext hr
      clear hr hcall
      have hd5 := hdW.below b5.below
      have ho5 := r5.own
      have hlt5 : g < w4.heap.size := hdW.src.lt
      have HM5 := Lib.hid r5.1
      have hlen5 := leastL_length (hitsB xss) m
      have hw5 : w4.heap.size ≤ w5.heap.size := b5.size
      clear r5 b5 hA
      generalize leastL (hitsB xss) m = ll at *
      have hcall := l01Next_c _ g hd5.src 3 (by unfold I64; omega)
      go_wp2_with fail
      refine Calls.mono hcall ?_
      rintro e w6 ⟨_, rfl, ⟨x6, rfl, -, -⟩, hd6⟩
      clear hcall
      have ho6 := ho5.dr hd6 hlt5
      have hd7 := hd5.trans hd6
      have hw4 : w2.heap.size ≤ w4.heap.size := hdW.size
      have hw6 : w4.heap.size ≤ w6.heap.size := Nat.le_trans hw5 hd6.size
      clear ho5 hd6
      obtain ⟨a5, n5, c5, rfl, hn5, -⟩ := OwnP.shape ho6
      have HN5 := Lib.hid hn5
      clear hn5
      have hr7 := HR.out _ hd7
      have hi7 := OwnP.ints ho6 HM5.out (Nat.le_refl _)
      by_cases hx6 : x6 = 0
      · subst hx6
        by_cases h0 : n5 = 0
        · subst h0
          go_wp2_with fail
          go_ret3
          exact ⟨_, rfl, ⟨m, _, xss, _, _, _, _, rfl, hn, hr7, hi7⟩, HB.out _ (hd2.trans hd7)⟩
        · obtain ⟨k5, rfl⟩ : ∃ k, n5 = k + 1 := ⟨n5 - 1, by omega⟩
          have hmx : k5 ≤ 12 := by have := HN5.out; omega
          obtain ⟨g5, rfl, hg5, hg5', hc5, -⟩ := OwnP.elem ho6 0 k5 (by omega)
          have hx5 : 0 ≤ ll.getD k5 0 ∧ ll.getD k5 0 < m := by
            have hl : k5 < ll.length := by have := HN5.out; omega
            rw [show ll.getD k5 0 = ll[k5] by simp [hl]]
            exact HG.out _ (List.getElem_mem hl)
          generalize ll.getD k5 0 = q at *
          have hidx : ((k5 : Int) + 1) - 1 = k5 := by omega
          clear h0
          by_cases hq : q + 1 < m
          · go_wp2_with (at_builtin; (refine wpList_drawInt (g := g) (w0 := w2) rfl _ _ 25 rfl Try.underlying25 Try.infoI64 rfl ho6 ((m : Int) - 1) rfl (by omega) hd7 hw4 hw6 ?_); intro v8 w8 hown8 hd8 hs8)
            have hr8 := HR.out _ hd8
            have hi8 := OwnP.ints hown8 (ints_snoc HM5.out (by unfold I64; omega)) (Nat.le_refl _)
            go_wp2_with fail
            go_ret3
            exact ⟨_, rfl, ⟨m, _, xss, _, _, _, _, rfl, hn, hr8, hi8⟩, HB.out _ (hd2.trans hd8)⟩
          · go_wp2_with fail
            go_ret3
            exact ⟨_, rfl, ⟨m, _, xss, _, _, _, _, rfl, hn, hr7, hi7⟩, HB.out _ (hd2.trans hd7)⟩
      · have hxb6 : (x6 == 0) = false := by simpa using hx6
        go_wp2_with fail
        go_ret3
        exact ⟨_, rfl, ⟨m, _, xss, _, _, _, _, rfl, hn, hr7, hi7⟩, HB.out _ (hd2.trans hd7)⟩
    · have hxb : (x4 == 0) = false := by simpa using hx4
      go_wp2_with fail
      have oi : OwnP (Value.int .i64) 2 w4.heap.size (w4.alloc (.cells #[] 2)) (.slice (some ⟨w4.heap.size, 0, none⟩) 0 0) [] := OwnP.empty (Nat.le_refl _)
      have di : Dr g w2 (w4.alloc (.cells #[] 2)) := hdW.alloc _
      have hsW : w2.heap.size ≤ w4.heap.size := hdW.size
      have hgW : g < w4.heap.size := by have := hdW.src.lt; exact this
      have hszi : w4.heap.size ≤ (w4.alloc (.cells #[] 2)).heap.size := by simp
      generalize w4.alloc (.cells #[] 2) = wi at *
      go_loopw [9, 10] (fun s9 s10 wr => ∃ (m : Nat) (l : List Int), s10 = .int .i64 m ∧ (m : Int) ≤ max n 0 ∧ l.length ≤ m ∧ OwnP (Value.int .i64) 2 w4.heap.size wr s9 l ∧ (∀ y ∈ l, I64 y) ∧ Dr g w2 wr ∧ w4.heap.size ≤ wr.heap.size) (fun _ s10 _ => n.toNat - (intOf s10).toNat)
      case atStart => exact ⟨0, [], rfl, by omega, by simp, oi, by simp, di, hszi⟩
      case round =>
        obtain ⟨m, l, rfl, hm, hlm, ho, hy, hdx, hszx⟩ := hrel
        clear oi di
        have Hy := Lib.hid hy
        clear hy
        by_cases hmn : (m : Int) < n
        · have hcall := l01Next_c _ g hdx.src 2 (by unfold I64; omega)
          go_wp2_with fail
          refine Calls.mono hcall ?_
          rintro e wa ⟨_, rfl, ⟨xa, rfl, -, -⟩, hda⟩
          clear hcall
          replace ho := ho.dr hda hgW
          have hdb := hdx.trans hda
          have hsz := hda.size
          clear hda hdx
          by_cases hxa : xa = 0
          · subst hxa
            go_wp2_with (at_builtin; (refine wpList_drawInt (g := g) (w0 := w2) rfl _ _ 25 rfl Try.underlying25 Try.infoI64 rfl ho (m : Int) rfl (by omega) hdb hsW (by omega) ?_); intro v6 w6 hown6 hd6 hs6)
            go_wp2_with fail
            exact ⟨⟨m + 1, l ++ [(m : Int)], by go_num, by omega, by simp; omega, hown6, ints_snoc Hy.out (by unfold I64; omega), hd6, by omega⟩, by simp [intOf]; omega⟩
          · have hb : (xa == 0) = false := by simpa using hxa
            go_wp2_with fail
            exact ⟨⟨m + 1, l, by go_num, by omega, by omega, ho, Hy.out, hdb, by omega⟩, by simp [intOf]; omega⟩
        · have hcall := l01Next_c _ g hdx.src 20 (by unfold I64; omega)
          go_wp2_with fail
          refine Calls.mono hcall ?_
          rintro e wa ⟨_, rfl, ⟨xa, rfl, -, -⟩, hda⟩
          clear hcall
          replace ho := ho.dr hda hgW
          have hdb := hdx.trans hda
          have hsz := hda.size
          clear hda hdx
          by_cases hxa : xa = 0
          · subst hxa
            have hmem3 : ∀ y ∈ [-1, 0, n], I64 y := by simp only [List.mem_cons, List.not_mem_nil, or_false]; rintro y (rfl | rfl | rfl) <;> first | exact hn | (unfold I64; omega)
            have hlit := OwnP.ints (OwnP.lit (f := Value.int .i64) (e := 2) (B := wa.heap.size) (Nat.le_refl _) [-1, 0, n] #[.int .i64 (-1), .int .i64 0, .int .i64 n] rfl (by simp [maxLen])) hmem3 (Nat.le_refl _)
            have hcall := l01Pick_c _ g (hdb.alloc (.cells #[.int .i64 (-1), .int .i64 0, .int .i64 n] 2)).src _ _ _ hlit (.inl (by show g < wa.heap.size; omega)) (by simp)
            have hdc := hdb.alloc (.cells #[.int .i64 (-1), .int .i64 0, .int .i64 n] 2)
            have hoc := ho.alloc (.cells #[.int .i64 (-1), .int .i64 0, .int .i64 n] 2)
            have HM3 := Lib.hid hmem3
            have hszc : (wa.alloc (.cells #[.int .i64 (-1), .int .i64 0, .int .i64 n] 2)).heap.size = wa.heap.size + 1 := by simp
            clear hlit hmem3
            go_wp2_with fail
            refine Calls.mono hcall ?_
            rintro e wd ⟨_, rfl, ⟨y, hy, rfl⟩, hdd⟩
            have hI := HM3.out y hy
            have hod := hoc.dr hdd hgW
            have hde := hdc.trans hdd
            have hsd := hdd.size
            clear hcall hdd hdc hoc hy ho hdb
            go_wp2_with (at_builtin; (refine wpList_drawInt (g := g) (w0 := w2) rfl _ _ 25 rfl Try.underlying25 Try.infoI64 rfl hod y rfl (by omega) hde hsW (by omega) ?_); intro v6 w6 hown6 hd6 hs6)
            have hr6 := HR.out _ hd6
            have hi6 := OwnP.ints hown6 (ints_snoc Hy.out hI) (Nat.le_refl _)
            go_wp2_with fail
            go_ret3
            exact ⟨_, rfl, ⟨n, _, xss, _, _, _, _, rfl, hn, hr6, hi6⟩, HB.out _ (hd2.trans hd6)⟩
          · have hb : (xa == 0) = false := by simpa using hxa
            have hr6 := HR.out _ hdb
            have hi6 := OwnP.ints ho Hy.out (Nat.le_refl _)
            go_wp2_with fail
            go_ret3
            exact ⟨_, rfl, ⟨n, _, xss, _, _, _, _, rfl, hn, hr6, hi6⟩, HB.out _ (hd2.trans hdb)⟩
  | false =>
    rw [hA] at hcall
    refine Calls.mono hcall ?_
    rintro e w3 hr
    obtain ⟨rfl, -, e3⟩ := retq_ext hr
    clear hr hcall
    have hdW := hr2.below e3.below
    go_wp2_with fail
    have oi : OwnP (Value.int .i64) 2 w3.heap.size (w3.alloc (.cells #[] 2)) (.slice (some ⟨w3.heap.size, 0, none⟩) 0 0) [] := OwnP.empty (Nat.le_refl _)
    have di : Dr g w2 (w3.alloc (.cells #[] 2)) := hdW.alloc _
    have hsW : w2.heap.size ≤ w3.heap.size := hdW.size
    have hgW : g < w3.heap.size := by have := hdW.src.lt; exact this
    have hszi : w3.heap.size ≤ (w3.alloc (.cells #[] 2)).heap.size := by simp
    generalize w3.alloc (.cells #[] 2) = wi at *
    go_loopw [9, 10] (fun s9 s10 wr => ∃ (m : Nat) (l : List Int), s10 = .int .i64 m ∧ (m : Int) ≤ max n 0 ∧ l.length ≤ m ∧ OwnP (Value.int .i64) 2 w3.heap.size wr s9 l ∧ (∀ y ∈ l, I64 y) ∧ Dr g w2 wr ∧ w3.heap.size ≤ wr.heap.size) (fun _ s10 _ => n.toNat - (intOf s10).toNat)
    case atStart => exact ⟨0, [], rfl, by omega, by simp, oi, by simp, di, hszi⟩
    case round =>
      obtain ⟨m, l, rfl, hm, hlm, ho, hy, hdx, hszx⟩ := hrel
      clear oi di
      have Hy := Lib.hid hy
      clear hy
      by_cases hmn : (m : Int) < n
      · have hcall := l01Next_c _ g hdx.src 2 (by unfold I64; omega)
        go_wp2_with fail
        refine Calls.mono hcall ?_
        rintro e wa ⟨_, rfl, ⟨xa, rfl, -, -⟩, hda⟩
        clear hcall
        replace ho := ho.dr hda hgW
        have hdb := hdx.trans hda
        have hsz := hda.size
        clear hda hdx
        by_cases hxa : xa = 0
        · subst hxa
          go_wp2_with (at_builtin; (refine wpList_drawInt (g := g) (w0 := w2) rfl _ _ 25 rfl Try.underlying25 Try.infoI64 rfl ho (m : Int) rfl (by omega) hdb hsW (by omega) ?_); intro v6 w6 hown6 hd6 hs6)
          go_wp2_with fail
          exact ⟨⟨m + 1, l ++ [(m : Int)], by go_num, by omega, by simp; omega, hown6, ints_snoc Hy.out (by unfold I64; omega), hd6, by omega⟩, by simp [intOf]; omega⟩
        · have hb : (xa == 0) = false := by simpa using hxa
          go_wp2_with fail
          exact ⟨⟨m + 1, l, by go_num, by omega, by omega, ho, Hy.out, hdb, by omega⟩, by simp [intOf]; omega⟩
      · have hcall := l01Next_c _ g hdx.src 20 (by unfold I64; omega)
        go_wp2_with fail
        refine Calls.mono hcall ?_
        rintro e wa ⟨_, rfl, ⟨xa, rfl, -, -⟩, hda⟩
        clear hcall
        replace ho := ho.dr hda hgW
        have hdb := hdx.trans hda
        have hsz := hda.size
        clear hda hdx
        by_cases hxa : xa = 0
        · subst hxa
          have hmem3 : ∀ y ∈ [-1, 0, n], I64 y := by simp only [List.mem_cons, List.not_mem_nil, or_false]; rintro y (rfl | rfl | rfl) <;> first | exact hn | (unfold I64; omega)
          have hlit := OwnP.ints (OwnP.lit (f := Value.int .i64) (e := 2) (B := wa.heap.size) (Nat.le_refl _) [-1, 0, n] #[.int .i64 (-1), .int .i64 0, .int .i64 n] rfl (by simp [maxLen])) hmem3 (Nat.le_refl _)
          have hcall := l01Pick_c _ g (hdb.alloc (.cells #[.int .i64 (-1), .int .i64 0, .int .i64 n] 2)).src _ _ _ hlit (.inl (by show g < wa.heap.size; omega)) (by simp)
          have hdc := hdb.alloc (.cells #[.int .i64 (-1), .int .i64 0, .int .i64 n] 2)
          have hoc := ho.alloc (.cells #[.int .i64 (-1), .int .i64 0, .int .i64 n] 2)
          have HM3 := Lib.hid hmem3
          have hszc : (wa.alloc (.cells #[.int .i64 (-1), .int .i64 0, .int .i64 n] 2)).heap.size = wa.heap.size + 1 := by simp
          clear hlit hmem3
          go_wp2_with fail
          refine Calls.mono hcall ?_
          rintro e wd ⟨_, rfl, ⟨y, hy, rfl⟩, hdd⟩
          have hI := HM3.out y hy
          have hod := hoc.dr hdd hgW
          have hde := hdc.trans hdd
          have hsd := hdd.size
          clear hcall hdd hdc hoc hy ho hdb
          go_wp2_with (at_builtin; (refine wpList_drawInt (g := g) (w0 := w2) rfl _ _ 25 rfl Try.underlying25 Try.infoI64 rfl hod y rfl (by omega) hde hsW (by omega) ?_); intro v6 w6 hown6 hd6 hs6)
          have hr6 := HR.out _ hd6
          have hi6 := OwnP.ints hown6 (ints_snoc Hy.out hI) (Nat.le_refl _)
          go_wp2_with fail
          go_ret3
          exact ⟨_, rfl, ⟨n, _, xss, _, _, _, _, rfl, hn, hr6, hi6⟩, HB.out _ (hd2.trans hd6)⟩
        · have hb : (xa == 0) = false := by simpa using hxa
          have hr6 := HR.out _ hdb
          have hi6 := OwnP.ints ho Hy.out (Nat.le_refl _)
          go_wp2_with fail
          go_ret3
          exact ⟨_, rfl, ⟨n, _, xss, _, _, _, _, rfl, hn, hr6, hi6⟩, HB.out _ (hd2.trans hdb)⟩

set_option maxHeartbeats 400000 in
theorem DrawIsMinimal_c (w : World) (v : Value) (z : Zone) (xs : List Int) (h : BytesR z w v xs) :
    Calls Try.prog 39 #[v] w (Ret w fun r w' => HitDrawn r w') := by
  have hcall := DrawIsHitting_c w v z xs h
  go_enter Try.func39, Try.ntmps39
  go_wp2_with fail
  refine Calls.mono hcall ?_
  rintro e w1 ⟨_, rfl, ⟨n, u, xss, v, l, z, y, rfl, hn, h1, h2⟩, hb⟩
  go_wp2_with fail
  go_ret3
  exact ⟨_, rfl, ⟨n, u, xss, v, l, z, y, rfl, hn, h1, h2⟩, hb⟩

set_option maxRecDepth 20000 in
set_option maxHeartbeats 1000000 in
theorem DrawMinimalHittings_c (w : World) (v : Value) (z : Zone) (xs : List Int) (h : BytesR z w v xs) :
    Calls Try.prog 38 #[v] w (Ret w fun r w' => ∃ (n : Int) (u : Value) (xss : List (List Int)) (m : Int) (z : Zone), r = .tuple #[.int .i64 n, u, .int .i64 m] ∧ I64 n ∧ I64 m ∧ RowsR z w' u xss) := by
  have hcall := l01From_c w v z xs h
  go_enter Try.func38, Try.ntmps38
  go_wp2_with fail
  refine Calls.mono hcall ?_
  rintro e w1 ⟨_, rfl, ⟨g, hg, rfl, hs⟩, hb⟩
  clear hcall h
  have hcall := l26Draw_c w1 g hs
  have hlt := hs.lt
  have HB : Hid (∀ w', Dr g w1 w' → Below w.heap.size w w') := fun w' hd => hb.trans (hd.below'.mono hg)
  go_wp2_with fail
  refine Calls.mono hcall ?_
  rintro e w2 ⟨_, rfl, ⟨n, u, xss, rfl, hn, hn13, hrows⟩, hd2⟩
  clear hcall hb hs
  have HR : Hid (∀ w', Dr g w2 w' → RowsR ⟨w1.heap.size, w2.heap.size, false⟩ w' u xss) := fun w' hd => stable_rows.dr hrows hd (.inl hlt)
  have hr2 := Dr.refl hd2.src
  have hg2 : g < w2.heap.size := hd2.src.lt
  have hm7 : ∀ y ∈ [0, 1, 3, 20, 60, 61, -1], I64 y := by simp [I64]
  have hlit := OwnP.ints (OwnP.lit (f := Value.int .i64) (e := 2) (B := w2.heap.size) (Nat.le_refl _) [0, 1, 3, 20, 60, 61, -1] #[.int .i64 0, .int .i64 1, .int .i64 3, .int .i64 20, .int .i64 60, .int .i64 61, .int .i64 (-1)] rfl (by simp [maxLen])) hm7 (Nat.le_refl _)
  have hcall := l01Pick_c _ g (hr2.alloc (.cells #[.int .i64 0, .int .i64 1, .int .i64 3, .int .i64 20, .int .i64 60, .int .i64 61, .int .i64 (-1)] 2)).src _ _ _ hlit (.inl (by show g < w2.heap.size; omega)) (by simp)
  have hdl := hr2.alloc (.cells #[.int .i64 0, .int .i64 1, .int .i64 3, .int .i64 20, .int .i64 60, .int .i64 61, .int .i64 (-1)] 2)
  have HM := Lib.hid hm7
  clear hlit hm7 hrows
  go_wp2_with fail
  refine Calls.mono hcall ?_
  rintro e w3 ⟨_, rfl, ⟨m, hm, rfl⟩, hd3⟩
  have hd4 := hdl.trans hd3
  have hr4 := HR.out _ hd4
  go_wp2_with fail
  go_ret3
  exact ⟨_, rfl, ⟨n, _, xss, m, _, rfl, hn, HM.out m hm, hr4⟩, HB.out _ (hd2.trans hd4)⟩

open Go.ChangeShapes Go.WideShapes Go.ChangeAt Go.RowKit
set_option linter.unusedVariables false

def ReachDrawn (B : Nat) (r : Value) (w' : World) : Prop := ∃ (c : Int) (u : Value) (ds : List (List Int)) (f : Int) (v : Value) (l : List Int) (z y : Zone), r = .tuple #[.agg #[.int .i64 c, u], .int .i64 f, v] ∧ I64 c ∧ I64 f ∧ RowsR z w' u ds ∧ IntsR y w' v l ∧ B ≤ z.lo ∧ B ≤ y.lo
theorem set2_keep {α : Type} {E : Repr α} (hE : Stable E) {z : Zone} {w : World} {v : Value} {x : α} (h : E z w v x) {R : Nat} (hR : ¬ z.Has R) (a b : Value) : E z ((w.setCell ⟨R, 0, none⟩ a).setCell ⟨R, 1, none⟩ b) v x :=
  hE.keep h (fun k hk _ => by rw [Below.heap_setCell _ _ _ _ (fun e : k = R => hR (e ▸ hk)), Below.heap_setCell _ _ _ _ (fun e : k = R => hR (e ▸ hk))])

set_option maxRecDepth 20000 in
set_option maxHeartbeats 2000000 in
theorem DrawReachWith_c (w : World) (v : Value) (z : Zone) (xs : List Int) (h : BytesR z w v xs) :
    Calls Try.prog 146 #[v] w (Ret w fun r w' => ReachDrawn w.heap.size r w') := by
  have hb0 : Ext w (w.alloc (.cells #[.int .i64 0, .slice none 0 0] 29)) := Ext.alloc _ _
  have hbx := Box2.new w (.int .i64 0) (.slice none 0 0) 29
  have hcall := l01From_c _ v z xs (stable_bytes.ext h hb0)
  have hs0 : (w.alloc (.cells #[.int .i64 0, .slice none 0 0] 29)).heap.size = w.heap.size + 1 := by simp
  clear h
  go_enter Try.func146, Try.ntmps146
  go_wp2_with fail
  generalize w.alloc (.cells #[.int .i64 0, .slice none 0 0] 29) = w0 at *
  refine Calls.mono hcall ?_
  rintro e w1 hr
  obtain ⟨_, rfl, ⟨g, hg, rfl, hs⟩, b1⟩ := ret_ext hr
  clear hr hcall
  have hcall := l25Draw_c w1 g hs
  have hlt := hs.lt
  have hsz1 := b1.size
  have hbx1 : Box2 w.heap.size (.int .i64 0) (.slice none 0 0) w1 := ⟨b1.cell hbx.1, b1.cell hbx.2.1, (b1.below.frozen (p := ⟨w.heap.size, 0, none⟩) (by show w.heap.size < _; omega)).trans hbx.2.2.1, (b1.below.frozen (p := ⟨w.heap.size, 1, none⟩) (by show w.heap.size < _; omega)).trans hbx.2.2.2⟩
  have HR : Hid (∀ w', Dr g w1 w' → Box2 w.heap.size (.int .i64 0) (.slice none 0 0) w') := fun w' hd => hbx1.dr hd (by omega)
  have HB := Lib.hid (hb0.trans b1)
  clear hbx hbx1 hs b1 hb0
  go_wp2_with fail
  refine Calls.mono hcall ?_
  rintro e w2 ⟨_, rfl, ⟨c, u, ds, rfl, hc, hdl, hrows⟩, hd2⟩
  clear hcall
  obtain ⟨a, n, cap, rfl, hn, -⟩ := SliceR.shape hrows
  clear hn
  have hsz2 := hd2.size
  have hxx := Box2.new w2 (.int .i64 c) (.slice a n cap) 29
  have hr2 : Dr g w2 (w2.alloc (.cells #[.int .i64 c, .slice a n cap] 29)) := (Dr.refl hd2.src).alloc _
  have HX : Hid (∀ w', Dr g (w2.alloc (.cells #[.int .i64 c, .slice a n cap] 29)) w' → Box2 w2.heap.size (.int .i64 c) (.slice a n cap) w') := fun w' hd => hxx.dr hd (by omega)
  obtain ⟨x0, x1, -, -⟩ := hxx
  have hcall := l25DrawRoom_c _ g hr2.src c (.slice a n cap)
  have HRows : Hid (∀ w', Dr g w2 w' → RowsR ⟨w1.heap.size, w2.heap.size, false⟩ w' (.slice a n cap) ds) := fun w' hd => stable_rows.dr hrows hd (.inl hlt)
  clear hrows
  go_wp2_with fail
  generalize w2.alloc (.cells #[.int .i64 c, .slice a n cap] 29) = wx at *
  refine Calls.mono hcall ?_
  rintro e w3 ⟨_, rfl, ⟨f, rfl, hf⟩, hd3⟩
  clear hcall x0 x1
  have hr3 : Dr g w3 w3 := Dr.refl hd3.src
  have hsz3 := hd3.size
  have hszx := hr2.size
  have HK : Hid (∀ w', Dr g w3 w' → w'.cell? ⟨w2.heap.size, 0, none⟩ = some (.int .i64 c) ∧ w'.cell? ⟨w2.heap.size, 1, none⟩ = some (.slice a n cap)) := fun w' hd => by
    obtain ⟨p1, p2, -, -⟩ := HX.out _ (hd3.trans hd)
    exact ⟨p1, p2⟩
  have HK2 : Hid (∀ w' s t, Dr g w3 w' → ((w'.setCell ⟨w.heap.size, 0, none⟩ s).setCell ⟨w.heap.size, 1, none⟩ t).cell? ⟨w2.heap.size, 0, none⟩ = some (.int .i64 c) ∧ ((w'.setCell ⟨w.heap.size, 0, none⟩ s).setCell ⟨w.heap.size, 1, none⟩ t).cell? ⟨w2.heap.size, 1, none⟩ = some (.slice a n cap)) := fun w' s t hd => by
    obtain ⟨p1, p2, -, -⟩ := HX.out _ (hd3.trans hd)
    constructor
    · rw [World.cell?_setCell_other _ _ _ _ (by intro e; injection e with e _ _; omega), World.cell?_setCell_other _ _ _ _ (by intro e; injection e with e _ _; omega)]; exact p1
    · rw [World.cell?_setCell_other _ _ _ _ (by intro e; injection e with e _ _; omega), World.cell?_setCell_other _ _ _ _ (by intro e; injection e with e _ _; omega)]; exact p2
  have HP := Lib.hid (fun (W : World) (hd : Dr g w3 W) => l25DrawOpen_c W g hd.src c _ _ ds (HRows.out W ((hr2.trans hd3).trans hd)) (by omega))
  have HRb := Lib.hid (fun (W : World) (hd : Dr g w3 W) => HR.out W (((hd2.trans hr2).trans hd3).trans hd))
  go_wp2_with fail
  go_region_held3 (fun w' => w'.cell? ⟨w2.heap.size, 0, none⟩ = some (.int .i64 c) ∧ w'.cell? ⟨w2.heap.size, 1, none⟩ = some (.slice a n cap)) (first | ((with_reducible refine HK2.out _ _ _ ?_); exact (by (repeat (first | assumption | (refine Dr.drew ?_) | (refine Dr.alloc ?_ _) | (refine Dr.trans ?_ (by assumption)))); done)) | (refine HK.out _ ?_; exact (by (repeat (first | assumption | (refine Dr.drew ?_) | (refine Dr.alloc ?_ _) | (refine Dr.trans ?_ (by assumption)))); done))) (first | (go_at_call 161; (with_reducible refine Calls.mono (HP.out _ ?_) ?_); exact (by (repeat (first | assumption | (refine Dr.drew ?_) | (refine Dr.alloc ?_ _) | (refine Dr.trans ?_ (by assumption)))); done); rintro e w8 ⟨v8, rfl, ⟨l, hl⟩, hd8⟩; (have hq8 : Dr g w3 w8 := by first | exact Dr.trans (Dr.drew hr3) hd8 | exact Dr.trans hr3 hd8); obtain ⟨k1, k2, k3, k4⟩ := HRb.out w8 hq8))
  all_goals (have hR8 := HRows.out w8 ((hr2.trans hd3).trans hq8))
  all_goals (have hsz8 := hq8.size)
  all_goals (clear HK HK2 HP HRb HX HR)
  all_goals (go_wp2_with fail)
  all_goals (have hbel : Below w.heap.size w w8 := HB.out.below.trans (((hd2.trans (hr2.trans hd3)).trans hq8).below'.mono (by omega)))
  all_goals (exact bodyPost_ret (v := .tuple #[.agg #[.int .i64 c, .slice a n cap], .int .i64 f, v8]) (by simp [results, Try.results146, go_sem, k1, k2]) rfl ⟨_, rfl, ⟨c, _, ds, f, v8, l, _, _, rfl, hc, hf, set2_keep stable_rows hR8 (fun h => by have := h.1; simp only at this; omega) _ _, set2_keep stable_ints hl (fun h => by have := h.1; simp only [World.drew] at this; omega) _ _, by show w.heap.size ≤ w1.heap.size; omega, by simp only [World.drew]; omega⟩, (hbel.setCell (p := ⟨w.heap.size, 0, none⟩) (Nat.le_refl _) _).setCell (p := ⟨w.heap.size, 1, none⟩) (Nat.le_refl _) _⟩)

def RoutesDrawn (B : Nat) (r : Value) (w' : World) : Prop := ∃ (c : Int) (u : Value) (ds : List (List Int)) (f t : Int) (v : Value) (l : List Int) (m : Int) (z y : Zone), r = .tuple #[.agg #[.int .i64 c, u], .int .i64 f, .int .i64 t, v, .int .i64 m] ∧ I64 c ∧ I64 f ∧ I64 t ∧ I64 m ∧ RowsR z w' u ds ∧ IntsR y w' v l ∧ B ≤ z.lo ∧ B ≤ y.lo

set_option maxRecDepth 20000 in
set_option maxHeartbeats 2000000 in
theorem DrawRoutesTo_c (w : World) (v : Value) (z : Zone) (xs : List Int) (h : BytesR z w v xs) :
    Calls Try.prog 119 #[v] w (Ret w fun r w' => RoutesDrawn w.heap.size r w') := by
  have hb0 : Ext w (w.alloc (.cells #[.int .i64 0, .slice none 0 0] 29)) := Ext.alloc _ _
  have hbx := Box2.new w (.int .i64 0) (.slice none 0 0) 29
  have hcall := l01From_c _ v z xs (stable_bytes.ext h hb0)
  have hs0 : (w.alloc (.cells #[.int .i64 0, .slice none 0 0] 29)).heap.size = w.heap.size + 1 := by simp
  have hby := stable_bytes.ext h hb0
  clear h
  go_enter Try.func119, Try.ntmps119
  go_wp2_with fail
  generalize w.alloc (.cells #[.int .i64 0, .slice none 0 0] 29) = w0 at *
  refine Calls.mono hcall ?_
  rintro e w1 hr
  obtain ⟨_, rfl, ⟨g, hg, rfl, hs⟩, b1⟩ := ret_ext hr
  clear hr hcall
  have hcall := DrawReachWith_c w1 v z xs (stable_bytes.ext hby b1)
  have hlt := hs.lt
  have hsz1 := b1.size
  have hbx1 : Box2 w.heap.size (.int .i64 0) (.slice none 0 0) w1 := ⟨b1.cell hbx.1, b1.cell hbx.2.1, (b1.below.frozen (p := ⟨w.heap.size, 0, none⟩) (by show w.heap.size < _; omega)).trans hbx.2.2.1, (b1.below.frozen (p := ⟨w.heap.size, 1, none⟩) (by show w.heap.size < _; omega)).trans hbx.2.2.2⟩
  have HR : Hid (∀ w', Dr g w1 w' → Box2 w.heap.size (.int .i64 0) (.slice none 0 0) w') := fun w' hd => hbx1.dr hd (by omega)
  have HB := Lib.hid (hb0.trans b1)
  have hr1 := Dr.refl hs
  clear hbx hbx1 hs b1 hb0 hby
  go_wp2_with fail
  refine Calls.mono hcall ?_
  rintro e w2 hr
  obtain ⟨_, rfl, ⟨c, u, ds, f, v2, l, z1, z2, rfl, hc, hf, hrows, hints, hz1, hz2⟩, b2⟩ := ret_ext hr
  clear hr hcall
  have hd2 : Dr g w1 w2 := hr1.below b2.below
  obtain ⟨a, n, cap, rfl, hn, -⟩ := SliceR.shape hrows
  obtain ⟨a2, n2, cap2, rfl, hn2, -⟩ := SliceR.shape hints
  clear hn hn2
  have hsz2 := hd2.size
  have hxx := Box2.new w2 (.int .i64 c) (.slice a n cap) 29
  have hr2 : Dr g w2 (w2.alloc (.cells #[.int .i64 c, .slice a n cap] 29)) := (Dr.refl hd2.src).alloc _
  have HX : Hid (∀ w', Dr g (w2.alloc (.cells #[.int .i64 c, .slice a n cap] 29)) w' → Box2 w2.heap.size (.int .i64 c) (.slice a n cap) w') := fun w' hd => hxx.dr hd (by omega)
  obtain ⟨x0, x1, -, -⟩ := hxx
  have hcall := l25DrawRoom_c _ g hr2.src c (.slice a n cap)
  have HRows : Hid (∀ w', Dr g w2 w' → RowsR z1 w' (.slice a n cap) ds) := fun w' hd => stable_rows.dr hrows hd (.inl (by omega))
  have HInts : Hid (∀ w', Dr g w2 w' → IntsR z2 w' (.slice a2 n2 cap2) l) := fun w' hd => stable_ints.dr hints hd (.inl (by omega))
  clear hrows hints
  go_wp2_with fail
  generalize w2.alloc (.cells #[.int .i64 c, .slice a n cap] 29) = wx at *
  refine Calls.mono hcall ?_
  rintro e w3 ⟨_, rfl, ⟨t, rfl, ht⟩, hd3⟩
  clear hcall x0 x1
  have hr3 : Dr g w3 w3 := Dr.refl hd3.src
  have hsz3 := hd3.size
  have hszx := hr2.size
  have HK : Hid (∀ w', Dr g w3 w' → w'.cell? ⟨w2.heap.size, 0, none⟩ = some (.int .i64 c) ∧ w'.cell? ⟨w2.heap.size, 1, none⟩ = some (.slice a n cap)) := fun w' hd => by
    obtain ⟨p1, p2, -, -⟩ := HX.out _ (hd3.trans hd)
    exact ⟨p1, p2⟩
  have HK2 : Hid (∀ w' s t, Dr g w3 w' → ((w'.setCell ⟨w.heap.size, 0, none⟩ s).setCell ⟨w.heap.size, 1, none⟩ t).cell? ⟨w2.heap.size, 0, none⟩ = some (.int .i64 c) ∧ ((w'.setCell ⟨w.heap.size, 0, none⟩ s).setCell ⟨w.heap.size, 1, none⟩ t).cell? ⟨w2.heap.size, 1, none⟩ = some (.slice a n cap)) := fun w' s t hd => by
    obtain ⟨p1, p2, -, -⟩ := HX.out _ (hd3.trans hd)
    constructor
    · rw [World.cell?_setCell_other _ _ _ _ (by intro e; injection e with e _ _; omega), World.cell?_setCell_other _ _ _ _ (by intro e; injection e with e _ _; omega)]; exact p1
    · rw [World.cell?_setCell_other _ _ _ _ (by intro e; injection e with e _ _; omega), World.cell?_setCell_other _ _ _ _ (by intro e; injection e with e _ _; omega)]; exact p2
  have hg3 : g < w3.heap.size := by omega
  have hm7 : ∀ y ∈ [0, 1, 3, 20, 60, 61, -1], I64 y := by simp [I64]
  have hlit := OwnP.ints (OwnP.lit (f := Value.int .i64) (e := 2) (B := w3.heap.size) (Nat.le_refl _) [0, 1, 3, 20, 60, 61, -1] #[.int .i64 0, .int .i64 1, .int .i64 3, .int .i64 20, .int .i64 60, .int .i64 61, .int .i64 (-1)] rfl (by simp [maxLen])) hm7 (Nat.le_refl _)
  have hpick := l01Pick_c _ g ((hr3.alloc (.cells #[.int .i64 0, .int .i64 1, .int .i64 3, .int .i64 20, .int .i64 60, .int .i64 61, .int .i64 (-1)] 2)).drew).src _ _ _ (stable_ints.drewN hlit 1) (.inl (by show g < w3.heap.size; omega)) (by simp)
  have hdl := (hr3.alloc (.cells #[.int .i64 0, .int .i64 1, .int .i64 3, .int .i64 20, .int .i64 60, .int .i64 61, .int .i64 (-1)] 2)).drew
  have HM := Lib.hid hm7
  have HP := Lib.hid hpick
  have HRb := Lib.hid (fun (W : World) (hd : Dr g w3 W) => HR.out W (((hd2.trans hr2).trans hd3).trans hd))
  clear hlit hpick hm7
  go_wp2_with fail
  go_region_held3 (fun w' => w'.cell? ⟨w2.heap.size, 0, none⟩ = some (.int .i64 c) ∧ w'.cell? ⟨w2.heap.size, 1, none⟩ = some (.slice a n cap)) (first | ((with_reducible refine HK2.out _ _ _ ?_); exact (by (repeat (first | assumption | (refine Dr.drew ?_) | (refine Dr.alloc ?_ _) | (refine Dr.trans ?_ (by assumption)))); done)) | (refine HK.out _ ?_; exact (by (repeat (first | assumption | (refine Dr.drew ?_) | (refine Dr.alloc ?_ _) | (refine Dr.trans ?_ (by assumption)))); done))) (first | (go_at_call 85; (with_reducible refine Calls.mono HP.out ?_); rintro e w8 ⟨_, rfl, ⟨m, hm, rfl⟩, hd8⟩; have hq8 := Dr.trans hdl hd8; obtain ⟨k1, k2, k3, k4⟩ := HRb.out w8 hq8))
  all_goals (have hd8' := (hr2.trans hd3).trans hq8)
  all_goals (have hR8 := HRows.out w8 hd8')
  all_goals (have hI8 := HInts.out w8 hd8')
  all_goals (clear HK HK2 HP HRb HX HR)
  all_goals (go_wp2_with fail)
  all_goals (have hbel : Below w.heap.size w w8 := HB.out.below.trans ((hd2.trans hd8').below'.mono (by omega)))
  all_goals (exact bodyPost_ret (v := .tuple #[.agg #[.int .i64 c, .slice a n cap], .int .i64 f, .int .i64 t, .slice a2 n2 cap2, .int .i64 m]) (by simp [results, Try.results119, go_sem, k1, k2]) rfl ⟨_, rfl, ⟨c, _, ds, f, t, _, l, m, _, _, rfl, hc, hf, ht, HM.out m hm, set2_keep stable_rows hR8 (fun h => by have := h.1; omega) _ _, set2_keep stable_ints hI8 (fun h => by have := h.1; omega) _ _, by omega, by omega⟩, (hbel.setCell (p := ⟨w.heap.size, 0, none⟩) (Nat.le_refl _) _).setCell (p := ⟨w.heap.size, 1, none⟩) (Nat.le_refl _) _⟩)

def CountDrawn (B : Nat) (r : Value) (w' : World) : Prop := ∃ (c : Int) (u : Value) (ds : List (List Int)) (f t : Int) (v : Value) (l : List Int) (z y : Zone), r = .tuple #[.agg #[.int .i64 c, u], .int .i64 f, .int .i64 t, v] ∧ I64 c ∧ I64 f ∧ I64 t ∧ RowsR z w' u ds ∧ IntsR y w' v l ∧ B ≤ z.lo ∧ B ≤ y.lo

set_option maxRecDepth 20000 in
set_option maxHeartbeats 2000000 in
theorem DrawCountRoutes_c (w : World) (v : Value) (z : Zone) (xs : List Int) (h : BytesR z w v xs) :
    Calls Try.prog 88 #[v] w (Ret w fun r w' => CountDrawn w.heap.size r w') := by
  have hb0 : Ext w (w.alloc (.cells #[.int .i64 0, .slice none 0 0] 29)) := Ext.alloc _ _
  have hbx := Box2.new w (.int .i64 0) (.slice none 0 0) 29
  have hcall := DrawRoutesTo_c _ v z xs (stable_bytes.ext h hb0)
  have hs0 : (w.alloc (.cells #[.int .i64 0, .slice none 0 0] 29)).heap.size = w.heap.size + 1 := by simp
  clear h
  go_enter Try.func88, Try.ntmps88
  go_wp2_with fail
  generalize w.alloc (.cells #[.int .i64 0, .slice none 0 0] 29) = w0 at *
  refine Calls.mono hcall ?_
  rintro e w2 hr
  obtain ⟨_, rfl, ⟨c, u, ds, f, t, v2, l, m, z1, z2, rfl, hc, hf, ht, hm, hrows, hints, hz1, hz2⟩, b2⟩ := ret_ext hr
  clear hr hcall
  obtain ⟨a, n, cap, rfl, hn, -⟩ := SliceR.shape hrows
  obtain ⟨a2, n2, cap2, rfl, hn2, -⟩ := SliceR.shape hints
  clear hn hn2
  have hsz2 := b2.size
  have hbx2 : Box2 w.heap.size (.int .i64 0) (.slice none 0 0) w2 := ⟨b2.cell hbx.1, b2.cell hbx.2.1, (b2.below.frozen (p := ⟨w.heap.size, 0, none⟩) (by show w.heap.size < _; omega)).trans hbx.2.2.1, (b2.below.frozen (p := ⟨w.heap.size, 1, none⟩) (by show w.heap.size < _; omega)).trans hbx.2.2.2⟩
  have hE3 : Ext w2 (w2.alloc (.cells #[.int .i64 c, .slice a n cap] 29)) := Ext.alloc _ _
  obtain ⟨x0, x1, -, -⟩ := Box2.new w2 (.int .i64 c) (.slice a n cap) 29
  have k0 : (w2.alloc (.cells #[.int .i64 c, .slice a n cap] 29)).cell? ⟨w.heap.size, 0, none⟩ = some (.int .i64 0) := hE3.cell hbx2.1
  have k1 : (w2.alloc (.cells #[.int .i64 c, .slice a n cap] 29)).cell? ⟨w.heap.size, 1, none⟩ = some (.slice none 0 0) := hE3.cell hbx2.2.1
  have k2 : (w2.alloc (.cells #[.int .i64 c, .slice a n cap] 29)).frozen? ⟨w.heap.size, 0, none⟩ = false := (hE3.below.frozen (p := ⟨w.heap.size, 0, none⟩) (by show w.heap.size < _; omega)).trans hbx2.2.2.1
  have k3 : (w2.alloc (.cells #[.int .i64 c, .slice a n cap] 29)).frozen? ⟨w.heap.size, 1, none⟩ = false := (hE3.below.frozen (p := ⟨w.heap.size, 1, none⟩) (by show w.heap.size < _; omega)).trans hbx2.2.2.2
  have hR3 := Lib.hid (stable_rows.ext hrows hE3)
  have hI3 := Lib.hid (stable_ints.ext hints hE3)
  have hbel : Hid (Below w.heap.size w (w2.alloc (.cells #[.int .i64 c, .slice a n cap] 29))) := ((hb0.trans b2).trans hE3).below
  clear hrows hints hbx2 hbx hE3 b2 hb0
  generalize hw3 : w2.alloc (.cells #[.int .i64 c, .slice a n cap] 29) = w3 at *
  go_wp2_with fail
  try rw [hw3]
  clear hw3
  exact bodyPost_ret (v := .tuple #[.agg #[.int .i64 c, .slice a n cap], .int .i64 f, .int .i64 t, .slice a2 n2 cap2]) (by simp [results, Try.results88, go_sem, k0, k1]) rfl ⟨_, rfl, ⟨c, _, ds, f, t, _, l, _, _, rfl, hc, hf, ht, set2_keep stable_rows hR3.out (fun h => by have := h.1; omega) _ _, set2_keep stable_ints hI3.out (fun h => by have := h.1; omega) _ _, by omega, by omega⟩, (hbel.out.setCell (p := ⟨w.heap.size, 0, none⟩) (Nat.le_refl _) _).setCell (p := ⟨w.heap.size, 1, none⟩) (Nat.le_refl _) _⟩

open Go.ChangeShapes Go.WideShapes Go.ChangeAt Go.RowKit
set_option linter.unusedVariables false

set_option maxRecDepth 20000 in
set_option maxHeartbeats 2000000 in
theorem DrawDoorsToChange_c (w : World) (v : Value) (z : Zone) (xs : List Int) (h : BytesR z w v xs) :
    Calls Try.prog 42 #[v] w (Ret w fun r w' => CountDrawn w.heap.size r w') := by
  have hb0 : Ext w (w.alloc (.cells #[.int .i64 0, .slice none 0 0] 29)) := Ext.alloc _ _
  have hbx := Box2.new w (.int .i64 0) (.slice none 0 0) 29
  have hcall := DrawCountRoutes_c _ v z xs (stable_bytes.ext h hb0)
  have hs0 : (w.alloc (.cells #[.int .i64 0, .slice none 0 0] 29)).heap.size = w.heap.size + 1 := by simp
  clear h
  go_enter Try.func42, Try.ntmps42
  go_wp2_with fail
  generalize w.alloc (.cells #[.int .i64 0, .slice none 0 0] 29) = w0 at *
  refine Calls.mono hcall ?_
  rintro e w2 hr
  obtain ⟨_, rfl, ⟨c, u, ds, f, t, v2, l, z1, z2, rfl, hc, hf, ht, hrows, hints, hz1, hz2⟩, b2⟩ := ret_ext hr
  clear hr hcall
  obtain ⟨a, n, cap, rfl, hn, -⟩ := SliceR.shape hrows
  obtain ⟨a2, n2, cap2, rfl, hn2, -⟩ := SliceR.shape hints
  clear hn hn2
  have hsz2 := b2.size
  have k0 : w2.cell? ⟨w.heap.size, 0, none⟩ = some (.int .i64 0) := b2.cell hbx.1
  have k1 : w2.cell? ⟨w.heap.size, 1, none⟩ = some (.slice none 0 0) := b2.cell hbx.2.1
  have k2 : w2.frozen? ⟨w.heap.size, 0, none⟩ = false := (b2.below.frozen (p := ⟨w.heap.size, 0, none⟩) (by show w.heap.size < _; omega)).trans hbx.2.2.1
  have k3 : w2.frozen? ⟨w.heap.size, 1, none⟩ = false := (b2.below.frozen (p := ⟨w.heap.size, 1, none⟩) (by show w.heap.size < _; omega)).trans hbx.2.2.2
  have hR3 := Lib.hid hrows
  have hI3 := Lib.hid hints
  have hbel : Hid (Below w.heap.size w w2) := (hb0.trans b2).below
  clear hrows hints hbx b2 hb0
  go_wp2_with fail
  exact bodyPost_ret (v := .tuple #[.agg #[.int .i64 c, .slice a n cap], .int .i64 f, .int .i64 t, .slice a2 n2 cap2]) (by simp [results, Try.results42, go_sem, k0, k1]) rfl ⟨_, rfl, ⟨c, _, ds, f, t, _, l, _, _, rfl, hc, hf, ht, set2_keep stable_rows hR3.out (fun h => by have := h.1; omega) _ _, set2_keep stable_ints hI3.out (fun h => by have := h.1; omega) _ _, by omega, by omega⟩, (hbel.out.setCell (p := ⟨w.heap.size, 0, none⟩) (Nat.le_refl _) _).setCell (p := ⟨w.heap.size, 1, none⟩) (Nat.le_refl _) _⟩

open Go.ChangeShapes Go.WideShapes Go.ChangeAt Go.RowKit
set_option linter.unusedVariables false

/-- a walk by some doors to t: the doors with the rooms behind them -/
def WalkTo (ds : List (List Int)) (op : List Int) (t : Int) : Int → List (Int × Int) → Prop
  | p, [] => p = t
  | p, (d, q) :: W => d ∈ op ∧ other ds d p = q ∧ 0 ≤ q ∧ WalkTo ds op t q W
def Simple (p : Int) (W : List (Int × Int)) : Prop := (p :: W.map (·.2)).Nodup

theorem walk_last {ds : List (List Int)} {op : List Int} {t : Int} : ∀ {W : List (Int × Int)} {p : Int}, WalkTo ds op t p W → t ∈ p :: W.map (·.2)
  | [], p, h => by simp [WalkTo] at h; simp [h]
  | (d, q) :: W, p, ⟨_, _, _, h⟩ => List.mem_cons_of_mem _ (walk_last h)
theorem walk_suffix {ds : List (List Int)} {op : List Int} {t v : Int} : ∀ {W : List (Int × Int)} {p : Int}, WalkTo ds op t p W → v ∈ W.map (·.2) → ∃ W', WalkTo ds op t v W' ∧ (v :: W'.map (·.2)).Sublist (W.map (·.2))
  | [], p, _, h => by simp at h
  | (d, q) :: W, p, ⟨_, _, _, h⟩, hv => by
    rw [List.map_cons, List.mem_cons] at hv
    rcases hv with rfl | hv
    · exact ⟨W, h, by rw [List.map_cons]; exact List.Sublist.refl _⟩
    · obtain ⟨W', h1, h2⟩ := walk_suffix h hv
      exact ⟨W', h1, by rw [List.map_cons]; exact h2.trans (List.sublist_cons_self ..)⟩
theorem walk_closed {ds : List (List Int)} {op : List Int} {t p q d : Int} (hd : d ∈ op) (ho : other ds d p = q) (hq : 0 ≤ q) (h : ∃ W, WalkTo ds op t q W ∧ Simple q W) : ∃ W, WalkTo ds op t p W ∧ Simple p W := by
  obtain ⟨W, hw, hs⟩ := h
  by_cases e : p = q
  · rw [e]; exact ⟨W, hw, hs⟩
  · by_cases hp : p ∈ W.map (·.2)
    · obtain ⟨W', h1, h2⟩ := walk_suffix hw hp
      exact ⟨W', h1, (List.nodup_cons.1 hs).2.sublist h2⟩
    · refine ⟨(d, q) :: W, ⟨hd, ho, hq, hw⟩, ?_⟩
      unfold Simple
      rw [List.map_cons, List.nodup_cons]
      exact ⟨by simp only [List.mem_cons, not_or]; exact ⟨e, hp⟩, hs⟩
theorem walk_nonneg {ds : List (List Int)} {op : List Int} {t : Int} : ∀ {W : List (Int × Int)} {p : Int}, WalkTo ds op t p W → ∀ v ∈ W.map (·.2), 0 ≤ v
  | [], p, _, v, hv => by simp at hv
  | (d, q) :: W, p, ⟨_, _, h0, h⟩, v, hv => by
    rw [List.map_cons, List.mem_cons] at hv
    rcases hv with rfl | hv
    · exact h0
    · exact walk_nonneg h v hv
theorem getD_set_ne {s : List Bool} {i j : Nat} (h : i ≠ j) : (s.set i true).getD j false = s.getD j false := by
  simp [List.getD_eq_getElem?_getD, List.getElem?_set_ne h]

/-- a simple walk is a route -/
theorem walk_route {ds : List (List Int)} {op op' : List Int} {t : Int} (hsub : ∀ d ∈ op', d ∈ op) (c : Nat) (hr : ∀ d ∈ op', ∀ p, other ds d p < c) :
    ∀ {W : List (Int × Int)} {p : Int} {n : Nat} {s : List Bool}, s.length = c → WalkTo ds op' t p W → Simple p W → (∀ v ∈ W.map (·.2), s.getD v.toNat false = false) → s.count false ≤ n → W.map (·.1) ∈ routesN ds op t n s p
  | [], p, n, s, _, h, _, _, _ => by
    have : p = t := h
    rw [this, routesN_end]; simp
  | (d, q) :: W, p, n, s, hl, ⟨h1, h2, h3, h4⟩, hs, hm, hn => by
    have hs' : Simple q W := (List.nodup_cons.1 hs).2
    have hpt : p ≠ t := fun e => by
      have := walk_last h4
      rw [← e] at this
      exact (List.nodup_cons.1 hs).1 this
    have hq0 : s.getD q.toNat false = false := hm q (by simp)
    have hqc : q.toNat < s.length := by have := hr d h1 p; rw [h2] at this; omega
    have hc := set_count hqc hq0
    cases n with
    | zero => have := count_pos_of hqc hq0; omega
    | succ n =>
      rw [routesN_succ hpt, List.mem_flatMap]
      refine ⟨d, hsub d h1, ?_⟩
      rw [routesBy_yes (by rw [h2]; exact canGo_iff.2 ⟨h3, hq0⟩), h2]
      refine List.mem_map.2 ⟨W.map (·.1), walk_route hsub c hr (by rw [List.length_set]; exact hl) h4 hs' (fun v hv => ?_) (by omega), rfl⟩
      have hv0 := walk_nonneg h4 v hv
      have hne : q ≠ v := fun e => (List.nodup_cons.1 hs').1 (e ▸ hv)
      rw [getD_set_ne (by omega)]
      exact hm v (by rw [List.map_cons]; exact List.mem_cons_of_mem _ hv)

/-- the sides of a door of a plan -/
theorem door_sides {c : Int} {ds : List (List Int)} (hok : roomsOk c ds = true) {d : Int} (h0 : 0 ≤ d) (h1 : d < ds.length) : ∃ a b : Nat, sides ds d = (a, b) ∧ a < b ∧ (b : Int) < c ∧ (ds.getD d.toNat []).getD 0 0 = a ∧ (ds.getD d.toNat []).getD 1 0 = b ∧ other ds d a = b ∧ other ds d b = a := by
  obtain ⟨-, -, h⟩ := roomsOk_sides hok
  have hd : d.toNat < ds.length := by omega
  have e : ds.getD d.toNat [] = ds[d.toNat] := by simp [hd]
  obtain ⟨-, g1, g2, g3⟩ := h ds[d.toNat] (List.getElem_mem hd)
  refine ⟨(ds[d.toNat].getD 0 0).toNat, (ds[d.toNat].getD 1 0).toNat, by unfold sides; rw [e], by omega, by omega, by rw [e]; omega, by rw [e]; omega, ?_, ?_⟩
  · unfold other; rw [e, if_pos (by omega)]; omega
  · unfold other; rw [e, if_neg (by omega), if_pos (by omega)]; omega
theorem stepE_getD {s : List Bool} {p : Nat × Nat} {i : Nat} (h : (stepE s p).getD i false = true) : s.getD i false = true ∨ ((s.getD p.1 false || s.getD p.2 false) = true ∧ (i = p.1 ∨ i = p.2)) := by
  unfold stepE at h
  split at h
  · next hs =>
    by_cases e2 : i = p.2
    · exact .inr ⟨hs, .inr e2⟩
    · by_cases e1 : i = p.1
      · exact .inr ⟨hs, .inl e1⟩
      · rw [getD_set_ne (by omega), getD_set_ne (by omega)] at h; exact .inl h
  · exact .inl h

/-- what is reached from f has a walk from f -/
theorem reach_walk {c : Int} {ds : List (List Int)} (hok : roomsOk c ds = true) {op : List Int} (hop : ∀ d ∈ op, 0 ≤ d ∧ d < ds.length) {f t : Int} (hf : 0 ≤ f) (ht : 0 ≤ t) (h : (reachL c ds f op).getD t.toNat false = true) :
    ∃ W, WalkTo ds op t f W ∧ Simple f W := by
  refine Classical.byContradiction fun hno => ?_
  have inv0 : ∀ i : Nat, (reach0 c f).getD i false = true → ¬ ∃ W, WalkTo ds op t i W ∧ Simple i W := fun i hi => by
    have : i = f.toNat := by
      by_cases e : f.toNat = i
      · exact e.symm
      · unfold reach0 at hi
        rw [getD_set_ne e] at hi
        rw [List.getD_eq_getElem?_getD, List.getElem?_replicate] at hi
        split at hi <;> simp at hi
    rw [this, show ((f.toNat : Nat) : Int) = f by omega]
    exact hno
  have invStep : ∀ (s : List Bool) (d : Int), d ∈ op → (∀ i : Nat, s.getD i false = true → ¬ ∃ W, WalkTo ds op t i W ∧ Simple i W) → ∀ i : Nat, (stepE s (sides ds d)).getD i false = true → ¬ ∃ W, WalkTo ds op t i W ∧ Simple i W := fun s d hd hs i hi => by
    obtain ⟨a, b, e1, e2, e3, -, -, e4, e5⟩ := door_sides hok (hop d hd).1 (hop d hd).2
    rcases stepE_getD hi with h' | ⟨h1, h2⟩
    · exact hs i h'
    · rw [e1] at h1 h2
      simp only at h1 h2
      have hab : (∃ W, WalkTo ds op t a W ∧ Simple a W) → ∃ W, WalkTo ds op t b W ∧ Simple b W := fun h => walk_closed hd e5 (by omega) h
      have hba : (∃ W, WalkTo ds op t b W ∧ Simple b W) → ∃ W, WalkTo ds op t a W ∧ Simple a W := fun h => walk_closed hd e4 (by omega) h
      rw [Bool.or_eq_true] at h1
      rcases h1 with h1 | h1
      · have hna := hs a h1
        rcases h2 with rfl | rfl
        · exact hna
        · exact fun h => hna (hba h)
      · have hnb := hs b h1
        rcases h2 with rfl | rfl
        · exact fun h => hnb (hab h)
        · exact hnb
  have invPass : ∀ (l : List Int) (s : List Bool), (∀ d ∈ l, d ∈ op) → (∀ i : Nat, s.getD i false = true → ¬ ∃ W, WalkTo ds op t i W ∧ Simple i W) → ∀ i : Nat, (passE (l.map (sides ds)) s).getD i false = true → ¬ ∃ W, WalkTo ds op t i W ∧ Simple i W := fun l => by
    induction l with
    | nil => exact fun s _ hs i hi => hs i hi
    | cons d l ih => exact fun s hl hs => ih (stepE s (sides ds d)) (fun x hx => hl x (List.mem_cons_of_mem _ hx)) (invStep s d (hl d (List.mem_cons_self ..)) hs)
  have invR : ∀ n, ∀ i : Nat, (roundsE (op.map (sides ds)) (reach0 c f) n).getD i false = true → ¬ ∃ W, WalkTo ds op t i W ∧ Simple i W := fun n => by
    induction n with
    | zero => exact inv0
    | succ n ih => exact invPass op _ (fun _ h => h) ih
  have := invR c.toNat t.toNat h
  refine this ⟨[], ?_, ?_⟩
  · show ((t.toNat : Nat) : Int) = t; omega
  · simp [Simple]

/-- .. and so there is a route by these doors among those by more -/
theorem reach_route {c : Int} {ds : List (List Int)} (hok : roomsOk c ds = true) {op op' : List Int} (hop : ∀ d ∈ op, 0 ≤ d ∧ d < ds.length) (hsub : ∀ d ∈ op', d ∈ op) {f t : Int} (hf : 0 ≤ f) (hfc : f < c) (ht : 0 ≤ t) (h : (reachL c ds f op').getD t.toNat false = true) :
    ∃ r ∈ routesN ds op t c.toNat (reach0 c f) f, ∀ d ∈ r, d ∈ op' := by
  obtain ⟨W, h1, h2⟩ := reach_walk hok (fun d hd => hop d (hsub d hd)) hf ht h
  refine ⟨W.map (·.1), walk_route hsub c.toNat (fun d hd p => ?_) (reach0_length c f) h1 h2 (fun v hv => ?_) ?_, ?_⟩
  · have := other_range hok (p := p) (hop d (hsub d hd)).1 (hop d (hsub d hd)).2
    have := (roomsOk_sides hok).1
    omega
  · have hv0 := walk_nonneg h1 v hv
    have hne : f ≠ v := fun e => (List.nodup_cons.1 h2).1 (e ▸ hv)
    unfold reach0
    rw [getD_set_ne (by omega), List.getD_eq_getElem?_getD, List.getElem?_replicate]
    split <;> rfl
  · have := List.count_le_length (a := false) (l := reach0 c f)
    rw [reach0_length] at this; exact this
  · intro d hd
    clear h2 h
    induction W generalizing f with
    | nil => simp at hd
    | cons x W ih =>
      obtain ⟨d', q⟩ := x
      obtain ⟨g1, g2, g3, g4⟩ := h1
      rw [List.map_cons, List.mem_cons] at hd
      rcases hd with rfl | hd
      · exact g1
      · refine ih g3 ?_ g4 hd
        have := other_range hok (p := f) (hop d' (hsub d' g1)).1 (hop d' (hsub d' g1)).2
        omega

/-! ### the other way -/
theorem leB_antisymm {s t : List Bool} (h : leB s t) (k : leB t s) : s = t := by
  refine Decidable.byContradiction fun hne => ?_
  have := (leB_count h).2 hne
  have := (leB_count k).1
  omega
theorem pass_fix : ∀ {es : List (Nat × Nat)} {s : List Bool}, passE es s = s → ∀ e ∈ es, stepE s e = s
  | [], _, _, _, h => by simp at h
  | e :: es, s, h, x, hx => by
    have h1 : leB (stepE s e) s := by have := leB_pass es (stepE s e); rw [show passE es (stepE s e) = s from h] at this; exact this
    have h2 : stepE s e = s := leB_antisymm h1 (leB_step s e)
    rcases List.mem_cons.1 hx with rfl | hx
    · exact h2
    · refine pass_fix ?_ x hx
      have : passE es (stepE s e) = s := h
      rwa [h2] at this
theorem reach_closed {c : Int} {ds : List (List Int)} (hok : roomsOk c ds = true) {op : List Int} (hop : ∀ d ∈ op, 0 ≤ d ∧ d < ds.length) {f : Int} (hf : 0 ≤ f) (hfc : f < c) {d p : Int} (hd : d ∈ op) (hp : 0 ≤ p) (hr : (reachL c ds f op).getD p.toNat false = true) (hq : 0 ≤ other ds d p) :
    (reachL c ds f op).getD (other ds d p).toNat false = true := by
  have hfix : passE (op.map (sides ds)) (reachL c ds f op) = reachL c ds f op := by
    have := rounds_fix (op.map (sides ds)) (reach0 c f) (reach0_one hf hfc)
    rw [reach0_length] at this
    exact this
  have hst := pass_fix hfix (sides ds d) (List.mem_map_of_mem hd)
  obtain ⟨a, b, e1, e2, e3, e4, e5, e6, e7⟩ := door_sides hok (hop d hd).1 (hop d hd).2
  have hl := reachL_length c ds f op
  have hb : b < (reachL c ds f op).length := by omega
  rw [e1] at hst
  unfold stepE at hst
  simp only at hst
  rcases other_cases ds d p with h | ⟨h1, h2⟩ | ⟨h1, h2⟩
  · omega
  · rw [h2, e5]
    rw [e4] at h1
    rw [if_pos (by rw [h1] at hr; simp only [Int.toNat_natCast] at hr; rw [hr]; rfl)] at hst
    rw [Int.toNat_natCast, ← hst, List.getD_eq_getElem?_getD, List.getElem?_set]
    simp [hb]
  · rw [h2, e4]
    rw [e5] at h1
    rw [if_pos (by rw [h1] at hr; simp only [Int.toNat_natCast] at hr; rw [hr]; simp)] at hst
    rw [Int.toNat_natCast, ← hst, getD_set_ne (by omega), List.getD_eq_getElem?_getD, List.getElem?_set]
    simp [show a < (reachL c ds f op).length by omega]
theorem reach_self {c : Int} {ds : List (List Int)} {op : List Int} {f : Int} (hf : 0 ≤ f) (hfc : f < c) : (reachL c ds f op).getD f.toNat false = true := by
  have h0 : (reach0 c f).getD f.toNat false = true := by
    unfold reach0
    rw [List.getD_eq_getElem?_getD, List.getElem?_set, if_pos rfl, if_pos (by rw [List.length_replicate]; omega)]
    rfl
  have mono : ∀ {s t : List Bool}, leB s t → ∀ i, s.getD i false = true → t.getD i false = true := by
    intro s
    induction s with
    | nil => intro t _ i hi; simp at hi
    | cons a s ih =>
      intro t h i hi
      cases t with
      | nil => exact h.elim
      | cons b t =>
        cases i with
        | zero => exact h.1 (by simpa using hi)
        | succ i => exact ih h.2 i (by simpa using hi)
  have : ∀ n, (roundsE (op.map (sides ds)) (reach0 c f) n).getD f.toNat false = true := fun n => by
    induction n with
    | zero => exact h0
    | succ n ih => exact mono (leB_pass _ _) _ ih
  exact this _
theorem route_reach {c : Int} {ds : List (List Int)} (hok : roomsOk c ds = true) {op op' : List Int} (hop : ∀ d ∈ op, 0 ≤ d ∧ d < ds.length) {f t : Int} (hf : 0 ≤ f) (hfc : f < c) :
    ∀ (n : Nat) (s : List Bool) (p : Int), 0 ≤ p → (reachL c ds f op).getD p.toNat false = true → ∀ r ∈ routesN ds op t n s p, (reachL c ds f op).getD t.toNat false = true
  | 0, s, p, hp, hr, r, h => by
    by_cases e : p = t
    · rw [← e]; exact hr
    · rw [routesN_zero e] at h; simp at h
  | n+1, s, p, hp, hr, r, h => by
    by_cases e : p = t
    · rw [← e]; exact hr
    · rw [routesN_succ e, List.mem_flatMap] at h
      obtain ⟨d, hd, h⟩ := h
      by_cases hc : canGo s (other ds d p) = true
      · rw [routesBy_yes hc] at h
        obtain ⟨r', hr', -⟩ := List.mem_map.1 h
        have hq := (canGo_iff.1 hc).1
        exact route_reach (op' := op') hok hop hf hfc n _ _ hq (reach_closed hok hop hf hfc hd hp hr hq) r' hr'
      · rw [routesBy_no (by simpa using hc)] at h; simp at h

/-- a route leads to t -/
def Leads (ds : List (List Int)) (t : Int) : Int → List Int → Prop
  | p, [] => p = t
  | p, d :: r => 0 ≤ other ds d p ∧ Leads ds t (other ds d p) r
theorem route_leads {ds : List (List Int)} {op : List Int} {t : Int} : ∀ (n : Nat) (s : List Bool) (p : Int), ∀ r ∈ routesN ds op t n s p, Leads ds t p r
  | n, s, p, r, h => by
    by_cases e : p = t
    · rw [e, routesN_end] at h
      rw [List.mem_singleton.1 h]; exact e
    · cases n with
      | zero => rw [routesN_zero e] at h; simp at h
      | succ n =>
        rw [routesN_succ e, List.mem_flatMap] at h
        obtain ⟨d, hd, h⟩ := h
        by_cases hc : canGo s (other ds d p) = true
        · rw [routesBy_yes hc] at h
          obtain ⟨r', hr', rfl⟩ := List.mem_map.1 h
          exact ⟨(canGo_iff.1 hc).1, route_leads n _ _ r' hr'⟩
        · rw [routesBy_no (by simpa using hc)] at h; simp at h

open Go.ChangeShapes Go.WideShapes Go.ChangeAt Go.RowKit
set_option linter.unusedVariables false

theorem rising_of_rises {n : Nat} {l : List Int} (h : Rises n l) : rising l n = true := by
  unfold rising
  rw [List.all_eq_true]
  intro i hi
  rw [List.mem_range] at hi
  unfold risingAt
  rw [decide_eq_true_iff]
  have hm := h.2 l[i] (List.getElem_mem hi)
  rw [show l.getD i 0 = l[i] by simp [hi]]
  refine ⟨hm.1, hm.2, fun hp => ?_⟩
  rw [show l.getD (i-1) 0 = l[i-1] by simp [show i - 1 < l.length by omega]]
  exact List.pairwise_iff_getElem.1 h.1 (i-1) i (by omega) hi (by omega)
theorem rises_of_rising {n : Int} {l : List Int} (h : rising l n = true) : Rises n.toNat l := by
  have hg := rising_ge h
  have hp : l.Pairwise (· < ·) := by
    have hstep : ∀ i (hi : i + 1 < l.length), l[i] < l[i+1] := fun i hi => by
      unfold rising at h
      rw [List.all_eq_true] at h
      have := h (i+1) (List.mem_range.2 hi)
      unfold risingAt at this
      rw [decide_eq_true_iff] at this
      have := this.2.2 (by omega)
      simpa [hi, show i < l.length by omega] using this
    rw [List.pairwise_iff_getElem]
    intro i j hi hj hij
    induction j with
    | zero => omega
    | succ j ih =>
      by_cases e : i = j
      · subst e; exact hstep i hj
      · have := ih (by omega) (by omega)
        have := hstep j hj
        omega
  refine ⟨hp, fun y hy => ?_⟩
  obtain ⟨i, hi, rfl⟩ := List.getElem_of_mem hy
  have := hg i hi
  rw [show l.getD i 0 = l[i] by simp [hi]] at this
  omega

theorem lessL_len {a b : List Int} (h : lessL a b = false) : b.length ≤ a.length := by
  rcases Nat.lt_or_ge a.length b.length with h' | h'
  · rw [lessL_iff.2 (.inl h')] at h; cases h
  · exact h'
theorem rises_sublist {n : Nat} {a b : List Int} (h : a.Sublist b) (hb : Rises n b) : Rises n a := ⟨hb.1.sublist h, fun y hy => hb.2 y (h.subset hy)⟩

open Go.ChangeShapes Go.WideShapes Go.ChangeAt Go.RowKit
set_option linter.unusedVariables false

/-- the rooms that can be reached -/
def reachInts (c : Int) (ds : List (List Int)) (f : Int) (op : List Int) : List Int := upto (fun i => (reachL c ds f op).getD i.toNat false) c.toNat

def reachWith (x : Int × List (List Int)) (f : Int) (op : List Int) : List Int × Int := if roomsCode x.1 x.2 op [f] = 0 then (reachInts x.1 x.2 f op, 0) else ([], roomsCode x.1 x.2 op [f])
theorem reachWith_ok {x : Int × List (List Int)} {f : Int} {op : List Int} (h : roomsCode x.1 x.2 op [f] = 0) : reachWith x f op = (reachInts x.1 x.2 f op, 0) := by unfold reachWith; rw [if_pos h]
theorem reachWith_no {x : Int × List (List Int)} {f : Int} {op : List Int} (h : roomsCode x.1 x.2 op [f] ≠ 0) : reachWith x f op = ([], roomsCode x.1 x.2 op [f]) := by unfold reachWith; rw [if_neg h]

open Go.ChangeShapes Go.WideShapes Go.ChangeAt Go.RowKit
set_option linter.unusedVariables false

theorem roomsCode_mk {c : Int} {ds : List (List Int)} {doors rooms : List Int} (h1 : roomsOk c ds = true) (h2 : rising doors ds.length = true) (h3 : ∀ f ∈ rooms, 0 ≤ f ∧ f < c) : roomsCode c ds doors rooms = 0 := by
  unfold roomsCode
  rw [if_pos h1, if_pos]
  rw [h2, Bool.and_true]
  unfold allB
  rw [List.all_eq_true]
  intro f hf
  have := h3 f hf
  simp [inB]; omega
theorem routesCode_mk {c : Int} {ds : List (List Int)} {doors : List Int} {f t : Int} (h1 : roomsOk c ds = true) (h2 : rising doors ds.length = true) (h3 : 0 ≤ f ∧ f < c) (h4 : 0 ≤ t ∧ t < c) (h5 : f ≠ t) : routesCode c ds f t doors = 0 :=
  routesCode_ne (roomsCode_mk h1 h2 (fun g hg => by
    rcases List.mem_cons.1 hg with rfl | hg
    · exact h3
    · rw [List.mem_singleton.1 hg]; exact h4)) h5
theorem rising_doors {n : Nat} {l : List Int} (h : rising l n = true) : ∀ d ∈ l, 0 ≤ d ∧ d < n := fun d hd => by
  have := (rises_of_rising h).2 d hd
  omega
theorem rising_sub {n : Nat} {a b : List Int} (h : a.Sublist b) (hb : rising b n = true) : rising a n = true := by
  have := rises_of_rising hb
  rw [Int.toNat_natCast] at this
  exact rising_of_rises (rises_sublist h this)
theorem reachInts_has {c : Int} {ds : List (List Int)} {f : Int} {op : List Int} {q : Int} (hc : 0 ≤ c) (h0 : 0 ≤ q) (h1 : q < c) : has (reachInts c ds f op) q = (reachL c ds f op).getD q.toNat false := by
  cases e : (reachL c ds f op).getD q.toNat false with
  | true => exact has_iff.2 (upto_mem.2 ⟨h0, by omega, e⟩)
  | false =>
    cases e2 : has (reachInts c ds f op) q with
    | false => rfl
    | true => have := (upto_mem.1 (has_iff.1 e2)).2.2; rw [e] at this; cases this

open Go.ChangeShapes Go.WideShapes Go.ChangeAt Go.RowKit
set_option linter.unusedVariables false

def isHitting (n : Int) (xss : List (List Int)) (l : List Int) : Bool × Int := if setsCode n xss l = 0 then (hitsB xss l, 0) else (false, setsCode n xss l)
theorem isHitting_ok {n : Int} {xss : List (List Int)} {l : List Int} (h : setsCode n xss l = 0) : isHitting n xss l = (hitsB xss l, 0) := by unfold isHitting; rw [if_pos h]
theorem isHitting_no {n : Int} {xss : List (List Int)} {l : List Int} (h : setsCode n xss l ≠ 0) : isHitting n xss l = (false, setsCode n xss l) := by unfold isHitting; rw [if_neg h]
theorem IsHitting_c (w : World) (u v : Value) (y z : Zone) (xss : List (List Int)) (l : List Int) (n : Int) (hn : I64 n) (h : RowsR y w u xss) (h' : IntsR z w v l) :
    Calls Try.prog 36 #[.int .i64 n, u, v] w (Ret w fun r _ => r = BoolCode (isHitting n xss l)) := by
  have hcall := setsCode_c w u v y z xss l n hn h h'
  by_cases hc : setsCode n xss l = 0
  · have HH := Lib.hid (isHitting_ok hc)
    rw [hc] at hcall
    go_enter Try.func36, Try.ntmps36
    go_wp2_with fail
    refine Calls.mono hcall ?_
    rintro e w1 ⟨r, rfl, rfl, b1⟩
    go_wp2_with fail
    refine Calls.mono (hits_c w1 u v y z xss l (stable_rows.below h b1) (stable_ints.below h' b1)) ?_
    rintro e w2 ⟨r, rfl, rfl, b2⟩
    go_wp2_with fail
    go_ret2
    exact ⟨_, rfl, BoolCode_mk HH.out, b1.trans (b2.mono b1.size)⟩
  · have HH := Lib.hid (isHitting_no hc)
    have hb : (setsCode n xss l != 0) = true := by rw [bne_iff_ne]; exact hc
    generalize setsCode n xss l = k at *
    clear hc
    go_enter Try.func36, Try.ntmps36
    go_wp2_with fail
    refine Calls.mono hcall ?_
    rintro e w1 ⟨r, rfl, rfl, b1⟩
    go_wp2_with fail
    go_ret2
    exact ⟨_, rfl, BoolCode_mk HH.out, b1⟩

theorem IsHittingSpec_c (w : World) (u v : Value) (y z : Zone) (xss : List (List Int)) (l : List Int) (n : Int) (hn : I64 n) (h : RowsR y w u xss) (h' : IntsR z w v l) :
    Calls Try.prog 41 #[.int .i64 n, u, v] w (Ret w fun r _ => r = BoolCode (isHitting n xss l)) := by
  have hcall := l26Code_c w u v y z xss l n hn h h'
  by_cases hc : setsCode n xss l = 0
  · have HH := Lib.hid (isHitting_ok hc)
    rw [hc] at hcall
    go_enter Try.func41, Try.ntmps41
    go_wp2_with fail
    refine Calls.mono hcall ?_
    rintro e w1 ⟨rfl, b1⟩
    go_wp2_with fail
    refine Calls.mono (l26Hits_c w1 u v y z xss l (stable_rows.drew h b1) (stable_ints.drew h' b1)) ?_
    rintro e w2 ⟨rfl, b2⟩
    go_wp2_with fail
    go_ret2
    exact ⟨_, rfl, BoolCode_mk HH.out, (b1.trans b2).below _⟩
  · have HH := Lib.hid (isHitting_no hc)
    have hb : (setsCode n xss l != 0) = true := by rw [bne_iff_ne]; exact hc
    generalize setsCode n xss l = k at *
    clear hc
    go_enter Try.func41, Try.ntmps41
    go_wp2_with fail
    refine Calls.mono hcall ?_
    rintro e w1 ⟨rfl, b1⟩
    go_wp2_with fail
    go_ret2
    exact ⟨_, rfl, BoolCode_mk HH.out, b1.below _⟩

/-! ### the bound -/
def boundStep (x : List Int × Int) (s : List Int) : List Int × Int := if common s x.1 = true then x else (x.1 ++ s, x.2 + 1)
def boundAt (xss : List (List Int)) (k : Nat) : List Int × Int := (xss.take k).foldl boundStep ([], 0)
theorem boundAt_succ {xss : List (List Int)} {k : Nat} (h : k < xss.length) : boundAt xss (k+1) = boundStep (boundAt xss k) xss[k] := by
  unfold boundAt; rw [List.take_add_one, List.getElem?_eq_getElem h, List.foldl_append]; rfl
theorem boundAt_yes {xss : List (List Int)} {k : Nat} (h : k < xss.length) (hc : common xss[k] (boundAt xss k).1 = true) : boundAt xss (k+1) = boundAt xss k := by
  rw [boundAt_succ h]; unfold boundStep; rw [if_pos hc]
theorem boundAt_no {xss : List (List Int)} {k : Nat} (h : k < xss.length) (hc : common xss[k] (boundAt xss k).1 = false) : boundAt xss (k+1) = ((boundAt xss k).1 ++ xss[k], (boundAt xss k).2 + 1) := by
  rw [boundAt_succ h]; unfold boundStep; rw [if_neg (by simp [hc])]
/-- what the taken sets hold, and how many they are -/
def BoundOk (xss : List (List Int)) (k : Nat) : Prop := (boundAt xss k).1.length ≤ 12 * k ∧ 0 ≤ (boundAt xss k).2 ∧ (boundAt xss k).2 ≤ k ∧ ∀ x ∈ (boundAt xss k).1, I64 x
theorem bound_ok {xss : List (List Int)} (h : ∀ s ∈ xss, s.length ≤ 12 ∧ ∀ x ∈ s, I64 x) : ∀ k, k ≤ xss.length → BoundOk xss k := by
  intro k
  unfold BoundOk
  induction k with
  | zero => intro _; simp [boundAt]
  | succ k ih =>
    intro hk
    obtain ⟨h1, h2, h3, h4⟩ := ih (by omega)
    have hs := h xss[k] (List.getElem_mem (by omega))
    by_cases hc : common xss[k] (boundAt xss k).1 = true
    · rw [boundAt_yes (by omega) hc]; exact ⟨by omega, h2, by omega, h4⟩
    · rw [boundAt_no (by omega) (by simpa using hc)]
      refine ⟨by simp; omega, by simp only; omega, by simp only; omega, fun x hx => ?_⟩
      rcases List.mem_append.1 hx with hx | hx
      · exact h4 x hx
      · exact hs.2 x hx
def disjointBound (n : Int) (xss : List (List Int)) : Int × Int := if areSets n xss = true then ((boundAt xss xss.length).2, 0) else (0, 1)
theorem disjointBound_ok {n : Int} {xss : List (List Int)} (h : areSets n xss = true) : disjointBound n xss = ((boundAt xss xss.length).2, 0) := by unfold disjointBound; rw [if_pos h]
theorem disjointBound_no {n : Int} {xss : List (List Int)} (h : areSets n xss = false) : disjointBound n xss = (0, 1) := by unfold disjointBound; rw [if_neg (by simp [h])]

set_option maxRecDepth 20000 in
set_option maxHeartbeats 1000000 in
theorem DisjointBoundSpec_c (w : World) (v : Value) (z : Zone) (xss : List (List Int)) (n : Int) (hn : I64 n) (h : RowsR z w v xss) :
    Calls Try.prog 33 #[.int .i64 n, v] w (Ret w fun r _ => r = IntCode (disjointBound n xss)) := by
  have hcall := AreSetsSpec_c w v z xss n hn h
  cases hA : areSets n xss with
  | false =>
    have HH := Lib.hid (disjointBound_no hA)
    rw [hA] at hcall
    clear hA
    go_enter Try.func33, Try.ntmps33
    go_wp2_with fail
    refine Calls.mono hcall ?_
    rintro e w1 ⟨rfl, hd⟩
    go_wp2_with fail
    go_ret2
    exact ⟨_, rfl, IntCode_mk HH.out, hd.below _⟩
  | true =>
    have HH := Lib.hid (disjointBound_ok hA)
    obtain ⟨-, -, hl60, hsets⟩ := areSets_mem hA
    have Hok := Lib.hid (bound_ok (fun s hs => ⟨(hsets s hs).2.2, RowsR.mems h s hs⟩))
    have Hset := Lib.hid (fun s hs => (hsets s hs).2.2)
    rw [hA] at hcall
    clear hA hsets
    obtain ⟨a, len, cap, rfl, hlen, hmax, hel⟩ := SliceR.elem stable_ints h
    have hl60' : len ≤ 60 := by omega
    have Hlen := Lib.hid hlen; clear hlen h hl60
    have Hel := Lib.hid hel; clear hel
    go_enter Try.func33, Try.ntmps33
    go_wp2_with fail
    refine Calls.mono hcall ?_
    rintro e w1 ⟨rfl, hd⟩
    clear hcall
    have b1 := hd.below w.heap.size
    have sz1 := hd.size
    go_wp2_with fail
    generalize hw2 : World.alloc _ _ = w2
    have b2 : Below w.heap.size w w2 := by rw [← hw2]; exact b1.alloc (by omega) _
    have o2 : OwnP (Value.int .i64) 2 w.heap.size w2 (.slice (some ⟨w1.heap.size, 0, none⟩) 0 0) [] := by rw [← hw2]; exact OwnP.empty (by omega)
    have z2 : w.heap.size ≤ w2.heap.size := b2.size
    rw [sz1] at o2
    clear hw2
    go_loopw [6, 7, 8] (fun t c i wr => ∃ k : Nat, k ≤ len ∧ i = .int .i64 k ∧ c = .int .i64 (boundAt xss k).2 ∧ OwnP (Value.int .i64) 2 w.heap.size wr t (boundAt xss k).1 ∧ Below w.heap.size w wr) (fun _ _ i _ => len - (intOf i).toNat)
    case atStart => exact ⟨0, Nat.zero_le _, rfl, rfl, o2, b2⟩
    case round =>
      obtain ⟨k, hk, rfl, rfl, hown, hb⟩ := hrel
      obtain ⟨k1, k2, k3, k4⟩ := Hok.out k (by rw [← Hlen.out]; exact hk)
      have K4 := Lib.hid k4; clear k4 o2 b2
      by_cases hlt : k < len
      · have l1 : k < xss.length := by rw [← Hlen.out]; exact hlt
        obtain ⟨b, off, rfl, hb0, u, hc, hu⟩ := Hel.out k l1
        replace hc := (hb.cell hb0).trans hc
        have HY := Lib.hid (boundAt_yes l1)
        have HN := Lib.hid (boundAt_no l1)
        have hsl := Hset.out _ (List.getElem_mem l1)
        generalize xss[k] = s at *
        have hu' := stable_ints.below hu hb
        have HS : Hid (boundAt xss k = ((boundAt xss k).1, (boundAt xss k).2)) := rfl
        generalize (boundAt xss k).1 = tk at *
        generalize (boundAt xss k).2 = mk at *
        have hcall := Common_c wr u _ _ _ s tk hu' (OwnP.ints hown K4.out (Nat.le_refl _))
        obtain ⟨au, nu, cu, rfl, hnu, -⟩ := SliceR.shape hu'
        have hbs := hb.size
        cases hq : common s tk with
        | true =>
          have HH := Lib.hid (HY.out hq)
          rw [hq] at hcall
          clear hq HY HN hnu
          go_wp2_with fail
          refine Calls.mono hcall ?_
          rintro e w3 ⟨rfl, hd3⟩
          clear hcall
          go_wp2_with fail
          go_roundw
          case rel => exact ⟨k + 1, by omega, by go_num, by rw [HH.out, HS.out], by rw [HH.out, HS.out]; exact hown.below (hd3.below _), hb.trans (hd3.below _)⟩
          case measure => simp [intOf]; omega
        | false =>
          have HH := Lib.hid (HN.out hq)
          rw [hq] at hcall
          have Hnu := Lib.hid hnu
          clear hq HY HN hnu
          go_wp2_with fail
          refine Calls.mono hcall ?_
          rintro e w3 ⟨rfl, hd3⟩
          clear hcall
          have hsz3 := hd3.size
          have hown3 := hown.below (hd3.below _)
          replace hc := (hd3.cell _).trans hc
          go_wp2_with (at_builtin; (refine wpList_appendR (f := Value.int .i64) (e := 2) (B := w.heap.size) (xs := tk) (ys := s) rfl _ _ 25 rfl 0 8 Try.underlying25 Try.infoI64 rfl (fun _ => rfl) rfl hown3 (E := IntR) (fun h => h.1) rfl (stable_ints.drew hu' hd3) (by omega) (by omega) (by omega) ?_); intro v4 w4 hown4 hg4)
          have hb4 : Below w.heap.size w w4 := (hb.trans (hd3.below _)).grown hg4 (by omega) (fun j hj => (hown3.block j hj).1)
          go_roundw
          case rel => exact ⟨k + 1, by omega, by go_num, by rw [HH.out], by rw [HH.out]; exact hown4, hb4⟩
          case measure => simp [intOf]; omega
      · have hin : k = len := by omega
        have Hl := Hlen.out
        go_wp2_with fail
        go_ret2
        refine ⟨_, rfl, IntCode_mk ?_, hb⟩
        rw [HH.out, ← Hl, hin]

set_option maxRecDepth 20000 in
set_option maxHeartbeats 1000000 in
theorem DisjointBound_c (w : World) (v : Value) (z : Zone) (xss : List (List Int)) (n : Int) (hn : I64 n) (h : RowsR z w v xss) :
    Calls Try.prog 32 #[.int .i64 n, v] w (Ret w fun r _ => r = IntCode (disjointBound n xss)) := by
  have hcall := setsCode_c w v (.slice none 0 0) z z xss [] n hn h (SliceR.nil _ _ _)
  rw [setsCode_nil] at hcall
  cases hA : areSets n xss with
  | false =>
    have HH := Lib.hid (disjointBound_no hA)
    rw [hA] at hcall
    clear hA
    go_enter Try.func32, Try.ntmps32
    go_wp2_with fail
    refine Calls.mono hcall ?_
    rintro e w1 ⟨r, rfl, rfl, b1⟩
    go_wp2_with fail
    go_ret2
    exact ⟨_, rfl, IntCode_mk HH.out, b1⟩
  | true =>
    have HH := Lib.hid (disjointBound_ok hA)
    obtain ⟨-, -, hl60, hsets⟩ := areSets_mem hA
    have Hok := Lib.hid (bound_ok (fun s hs => ⟨(hsets s hs).2.2, RowsR.mems h s hs⟩))
    have Hset := Lib.hid (fun s hs => (hsets s hs).2.2)
    rw [hA] at hcall
    clear hA hsets
    obtain ⟨a, len, cap, rfl, hlen, hmax, hel⟩ := SliceR.elem stable_ints h
    have hl60' : len ≤ 60 := by omega
    have Hlen := Lib.hid hlen; clear hlen h hl60
    have Hel := Lib.hid hel; clear hel
    go_enter Try.func32, Try.ntmps32
    go_wp2_with fail
    refine Calls.mono hcall ?_
    rintro e w1 ⟨r, rfl, rfl, b1⟩
    clear hcall
    have sz1 := b1.size
    go_wp2_with fail
    generalize hw2 : World.alloc _ _ = w2
    have b2 : Below w.heap.size w w2 := by rw [← hw2]; exact b1.alloc (by omega) _
    have o2 : OwnP (Value.int .i64) 2 w.heap.size w2 (.slice (some ⟨w1.heap.size, 0, none⟩) 0 0) [] := by rw [← hw2]; exact OwnP.empty (by omega)
    have z2 : w.heap.size ≤ w2.heap.size := b2.size
    clear hw2
    go_loopw [7, 8, 20] (fun c t i wr => ∃ k : Nat, k ≤ len ∧ i = .int .i64 k ∧ c = .int .i64 (boundAt xss k).2 ∧ OwnP (Value.int .i64) 2 w.heap.size wr t (boundAt xss k).1 ∧ Below w.heap.size w wr) (fun _ _ i _ => len - (intOf i).toNat)
    case atStart => exact ⟨0, Nat.zero_le _, rfl, rfl, o2, b2⟩
    case round =>
      obtain ⟨k, hk, rfl, rfl, hown, hb⟩ := hrel
      obtain ⟨k1, k2, k3, k4⟩ := Hok.out k (by rw [← Hlen.out]; exact hk)
      have K4 := Lib.hid k4; clear k4 o2 b2
      by_cases hlt : k < len
      · have l1 : k < xss.length := by rw [← Hlen.out]; exact hlt
        obtain ⟨b, off, rfl, hb0, u, hc, hu⟩ := Hel.out k l1
        replace hc := (hb.cell hb0).trans hc
        have HY := Lib.hid (boundAt_yes l1)
        have HN := Lib.hid (boundAt_no l1)
        have hsl := Hset.out _ (List.getElem_mem l1)
        generalize xss[k] = s at *
        have hu' := stable_ints.below hu hb
        have HS : Hid (boundAt xss k = ((boundAt xss k).1, (boundAt xss k).2)) := rfl
        generalize (boundAt xss k).1 = tk at *
        generalize (boundAt xss k).2 = mk at *
        have hcall := meets_c wr u _ _ _ s tk hu' (OwnP.ints hown K4.out (Nat.le_refl _))
        obtain ⟨au, nu, cu, rfl, hnu, -⟩ := SliceR.shape hu'
        have hbs := hb.size
        have Hnu := Lib.hid hnu
        clear hnu
        cases hq : common s tk with
        | true =>
          have HH := Lib.hid (HY.out hq)
          rw [hq] at hcall
          clear hq HY HN
          go_wp2_with fail
          refine Calls.mono hcall ?_
          rintro e w3 ⟨r, rfl, rfl, b3⟩
          clear hcall
          go_wp2_with fail
          go_roundw
          case rel => exact ⟨k + 1, by omega, by go_num, by rw [HH.out, HS.out], by rw [HH.out, HS.out]; exact hown.below b3, hb.trans (b3.mono hbs)⟩
          case measure => simp [intOf]; omega
        | false =>
          have HH := Lib.hid (HN.out hq)
          rw [hq] at hcall
          clear hq HY HN
          go_wp2_with fail
          refine Calls.mono hcall ?_
          rintro e w3 ⟨r, rfl, rfl, b3⟩
          clear hcall
          have hsz3 := b3.size
          have hown3 := hown.below b3
          go_wp2_with (at_builtin; (refine wpList_appendR (f := Value.int .i64) (e := 2) (B := w.heap.size) (xs := tk) (ys := s) rfl _ _ 25 rfl 0 8 Try.underlying25 Try.infoI64 rfl (fun _ => rfl) rfl hown3 (E := IntR) (fun h => h.1) rfl (stable_ints.below hu' b3) (by omega) (by omega) (by omega) ?_); intro v4 w4 hown4 hg4)
          have hb4 : Below w.heap.size w w4 := (hb.trans (b3.mono hbs)).grown hg4 (by omega) (fun j hj => (hown3.block j hj).1)
          go_roundw
          case rel => exact ⟨k + 1, by omega, by go_num, by rw [HH.out], by rw [HH.out]; exact hown4, hb4⟩
          case measure => simp [intOf]; omega
      · have hin : k = len := by omega
        have Hl := Hlen.out
        go_wp2_with fail
        go_ret2
        refine ⟨_, rfl, IntCode_mk ?_, hb⟩
        rw [HH.out, ← Hl, hin]

open Go.ChangeShapes Go.WideShapes Go.ChangeAt Go.RowKit
set_option linter.unusedVariables false

theorem hitsB_iff {xss : List (List Int)} {l : List Int} : hitsB xss l = true ↔ ∀ s ∈ xss, ∃ x ∈ s, x ∈ l := by
  unfold hitsB common
  simp only [List.all_eq_true, List.any_eq_true, has_iff]
/-- the first list that has it is the best one -/
theorem leastL_is {p : List Int → Bool} {n : Nat} (hex : ∃ x, Rises n x ∧ p x = true) : Rises n (leastL p n) ∧ p (leastL p n) = true ∧ ∀ x, Rises n x → p x = true → lessL x (leastL p n) = false := by
  have hb := bestOf_is p (allSets n)
  unfold leastL
  cases h : bestOf p (allSets n) with
  | none =>
    rw [h] at hb
    obtain ⟨x, h1, h2⟩ := hex
    rw [hb x (mem_allSets.2 h1)] at h2
    cases h2
  | some b =>
    rw [h] at hb
    exact ⟨mem_allSets.1 hb.1, hb.2.1, fun x hx hp => hb.2.2 x (mem_allSets.2 hx) hp⟩
theorem without_sublist (l : List Int) (k : Nat) : (without l k).Sublist l := by
  unfold without
  have h1 : (l.drop (k+1)).Sublist (l.drop k) := by
    rw [show l.drop (k+1) = (l.drop k).drop 1 by rw [List.drop_drop]]
    exact List.drop_sublist _ _
  have h2 := (List.Sublist.refl (l.take k)).append h1
  rwa [List.take_append_drop] at h2
theorem without_len {l : List Int} {k : Nat} (hk : k < l.length) : (without l k).length < l.length := by
  unfold without; simp; omega
/-- all numbers hit the sets -/
theorem all_hit {n : Int} {xss : List (List Int)} (h : areSets n xss = true) : ∃ x, Rises n.toNat x ∧ hitsB xss x = true := by
  obtain ⟨h1, h2, h3, h4⟩ := areSets_mem h
  refine ⟨upto (fun _ => true) n.toNat, ⟨upto_pairwise _ _, fun y hy => by have := upto_mem.1 hy; omega⟩, hitsB_iff.2 fun s hs => ?_⟩
  obtain ⟨g1, g2, -⟩ := h4 s hs
  cases s with
  | nil => exact absurd rfl g1
  | cons a s =>
    have := (rises_of_rising g2).2 a (List.mem_cons_self ..)
    exact ⟨a, List.mem_cons_self .., upto_mem.2 ⟨this.1, this.2, rfl⟩⟩
theorem least_minimal {n : Int} {xss : List (List Int)} (h : areSets n xss = true) : minimalB xss (leastL (hitsB xss) n.toNat) = true := by
  obtain ⟨h1, h2, h3⟩ := leastL_is (all_hit h)
  unfold minimalB
  rw [Bool.and_eq_true]
  refine ⟨h2, List.all_eq_true.2 fun k hk => ?_⟩
  rw [List.mem_range] at hk
  cases e : hitsB xss (without (leastL (hitsB xss) n.toNat) k) with
  | false => rfl
  | true =>
    have := lessL_len (h3 _ (rises_sublist (without_sublist _ _) h1) e)
    have := without_len hk
    omega
theorem greedy_ends {n : Nat} {xss : List (List Int)} (ho : OkSets n xss) : Rises n (greedyL n xss) ∧ hitsB xss (greedyL n xss) = true := by
  have hall : ∀ k, (∀ j, j < k → hitsB xss (greedyN n xss j) = false) → GoodG n xss k (greedyN n xss k) := fun k => by
    induction k with
    | zero => intro _; exact goodG_zero ho
    | succ k ih =>
      intro hj
      exact goodG_succ ho (ih fun j hjk => hj j (by omega)) (hj k (by omega))
  have hex : ∃ k, k ≤ 60 ∧ hitsB xss (greedyN n xss k) = true ∧ ∀ j, j < k → hitsB xss (greedyN n xss j) = false := by
    by_cases hne : ∀ j, j < 61 → hitsB xss (greedyN n xss j) = false
    · have := (hall 61 hne).2.1; omega
    · obtain ⟨j, hj⟩ := Classical.not_forall.1 hne
      have hj' : j < 61 ∧ hitsB xss (greedyN n xss j) = true := by
        constructor
        · exact Decidable.byContradiction fun h => hj fun h' => absurd h' h
        · cases e : hitsB xss (greedyN n xss j) with
          | true => rfl
          | false => exact absurd (fun _ => e) hj
      clear hj hne
      induction j using Nat.strongRecOn with
      | ind j ih =>
        by_cases hall' : ∀ i, i < j → hitsB xss (greedyN n xss i) = false
        · exact ⟨j, by omega, hj'.2, hall'⟩
        · obtain ⟨i, hi⟩ := Classical.not_forall.1 hall'
          have hij : i < j := Decidable.byContradiction fun h => hi fun h' => absurd h' h
          refine ih i hij ⟨by omega, ?_⟩
          cases e : hitsB xss (greedyN n xss i) with
          | true => rfl
          | false => exact absurd (fun _ => e) hi
  obtain ⟨k, hk, h1, h2⟩ := hex
  have hg := hall k h2
  have he := endG_eq hg h1 h2
  have hgl : greedyL n xss = upto (has (greedyN n xss k)) n := by unfold greedyL; rw [he]
  rw [hgl]
  refine ⟨⟨upto_pairwise _ _, fun y hy => by have := upto_mem.1 hy; omega⟩, ?_⟩
  rw [hitsB_iff] at h1 ⊢
  intro s hs
  obtain ⟨x, hx, hxl⟩ := h1 s hs
  have := hg.2.2.2 x hxl
  exact ⟨x, hx, upto_mem.2 ⟨this.1, this.2, has_iff.2 hxl⟩⟩

theorem bound_le {xss : List (List Int)} {l : List Int} (hl : hitsB xss l = true) : ∀ k, k ≤ xss.length → (boundAt xss k).2 ≤ ((l.filter (has (boundAt xss k).1)).length : Int) := by
  intro k
  induction k with
  | zero => intro _; simp [boundAt]
  | succ k ih =>
    intro hk
    have h0 := ih (by omega)
    by_cases hc : common xss[k] (boundAt xss k).1 = true
    · rw [boundAt_yes (by omega) hc]; exact h0
    · rw [boundAt_no (by omega) (by simpa using hc)]
      obtain ⟨x, hx, hxl⟩ := hitsB_iff.1 hl xss[k] (List.getElem_mem (by omega))
      have hno : has (boundAt xss k).1 x = false := by
        cases e : has (boundAt xss k).1 x with
        | false => rfl
        | true => exact absurd (by unfold common; exact List.any_eq_true.2 ⟨x, hx, e⟩) hc
      have hs := filter_split (has ((boundAt xss k).1 ++ xss[k])) (has (boundAt xss k).1) l
      have e1 : (l.filter fun y => has ((boundAt xss k).1 ++ xss[k]) y && has (boundAt xss k).1 y) = l.filter (has (boundAt xss k).1) := by
        refine List.filter_congr (fun y _ => ?_)
        cases e : has (boundAt xss k).1 y with
        | false => simp
        | true => rw [Bool.and_true]; exact has_iff.2 (List.mem_append_left _ (has_iff.1 e))
      have hpos : 0 < (l.filter fun y => has ((boundAt xss k).1 ++ xss[k]) y && !has (boundAt xss k).1 y).length :=
        List.length_pos_of_mem (List.mem_filter.2 ⟨hxl, by rw [hno, has_iff.2 (List.mem_append_right _ hx)]; rfl⟩)
      rw [e1] at hs
      simp only
      omega
/-- what the law wants of valid sets -/
theorem hit_facts {n : Int} {xss : List (List Int)} (h : areSets n xss = true) :
    isHitting n xss (leastHit n xss).1 = (true, 0) ∧ isHitting n xss (greedyHit n xss).1 = (true, 0) ∧ isMinimalR n xss (leastHit n xss).1 = (true, 0) ∧ (disjointBound n xss).1 ≤ ((leastHit n xss).1.length : Int) ∧ (leastHit n xss).1.length ≤ (greedyHit n xss).1.length := by
  obtain ⟨a1, a2, -⟩ := areSets_mem h
  obtain ⟨m, rfl⟩ : ∃ m : Nat, n = m := ⟨n.toNat, by omega⟩
  obtain ⟨h1, h2, h3⟩ := leastL_is (all_hit h)
  obtain ⟨g1, g2⟩ := greedy_ends (OkSets.of h)
  have hm := least_minimal h
  rw [leastHit_ok h, greedyHit_ok h, disjointBound_ok h]
  rw [Int.toNat_natCast] at h1 h2 h3 hm ⊢
  have c1 : ∀ l, Rises m l → setsCode (m : Int) xss l = 0 := fun l hl => by
    unfold setsCode; rw [if_pos h, if_pos (rising_of_rises hl)]
  refine ⟨?_, ?_, ?_, ?_, ?_⟩
  · unfold isHitting; rw [if_pos (c1 _ h1), h2]
  · unfold isHitting; rw [if_pos (c1 _ g1), g2]
  · unfold isMinimalR; rw [if_pos (c1 _ h1), hm]
  · have hb := bound_le h2 xss.length (Nat.le_refl _)
    have := List.length_filter_le (has (boundAt xss xss.length).1) (leastL (hitsB xss) m)
    simp only
    omega
  · exact lessL_len (h3 _ g1 g2)

open Go.ChangeShapes Go.WideShapes Go.ChangeAt Go.RowKit
set_option linter.unusedVariables false

def doorsToChange (x : Int × List (List Int)) (f t : Int) (op : List Int) : List Int × Int :=
  if (countRoutes x f t op).2 = 0 then (leastL (hitsB (routesL x.1 x.2 f t op)) x.2.length, 0) else ([], (countRoutes x f t op).2)
theorem doors_ok {x : Int × List (List Int)} {f t : Int} {op : List Int} (h : (countRoutes x f t op).2 = 0) : doorsToChange x f t op = (leastL (hitsB (routesL x.1 x.2 f t op)) x.2.length, 0) := by unfold doorsToChange; rw [if_pos h]
theorem doors_no {x : Int × List (List Int)} {f t : Int} {op : List Int} (h : (countRoutes x f t op).2 ≠ 0) : doorsToChange x f t op = ([], (countRoutes x f t op).2) := by unfold doorsToChange; rw [if_neg h]
theorem count_ok {x : Int × List (List Int)} {f t : Int} {op : List Int} (h : (countRoutes x f t op).2 = 0) : routesCode x.1 x.2 f t op = 0 ∧ (routesL x.1 x.2 f t op).length ≤ 60 := by
  by_cases hk : routesCode x.1 x.2 f t op = 0
  · refine ⟨hk, ?_⟩
    rw [countRoutes_ok hk] at h
    split at h
    · exact absurd h (by decide)
    · next hl => rw [List.length_take] at hl; omega
  · rw [countRoutes_no hk] at h; exact absurd h hk
theorem doors_length (x : Int × List (List Int)) (f t : Int) (op : List Int) : ((doorsToChange x f t op).1.length : Int) ≤ 1048576 := by
  by_cases h : (countRoutes x f t op).2 = 0
  · rw [doors_ok h]
    have := leastL_length (hitsB (routesL x.1 x.2 f t op)) x.2.length
    have := (roomsOk_sides (routesCode_ok (count_ok h).1).1).2.1
    simp only; omega
  · rw [doors_no h]; simp

set_option maxRecDepth 20000 in
set_option maxHeartbeats 2000000 in
theorem DoorsSpec_c (w : World) (v vd : Value) (z y : Zone) (x : Int × List (List Int)) (f t : Int) (hfi : I64 f) (op : List Int) (h : RoomsR z w v x) (hd : IntsR y w vd op) :
    Calls Try.prog 10 #[v, .int .i64 f, .int .i64 t, vd] w (Ret w fun r w' => IntsCode w (doorsToChange x f t op) r w') := by
  have hC := fun (wq : World) (hb : Ext w wq) => CountRoutesSpec_c wq v vd z y x f t hfi op (stable_Rooms.ext h hb) (stable_ints.ext hd hb)
  have hL := fun (h1 : roomsOk x.1 x.2 = true) (h2 : rising op x.2.length = true) (h3 : 0 ≤ f) (h4 : f < x.1) (h5 : f ≠ t) (wq : World) (hb : Ext w wq) (vr : Value) (q : Zone) (hr : IntsR q wq vr [f]) => l25RoutesTop_c wq v vr vd z q y x op f t 1000000 (stable_Rooms.ext h hb) hr (stable_ints.ext hd hb) h1 h2 h3 h4 h5 (by omega)
  obtain ⟨c, ds⟩ := x
  obtain ⟨u, rfl, hc, hrr⟩ := h
  obtain ⟨a, n, cap, rfl, hn, -⟩ := SliceR.shape hrr
  simp only at hn
  by_cases hk : (countRoutes (c, ds) f t op).2 = 0
  · have HH := Lib.hid (doors_ok (x := (c, ds)) hk)
    obtain ⟨g1, g2⟩ := count_ok hk
    obtain ⟨k1, k2, ⟨k3, k4⟩, -, k7⟩ := routesCode_ok g1
    replace hL := hL k1 k2 k3 k4 k7
    have hn12 : n ≤ 12 := by have : ds.length ≤ 12 := (roomsOk_sides k1).2.1; omega
    simp only at hC hL HH g2 ⊢
    rw [← hn] at HH
    rw [List.take_of_length_le (by omega)] at hL
    generalize doorsToChange (c, ds) f t op = res at *
    generalize routesL c ds f t op = l at *
    obtain ⟨cc, hcc⟩ : ∃ cc, countRoutes (c, ds) f t op = (cc, 0) := ⟨(countRoutes (c, ds) f t op).1, by rw [← hk]⟩
    rw [hcc] at hC
    have HLe := Lib.hid (fun (wq : World) (v : Value) (z : Zone) (h : RowsR z wq v l) => l26Least_c wq v z l n hn12 h)
    clear hk hcc g1 g2 k1 k2 k3 k4 k7 hrr hc hd hn
    have HL := Lib.hid hL; clear hL
    generalize leastL (hitsB l) n = ll at *
    go_enter Try.func10, Try.ntmps10
    go_wp2_with fail
    have hbx := box2 w (.int .i64 c) (.slice a n cap) 29
    generalize hwa : World.alloc w (.cells #[.int .i64 c, .slice a n cap] 29) = wa at *
    obtain ⟨e0, q0, q1, hsz⟩ := hbx
    clear hwa hsz
    refine Calls.mono (hC _ e0) ?_
    rintro e w1 hr1
    obtain ⟨r, rfl, rfl, b1⟩ := ret_ext hr1
    clear hr1
    unfold IntCode
    replace q0 := b1.cell q0
    replace q1 := b1.cell q1
    go_wp2_with fail
    refine Calls.mono (HL.out _ (by repeat (first | exact Ext.refl _ | assumption | (refine Ext.trans ?_ (Ext.alloc _ _)) | (refine Ext.trans ?_ (Ext.drew _)) | (refine Ext.trans ?_ (by assumption)))) _ _ (ints_one _ f 2 hfi)) ?_
    rintro e w2 hr2
    obtain ⟨r, rfl, r2, b2⟩ := ret_ext hr2
    clear hr2 HL hC
    have hb12 : Ext w1 w2 := (by repeat (first | exact Ext.refl _ | assumption | (refine Ext.trans ?_ (Ext.alloc _ _)) | (refine Ext.trans ?_ (Ext.drew _)) | (refine Ext.trans ?_ (by assumption))))
    replace q0 := hb12.cell q0
    replace q1 := hb12.cell q1
    go_wp2_with fail
    refine Calls.mono (HLe.out _ _ _ r2) ?_
    rintro e w3 hr3
    obtain ⟨r, rfl, r3, b3⟩ := ret_ext hr3
    clear hr3 q0 q1
    have hbw : Ext w w3 := (by repeat (first | exact Ext.refl _ | assumption | (refine Ext.trans ?_ (Ext.alloc _ _)) | (refine Ext.trans ?_ (Ext.drew _)) | (refine Ext.trans ?_ (by assumption))))
    have hb2' : Ext w w2 := (by repeat (first | exact Ext.refl _ | assumption | (refine Ext.trans ?_ (Ext.alloc _ _)) | (refine Ext.trans ?_ (Ext.drew _)) | (refine Ext.trans ?_ (by assumption))))
    have hres := stable_ints.grow r3 hb2' (Ext.refl _)
    go_wp2_with fail
    go_ret2
    exact ⟨_, rfl, IntsCode_mk HH.out hres, hbw⟩
  · have HH := Lib.hid (doors_no (x := (c, ds)) hk)
    simp only at hC HH ⊢
    generalize doorsToChange (c, ds) f t op = res at *
    generalize countRoutes (c, ds) f t op = cr at *
    obtain ⟨c1, c2⟩ := cr
    simp only at hk HH
    have hb : (c2 != 0) = true := by rw [bne_iff_ne]; exact hk
    clear hk hL hn hrr hc hd
    go_enter Try.func10, Try.ntmps10
    go_wp2_with fail
    refine Calls.mono (hC _ (Ext.alloc _ _)) ?_
    rintro e w1 hr1
    obtain ⟨r, rfl, rfl, b1⟩ := ret_ext hr1
    unfold IntCode
    go_wp2_with fail
    go_ret2
    exact ⟨_, rfl, IntsCode_nil HH.out, (Ext.alloc _ _).trans b1⟩

set_option maxRecDepth 20000 in
set_option maxHeartbeats 2000000 in
theorem Doors_c (w : World) (v vd : Value) (z y : Zone) (x : Int × List (List Int)) (f t : Int) (hfi : I64 f) (hti : I64 t) (op : List Int) (h : RoomsR z w v x) (hd : IntsR y w vd op) :
    Calls Try.prog 13 #[v, .int .i64 f, .int .i64 t, vd] w (Ret w fun r w' => IntsCode w (doorsToChange x f t op) r w') := by
  have hC := fun (wq : World) (hb : Ext w wq) => CountRoutes_c wq v vd z y x f t hfi hti op (stable_Rooms.ext h hb) (stable_ints.ext hd hb)
  have hL := fun (h1 : roomsOk x.1 x.2 = true) (h2 : rising op x.2.length = true) (h3 : 0 ≤ f) (h4 : f < x.1) (wq : World) (hb : Ext w wq) => routesTo_c wq v vd z y x op f t 60 (stable_Rooms.ext h hb) (stable_ints.ext hd hb) h1 h2 h3 h4 (by omega)
  obtain ⟨c, ds⟩ := x
  obtain ⟨u, rfl, hc, hrr⟩ := h
  obtain ⟨a, n, cap, rfl, hn, -⟩ := SliceR.shape hrr
  simp only at hn
  by_cases hk : (countRoutes (c, ds) f t op).2 = 0
  · have HH := Lib.hid (doors_ok (x := (c, ds)) hk)
    obtain ⟨g1, g2⟩ := count_ok hk
    obtain ⟨k1, k2, ⟨k3, k4⟩, -, k7⟩ := routesCode_ok g1
    replace hL := hL k1 k2 k3 k4
    have hn12 : n ≤ 12 := by have : ds.length ≤ 12 := (roomsOk_sides k1).2.1; omega
    simp only at hC hL HH g2 ⊢
    rw [← hn] at HH
    rw [List.take_of_length_le (by omega), show ((60 : Nat) : Int) = 60 from rfl] at hL
    generalize doorsToChange (c, ds) f t op = res at *
    generalize routesL c ds f t op = l at *
    obtain ⟨cc, hcc⟩ : ∃ cc, countRoutes (c, ds) f t op = (cc, 0) := ⟨(countRoutes (c, ds) f t op).1, by rw [← hk]⟩
    rw [hcc] at hC
    have HLe := Lib.hid (fun (wq : World) (v : Value) (z : Zone) (h : RowsR z wq v l) => leastHitting_c wq v z l n hn12 h)
    clear hk hcc g1 g2 k1 k2 k3 k4 k7 hrr hc hd hn
    have HL := Lib.hid hL; clear hL
    generalize leastL (hitsB l) n = ll at *
    go_enter Try.func13, Try.ntmps13
    go_wp2_with fail
    have hbx := box2 w (.int .i64 c) (.slice a n cap) 29
    generalize hwa : World.alloc w (.cells #[.int .i64 c, .slice a n cap] 29) = wa at *
    obtain ⟨e0, q0, q1, hsz⟩ := hbx
    clear hwa hsz
    refine Calls.mono (hC _ e0) ?_
    rintro e w1 hr1
    obtain ⟨r, rfl, rfl, b1⟩ := ret_ext hr1
    clear hr1
    unfold IntCode
    replace q0 := b1.cell q0
    replace q1 := b1.cell q1
    have HK : Hid (∀ w', Ext w1 w' → w'.cell? ⟨w.heap.size, 0, none⟩ = some (.int .i64 c) ∧ w'.cell? ⟨w.heap.size, 1, none⟩ = some (.slice a n cap)) := fun w' hb => ⟨hb.cell q0, hb.cell q1⟩
    go_wp2_with fail
    go_region_held3 (fun w' => w'.cell? ⟨w.heap.size, 0, none⟩ = some (.int .i64 c) ∧ w'.cell? ⟨w.heap.size, 1, none⟩ = some (.slice a n cap)) (exact HK.out _ (by repeat (first | exact Ext.refl _ | assumption | (refine Ext.trans ?_ (Ext.alloc _ _)) | (refine Ext.trans ?_ (Ext.drew _)) | (refine Ext.trans ?_ (by assumption))))) (first | (go_at_call 58; (with_reducible refine (HL.out _ (by repeat (first | exact Ext.refl _ | assumption | (refine Ext.trans ?_ (Ext.alloc _ _)) | (refine Ext.trans ?_ (Ext.drew _)) | (refine Ext.trans ?_ (by assumption))))).mono ?_); rintro e w7 hr7; obtain ⟨u7, rfl, r7, b7⟩ := ret_ext hr7; clear hr7) | (go_at_call 57; (with_reducible refine (HLe.out _ _ _ r7).mono ?_); rintro e w8 hr8; obtain ⟨u8, rfl, r8, b8⟩ := ret_ext hr8; clear hr8))
    have hbw : Ext w w8 := (by repeat (first | exact Ext.refl _ | assumption | (refine Ext.trans ?_ (Ext.alloc _ _)) | (refine Ext.trans ?_ (Ext.drew _)) | (refine Ext.trans ?_ (by assumption))))
    have hb7' : Ext w w7 := (by repeat (first | exact Ext.refl _ | assumption | (refine Ext.trans ?_ (Ext.alloc _ _)) | (refine Ext.trans ?_ (Ext.drew _)) | (refine Ext.trans ?_ (by assumption))))
    have hres := stable_ints.grow r8 hb7' (Ext.refl _)
    go_wp2_with fail
    go_ret2
    exact ⟨_, rfl, IntsCode_mk HH.out hres, hbw⟩
  · have HH := Lib.hid (doors_no (x := (c, ds)) hk)
    simp only at hC HH ⊢
    generalize doorsToChange (c, ds) f t op = res at *
    generalize countRoutes (c, ds) f t op = cr at *
    obtain ⟨c1, c2⟩ := cr
    simp only at hk HH
    have hb : (c2 != 0) = true := by rw [bne_iff_ne]; exact hk
    clear hk hL hn hrr hc hd
    go_enter Try.func13, Try.ntmps13
    go_wp2_with fail
    refine Calls.mono (hC _ (Ext.alloc _ _)) ?_
    rintro e w1 hr1
    obtain ⟨r, rfl, rfl, b1⟩ := ret_ext hr1
    unfold IntCode
    go_wp2_with fail
    go_ret2
    exact ⟨_, rfl, IntsCode_nil HH.out, (Ext.alloc _ _).trans b1⟩

open Go.ChangeShapes Go.WideShapes Go.ChangeAt Go.RowKit
set_option linter.unusedVariables false

/-! ### doors to change -/
theorem doors_stop {x : Int × List (List Int)} {f t : Int} {op : List Int} (h : (doorsToChange x f t op).2 = 0) :
    (reachWith x f (op.filter fun y => !has (doorsToChange x f t op).1 y)).2 = 0 ∧ has (reachWith x f (op.filter fun y => !has (doorsToChange x f t op).1 y)).1 t = false := by
  by_cases h0 : (countRoutes x f t op).2 = 0
  · obtain ⟨hk, -⟩ := count_ok h0
    obtain ⟨k1, k2, k3, k4, k5⟩ := routesCode_ok hk
    rw [doors_ok h0]
    simp only
    have hop := rising_doors k2
    have hex : ∃ l, Rises x.2.length l ∧ hitsB (routesL x.1 x.2 f t op) l = true := by
      refine ⟨upto (fun _ => true) x.2.length, ⟨upto_pairwise _ _, fun y hy => by have := upto_mem.1 hy; omega⟩, hitsB_iff.2 fun r hr => ?_⟩
      have hl := route_leads _ _ _ r hr
      cases r with
      | nil => exact absurd hl k5
      | cons d r =>
        have := hop d (routesN_mem _ _ _ _ hr d (List.mem_cons_self ..))
        exact ⟨d, List.mem_cons_self .., upto_mem.2 ⟨this.1, this.2, rfl⟩⟩
    obtain ⟨-, hhit, -⟩ := leastL_is hex
    generalize leastL (hitsB (routesL x.1 x.2 f t op)) x.2.length = d at hhit ⊢
    have hsub : (op.filter fun y => !has d y).Sublist op := List.filter_sublist
    have hc : roomsCode x.1 x.2 (op.filter fun y => !has d y) [f] = 0 := roomsCode_mk k1 (rising_sub hsub k2) (fun g hg => by rw [List.mem_singleton.1 hg]; exact k3)
    have hr : reachWith x f (op.filter fun y => !has d y) = (reachInts x.1 x.2 f (op.filter fun y => !has d y), 0) := by unfold reachWith; rw [if_pos hc]
    rw [hr]
    refine ⟨rfl, ?_⟩
    simp only
    rw [reachInts_has (by omega) k4.1 k4.2]
    cases e : (reachL x.1 x.2 f (op.filter fun y => !has d y)).getD t.toNat false with
    | false => rfl
    | true =>
      obtain ⟨r, hr, hrd⟩ := reach_route k1 hop (fun y hy => hsub.subset hy) k3.1 k3.2 k4.1 e
      obtain ⟨y, hy, hyd⟩ := hitsB_iff.1 hhit r hr
      have := (List.mem_filter.1 (hrd y hy)).2
      rw [has_iff.2 hyd] at this
      cases this
  · rw [doors_no h0] at h; exact absurd h h0

open Go.ChangeShapes Go.WideShapes Go.ChangeAt Go.RowKit
set_option linter.unusedVariables false

theorem minimals_told (n : Int) (xss : List (List Int)) (most : Int) :
    (∀ r ∈ (minimalHits n xss most).1, isMinimalR n xss r = (true, 0)) ∧ (minimalHits n xss most).1.Pairwise (fun a b => a.length ≤ b.length) := by
  unfold minimalHits
  split
  · next hA =>
    split
    · next hB =>
      obtain ⟨h1, h2, -⟩ := areSets_mem hA
      refine ⟨fun r hr => ?_, ?_⟩
      · obtain ⟨g1, g2⟩ := List.mem_filter.1 (List.mem_of_mem_take hr)
        have hris := rising_of_rises (mem_allChoices.1 g1)
        rw [show ((n.toNat : Nat) : Int) = n by omega] at hris
        unfold isMinimalR
        rw [if_pos (by unfold setsCode; rw [if_pos hA, if_pos hris]), g2]
      · exact (((allChoices_sorted n.toNat).imp (fun {a b} h => by rcases lessL_iff.1 h with h | h <;> omega)).filter _).sublist (List.take_sublist _ _)
    · exact ⟨fun r hr => by simp at hr, List.Pairwise.nil⟩
  · exact ⟨fun r hr => by simp at hr, List.Pairwise.nil⟩
/-- what is minimal hits -/
theorem minimal_hits {n : Int} {xss : List (List Int)} {l : List Int} (h : (isMinimalR n xss l).1 = true) : (isHitting n xss l).1 = true := by
  unfold isMinimalR at h
  split at h
  · next hk =>
    unfold isHitting
    rw [if_pos hk]
    simp only [minimalB, Bool.and_eq_true] at h ⊢
    exact h.1
  · cases h

open Go.ChangeShapes Go.WideShapes Go.ChangeAt Go.RowKit
set_option linter.unusedVariables false

theorem SliceR.takeN {α : Type} {E : Repr α} {z : Zone} {w : World} {a : Option Addr} {n cap : Nat} {xs : List α} (h : SliceR E z w (.slice a n cap) xs) {k : Nat} (hk : k ≤ xs.length) : SliceR E z w (.slice a k cap) (xs.take k) := by
  obtain ⟨a', cap', he, g1, g2, g3, g4⟩ := h
  injection he with e1 e2 e3
  subst e1; subst e3
  have hl : (xs.take k).length = k := by rw [List.length_take]; omega
  refine ⟨a, cap, by rw [hl], by omega, g2, fun e => ⟨by rw [(g3 e).1]; simp, (g3 e).2⟩, fun ad had hp => ?_⟩
  obtain ⟨k1, k2, k3, k4, Z, k5, k6, k7⟩ := g4 ad had (by omega)
  refine ⟨k1, k2, k3, fun ho i hi => k4 ho i (by omega), Z, fun i hi => k5 i (by omega), fun ho => ⟨fun i hi => (k6 ho).1 i (by omega), fun i j hij hj => (k6 ho).2 i j hij (by omega)⟩, fun i hi => ?_⟩
  obtain ⟨u, c1, c2⟩ := k7 i (by omega)
  exact ⟨u, c1, by rw [List.getElem_take]; exact c2⟩
def selTo (p : List Int → Bool) (n s : Nat) : List (List Int) := ((List.range s).map (bitsL n)).filter p
theorem selTo_succ (p : List Int → Bool) (n s : Nat) : selTo p n (s+1) = selTo p n s ++ if p (bitsL n s) = true then [bitsL n s] else [] := by
  unfold selTo
  rw [List.range_succ, List.map_append, List.filter_append]
  congr 1
  simp only [List.map_cons, List.map_nil, List.filter_cons, List.filter_nil]
theorem selTo_length (p : List Int → Bool) (n s : Nat) : (selTo p n s).length ≤ s := by
  unfold selTo
  have := List.length_filter_le p ((List.range s).map (bitsL n))
  simpa using this

set_option maxRecDepth 20000 in
set_option maxHeartbeats 1000000 in
theorem MinimalHittings_c (w : World) (v : Value) (z : Zone) (xss : List (List Int)) (n most : Int) (hn : I64 n) (hm : I64 most) (h : RowsR z w v xss) :
    Calls Try.prog 26 #[.int .i64 n, v, .int .i64 most] w (Ret w fun r w' => RowsCode w (minimalHits n xss most) r w') := by
  have hcall := setsCode_c w v (.slice none 0 0) z z xss [] n hn h (SliceR.nil _ _ _)
  rw [setsCode_nil] at hcall
  cases hA : areSets n xss with
  | false =>
    have HH := Lib.hid (minimalHits_no (most := most) hA)
    rw [hA] at hcall
    clear hA
    go_enter Try.func26, Try.ntmps26
    go_wp2_with fail
    refine Calls.mono hcall ?_
    rintro e w1 hr1
    obtain ⟨u1, rfl, rfl, b1⟩ := ret_ext hr1
    go_wp2_with fail
    go_ret2
    exact ⟨_, rfl, RowsCode_nil HH.out, b1⟩
  | true =>
    have hcall2 := fun (wq : World) => within_c wq most 0 60
    cases hB : inB most 0 60 with
    | false =>
      have HH := Lib.hid (minimalHits_two hA hB)
      rw [hA] at hcall
      rw [hB] at hcall2
      have HC2 := Lib.hid hcall2
      clear hA hB hcall2
      go_enter Try.func26, Try.ntmps26
      go_wp2_with fail
      refine Calls.mono hcall ?_
      rintro e w1 hr1
      obtain ⟨u1, rfl, rfl, b1⟩ := ret_ext hr1
      go_wp2_with fail
      refine Calls.mono (HC2.out _) ?_
      rintro e w2 ⟨rfl, d2⟩
      go_wp2_with fail
      go_ret2
      exact ⟨_, rfl, RowsCode_nil HH.out, b1.trans (Ext.ofDrew d2)⟩
    | true =>
      have HH := Lib.hid (minimalHits_ok hA hB)
      obtain ⟨h1, h12, -⟩ := areSets_mem hA
      have hmm : 0 ≤ most ∧ most ≤ 60 := by simpa [inB] using hB
      obtain ⟨m, rfl⟩ : ∃ m : Nat, n = m := ⟨n.toNat, by omega⟩
      obtain ⟨M, rfl⟩ : ∃ M : Nat, most = M := ⟨most.toNat, by omega⟩
      have hM : M ≤ 60 := by omega
      have hm12 : m ≤ 12 := by omega
      rw [hA] at hcall
      rw [hB] at hcall2
      have HC2 := Lib.hid hcall2
      rw [Int.toNat_natCast, Int.toNat_natCast] at HH
      clear hA hB hcall2 hmm h1 h12 hn hm
      have HMin := Lib.hid (fun (wq : World) (hb : Ext w wq) (u : Value) (q : Zone) (l : List Int) (hl : IntsR q wq u l) (hll : l.length ≤ 1099511627776) => isMinimal_c wq v u z q xss l (stable_rows.ext h hb) hl hll)
      generalize minimalB xss = p at *
      have hsh := shl_run m hm12
      have HRes : Hid ((allSets m).filter p = selTo p m (2 ^ m)) := rfl
      obtain ⟨N, hN⟩ : ∃ N, 2 ^ m = N := ⟨_, rfl⟩
      have hN2 : N ≤ 4096 := by rw [← hN]; exact Nat.le_trans (Nat.pow_le_pow_right (by omega) hm12) (by decide)
      have HN := Lib.hid hN
      rw [hN] at hsh HRes
      clear hN
      obtain ⟨av, nv, cv, rfl, -⟩ := SliceR.shape h
      clear h
      go_enter Try.func26, Try.ntmps26
      go_wp2_with fail
      refine Calls.mono hcall ?_
      rintro e w1 hr1
      obtain ⟨u1, rfl, rfl, b1⟩ := ret_ext hr1
      clear hr1
      go_wp2_with fail
      refine Calls.mono (HC2.out _) ?_
      rintro e w2 ⟨rfl, d2⟩
      have b2 := b1.trans (Ext.ofDrew d2)
      clear hcall HC2
      go_wp2_with fail
      generalize hw0 : World.alloc _ _ = w0
      have o0 : OwnR true w.heap.size IntsR 25 w.heap.size w0 (.slice (some ⟨w2.heap.size, 0, none⟩) 0 0) [] := by rw [← hw0]; exact OwnR.empty b2.size
      have b0 : Ext w w0 := by rw [← hw0]; exact b2.trans (Ext.alloc _ _)
      clear hw0 b2 b1 d2
      generalize wrap64 (2 ^ m) = MM at *
      subst hsh
      go_loopw [9, 24] (fun o t wr => ∃ s : Nat, s ≤ N ∧ t = .int .i64 s ∧ OwnR true w.heap.size IntsR 25 w.heap.size wr o (selTo p m s) ∧ Ext w wr) (fun _ t _ => N - (intOf t).toNat)
      case atStart => exact ⟨0, Nat.zero_le _, rfl, o0, b0⟩
      case round =>
        obtain ⟨s, hs, rfl, hown, hb⟩ := hrel
        clear o0 b0
        have hbs := hb.size
        have HSL : Hid ((selTo p m s).length ≤ 4096) := Nat.le_trans (selTo_length p m s) (by omega)
        by_cases hlt : s < N
        · have hmc := members_c wr m s (by omega) (by rw [HN.out]; exact hlt)
          have HS := Lib.hid (selTo_succ p m s)
          have HM : Hid (∀ x ∈ bitsL m s, I64 x) := bitsL_i64 (by omega)
          have HBL : Hid ((bitsL m s).length ≤ 12) := Nat.le_trans (upto_length _ _) hm12
          generalize bitsL m s = x at *
          generalize selTo p m s = sel at *
          obtain ⟨ao, no, co, rfl, -⟩ := OwnA.shape hown
          have Hown := Lib.hid hown
          clear hown
          go_wp2_with fail
          refine Calls.mono hmc ?_
          rintro e w3 hr3
          obtain ⟨u3, rfl, ⟨o3, g3, m3, c3, rfl⟩, b3⟩ := ret_ext hr3
          clear hr3 hmc
          have i3 := OwnP.ints o3 HM.out (Nat.le_refl _)
          have hmin := HMin.out _ (hb.trans b3) _ _ x i3 (by have := HBL.out; omega)
          have I3 := Lib.hid i3
          clear o3 i3
          cases hq : p x with
          | false =>
            have HT : Hid (selTo p m (s+1) = sel) := Lib.hid (by rw [HS.out, hq]; simp)
            rw [hq] at hmin
            clear hq HS
            go_wp2_with fail
            refine Calls.mono hmin ?_
            rintro e w4 hr4
            obtain ⟨u4, rfl, rfl, b4⟩ := ret_ext hr4
            clear hr4 hmin
            go_wp2_with fail
            go_roundw
            case rel => exact ⟨s + 1, by omega, by go_num, by rw [HT.out]; exact OwnR.below stable_ints Hown.out (b3.trans b4), (hb.trans b3).trans b4⟩
            case measure => simp [intOf]; omega
          | true =>
            have HT : Hid (selTo p m (s+1) = sel ++ [x]) := Lib.hid (by rw [HS.out, hq]; simp)
            rw [hq] at hmin
            clear hq HS
            go_wp2_with fail
            refine Calls.mono hmin ?_
            rintro e w4 hr4
            obtain ⟨u4, rfl, rfl, b4⟩ := ret_ext hr4
            clear hr4 hmin
            have hbw4 : Below wr.heap.size wr w4 := b3.trans b4
            have hi4 : IntsR (.new wr w4) w4 (slV (some ⟨g3, 0, none⟩, m3, c3)) x := stable_ints.grow I3.out (Ext.refl _) b4
            have hown := Hown.out
            have hl1 : sel.length + 1 ≤ 1099511627776 := by have := HSL.out; omega
            go_wp2_with (at_builtin; (refine wpList_appendRow (b := true) (L := w.heap.size) (B := w.heap.size) (E := IntsR) (e := 25) stable_ints slRepr_slice rfl _ _ 22 rfl Try.underlying22 Try.infoInts rfl hown hbw4 (some ⟨g3, 0, none⟩, m3, c3) x hi4 rfl hl1 hbs hbs ?_); intro v7 w7 hown7 hb7 hz7 hg7 hat7)
            go_roundw
            case rel => exact ⟨s + 1, by omega, by go_num, by rw [HT.out]; exact hown7, Below.trans hb hb7⟩
            case measure => simp [intOf]; omega
        · obtain rfl : s = N := by omega
          obtain ⟨ao, no, co, rfl, -⟩ := OwnA.shape hown
          have hcall := SortRows_c wr _ w.heap.size w.heap.size hbs _ hown (by have := HSL.out; omega)
          rw [← HRes.out] at hcall HSL
          clear hown
          go_wp2_with fail
          refine Calls.mono hcall ?_
          rintro e w3 ⟨rfl, ys, hp, hso, hown3, hb3⟩
          have HYs := Lib.hid (sorted_choices' hp hso)
          have hyl : ys.length ≤ 4096 := by rw [hp.length_eq]; exact HSL.out
          have hno := OwnA.len hown3
          have hr := OwnR.reads hown3 (Nat.le_refl _)
          obtain ⟨_, _, _, he, -, -, hcap, hmax, -⟩ := SliceR.shape hr
          injection he with he1 he2 he3
          subst he1; subst he2; subst he3
          have HR := Lib.hid (fun k hk => SliceR.takeN hr (k := k) hk)
          have hno4 : no ≤ 4096 := by omega
          have Hno := Lib.hid hno
          have hbE := hb.to' hb3
          unfold maxLen at hmax
          clear hcall hown3 hr hp hso hno hyl
          by_cases hMn : M ≤ no
          · have e1 : min (M : Int) (no : Int) = (M : Int) := by omega
            have e2 : ys.take M = ((allChoices m).filter p).take M := by rw [HYs.out]
            have HQ := Lib.hid (HR.out M (by rw [← Hno.out]; exact hMn))
            have E2 := Lib.hid e2
            clear e2 HR
            go_wp2_with fail
            go_ret2
            exact ⟨_, rfl, RowsCode_of (HH.out.trans (by rw [← E2.out])) HQ.out, hbE⟩
          · have e1 : min (M : Int) (no : Int) = (no : Int) := by omega
            have e2 : ys.take no = ((allChoices m).filter p).take M := by
              rw [← HYs.out, List.take_of_length_le (by rw [Hno.out]; exact Nat.le_refl _), List.take_of_length_le (by rw [← Hno.out]; omega)]
            have HQ := Lib.hid (HR.out no (by rw [← Hno.out]; exact Nat.le_refl _))
            have E2 := Lib.hid e2
            clear e2 HR
            go_wp2_with fail
            go_ret2
            exact ⟨_, rfl, RowsCode_of (HH.out.trans (by rw [← E2.out])) HQ.out, hbE⟩

open Go.ChangeShapes Go.WideShapes Go.ChangeAt Go.RowKit
set_option linter.unusedVariables false

set_option maxRecDepth 20000 in
set_option maxHeartbeats 1000000 in
theorem ReachWith_c (w : World) (v vd : Value) (z y : Zone) (x : Int × List (List Int)) (f : Int) (hfi : I64 f) (op : List Int) (h : RoomsR z w v x) (hd : IntsR y w vd op) :
    Calls Try.prog 45 #[v, .int .i64 f, vd] w (Ret w fun r w' => IntsCode w (reachWith x f op) r w') := by
  have hC := fun (wq : World) (hb : Below w.heap.size w wq) (vr : Value) (q : Zone) (hr : IntsR q wq vr [f]) => roomsCode_c wq v vd vr z y q x op [f] (stable_Rooms.below h hb) (stable_ints.below hd hb) hr
  have hR := fun (hok : roomsOk x.1 x.2 = true) (hop : rising op x.2.length = true) (hf : 0 ≤ f) (hf' : f < x.1) (wq : World) (hb : Below w.heap.size w wq) => reach_c wq v vd z y x op f (stable_Rooms.below h hb) (stable_ints.below hd hb) hok hop hf hf'
  obtain ⟨c, ds⟩ := x
  obtain ⟨u, rfl, hc, hrr⟩ := h
  obtain ⟨a, n, cap, rfl, -⟩ := SliceR.shape hrr
  by_cases hk : roomsCode c ds op [f] = 0
  · have HH := Lib.hid (reachWith_ok (x := (c, ds)) hk)
    obtain ⟨k1, k2, k3⟩ := roomsCode_ok hk
    have k4 := k3 f (List.mem_singleton.2 rfl)
    have hcc := (roomsOk_sides k1).1
    replace hR := hR k1 k2 k4.1 k4.2
    simp only at hC hR HH ⊢
    rw [hk] at hC
    have hlen := reachL_length c ds f op
    have HF : Hid (reachInts c ds f op = upto (fun i => (reachL c ds f op).getD i.toNat false) c.toNat) := rfl
    generalize reachWith (c, ds) f op = res at *
    generalize reachInts c ds f op = out at *
    generalize reachL c ds f op = seen at *
    clear hk k1 k2 k3 k4
    go_enter Try.func45, Try.ntmps45
    go_wp2_with fail
    generalize hw0 : World.alloc (World.alloc w _) _ = w0
    have hb0 : Below w.heap.size w w0 := by rw [← hw0]; exact ((Below.refl _ _).alloc (Nat.le_refl _) _).alloc (by simp) _
    have q0 : w0.cell? ⟨w.heap.size, 0, none⟩ = some (.int .i64 c) := by rw [← hw0]; clear hw0; go_simp
    have q1 : w0.cell? ⟨w.heap.size, 1, none⟩ = some (.slice a n cap) := by rw [← hw0]; clear hw0; go_simp
    have hsz : w.heap.size < w0.heap.size := by rw [← hw0]; simp; omega
    have o0 : OwnP (Value.int .i64) 2 (w.heap.size + 1) w0 (.slice (some ⟨w.heap.size + 1, 0, none⟩) 1 1) [f] := by
      rw [← hw0]
      have := OwnP.one (f := Value.int .i64) (e := 2) (w := w.alloc (Obj.cells #[Value.int .i64 c, Value.slice a n cap] 29)) (B := w.heap.size + 1) (by simp) f
      simpa using this
    clear hw0
    refine Calls.mono (hC _ hb0 _ _ (OwnP.ints o0 (by intro y hy; simp at hy; subst hy; exact hfi) (Nat.le_refl _))) ?_
    clear o0
    rintro e w1 ⟨r, rfl, rfl, b1⟩
    replace q0 := (b1.cell (p := ⟨w.heap.size, 0, none⟩) hsz).trans q0
    replace q1 := (b1.cell (p := ⟨w.heap.size, 1, none⟩) hsz).trans q1
    have b1' := hb0.trans (b1.mono hb0.size)
    have hsz1 : w.heap.size < w1.heap.size := Nat.lt_of_lt_of_le hsz b1.size
    clear hC b1 hb0
    go_wp2_with fail
    generalize hw2 : World.alloc w1 _ = w2
    have b2 : Below w1.heap.size w1 w2 := by rw [← hw2]; exact (Below.refl _ _).alloc (Nat.le_refl _) _
    have o2 : OwnP (Value.int .i64) 2 w1.heap.size w2 (.slice (some ⟨w1.heap.size, 0, none⟩) 0 0) [] := by rw [← hw2]; exact OwnP.empty (Nat.le_refl _)
    replace q0 := (b2.cell (p := ⟨w.heap.size, 0, none⟩) hsz1).trans q0
    replace q1 := (b2.cell (p := ⟨w.heap.size, 1, none⟩) hsz1).trans q1
    have b2' := b1'.trans (b2.mono b1'.size)
    clear hw2
    go_wp2_with fail
    refine Calls.mono (hR _ b2') ?_
    rintro e w3 ⟨r, rfl, r3, b3⟩
    have b3' := b2'.trans (b3.mono b2'.size)
    replace o2 := o2.below b3
    have hs12 : w1.heap.size ≤ w2.heap.size := b2.size
    have hs23 : w2.heap.size ≤ w3.heap.size := b3.size
    obtain ⟨gs, ns, csn, rfl, hns, hms, -⟩ := r3.shape
    have hg : ∃ g, gs = some ⟨g, 0, none⟩ := by
      obtain ⟨_, _, _, he, _, _, hx⟩ := r3.shape
      injection he with he _ _
      obtain ⟨b, hb, _⟩ := hx 0 (by omega)
      exact ⟨b, he.trans hb⟩
    obtain ⟨g, rfl⟩ := hg
    have Hn : Hid (ns = c.toNat) := by show ns = _; omega
    have hn8 : ns ≤ 8 := by omega
    have B13 : Below w1.heap.size w1 w3 := b2.trans (b3.mono hs12)
    clear hR hns hlen q0 q1
    go_wp2_with fail
    go_loopw [9, 26] (fun o s wr => ∃ k : Nat, k ≤ ns ∧ s = .int .i64 k ∧ OwnP (Value.int .i64) 2 w1.heap.size wr o (upto (fun i => seen.getD i.toNat false) k) ∧ OwnP Value.bool 4 w2.heap.size wr (.slice (some ⟨g, 0, none⟩) ns csn) seen ∧ Below w1.heap.size w1 wr) (fun _ s _ => ns - (intOf s).toNat)
    case atStart => exact ⟨0, Nat.zero_le _, rfl, o2, r3, B13⟩
    case round =>
      clear o2 r3
      obtain ⟨k, hk, rfl, hown, hseen, hbk⟩ := hrel
      have hbs := hbk.size
      have hns := hseen.len
      by_cases hlt : k < ns
      · obtain ⟨h1, hc, -⟩ := hseen.at hlt
        have er : seen.getD (k : Int).toNat false = seen[k] := by simp [h1]
        have HY := Lib.hid (upto_yes (p := fun i : Int => seen.getD i.toNat false) (k := k))
        have HN := Lib.hid (upto_no (p := fun i : Int => seen.getD i.toNat false) (k := k))
        have HL := Lib.hid (upto_length (fun i : Int => seen.getD i.toNat false) k)
        rw [er] at HY HN
        clear er hns
        have HSE := Lib.hid hseen; clear hseen
        generalize upto (fun i : Int => seen.getD i.toNat false) k = up at *
        generalize seen[k] = q at *
        cases q with
        | true =>
          go_wp2_with (at_builtin; (refine wpList_append1 (f := Value.int .i64) (e := 2) (B := w1.heap.size) (xs := up) rfl _ _ 25 rfl 0 8 Try.underlying25 Try.infoI64 rfl (fun _ => rfl) rfl hown (k : Int) rfl (by have := HL.out; omega) (by omega) hbs ?_); intro v6 w6 hown6 hg6 hb6)
          go_roundw
          case rel => exact ⟨k + 1, by omega, by go_num, by rw [HY.out rfl]; exact hown6, HSE.out.kept hg6 (HSE.out.apart hown (by decide)), hbk.trans hb6⟩
          case measure => simp [intOf]; omega
        | false =>
          go_wp2_with fail
          go_roundw
          case rel => exact ⟨k + 1, by omega, by go_num, by rw [HN.out rfl]; exact hown, HSE.out, hbk⟩
          case measure => simp [intOf]; omega
      · obtain rfl : k = ns := by omega
        have hm : ∀ x ∈ out, I64 x := by rw [HF.out]; exact upto_i64 (by omega)
        rw [Hn.out, ← HF.out] at hown
        clear HF hseen hns
        go_wp2_with fail
        go_ret2
        exact ⟨_, rfl, IntsCode_mk HH.out (OwnP.ints hown hm b1'.size), b1'.trans (hbk.mono b1'.size)⟩
  · have HH := Lib.hid (reachWith_no (x := (c, ds)) hk)
    have hb : (roomsCode c ds op [f] != 0) = true := by rw [bne_iff_ne]; exact hk
    simp only at hC HH ⊢
    generalize reachWith (c, ds) f op = res at *
    generalize roomsCode c ds op [f] = k at *
    clear hk hR
    go_enter Try.func45, Try.ntmps45
    go_wp2_with fail
    generalize hw0 : World.alloc (World.alloc w _) _ = w0
    have hb0 : Below w.heap.size w w0 := by rw [← hw0]; exact ((Below.refl _ _).alloc (Nat.le_refl _) _).alloc (by simp) _
    have q0 : w0.cell? ⟨w.heap.size, 0, none⟩ = some (.int .i64 c) := by rw [← hw0]; clear hw0; go_simp
    have q1 : w0.cell? ⟨w.heap.size, 1, none⟩ = some (.slice a n cap) := by rw [← hw0]; clear hw0; go_simp
    have hsz : w.heap.size < w0.heap.size := by rw [← hw0]; simp; omega
    have o0 : OwnP (Value.int .i64) 2 (w.heap.size + 1) w0 (.slice (some ⟨w.heap.size + 1, 0, none⟩) 1 1) [f] := by
      rw [← hw0]
      have := OwnP.one (f := Value.int .i64) (e := 2) (w := w.alloc (Obj.cells #[Value.int .i64 c, Value.slice a n cap] 29)) (B := w.heap.size + 1) (by simp) f
      simpa using this
    clear hw0
    refine Calls.mono (hC _ hb0 _ _ (OwnP.ints o0 (by intro y hy; simp at hy; subst hy; exact hfi) (Nat.le_refl _))) ?_
    clear o0
    rintro e w1 ⟨r, rfl, rfl, b1⟩
    replace q0 := (b1.cell (p := ⟨w.heap.size, 0, none⟩) hsz).trans q0
    replace q1 := (b1.cell (p := ⟨w.heap.size, 1, none⟩) hsz).trans q1
    have b1' := hb0.trans (b1.mono hb0.size)
    have hsz1 : w.heap.size < w1.heap.size := Nat.lt_of_lt_of_le hsz b1.size
    go_wp2_with fail
    go_ret2
    exact ⟨_, rfl, IntsCode_nil HH.out, b1'⟩

open Go.ChangeShapes Go.WideShapes Go.ChangeAt Go.RowKit
set_option linter.unusedVariables false


theorem take_set {α : Type} (xs : List α) (d : α) (k len : Nat) (hk : k < len) (hl : len = xs.length) (x : α) (hx : xs[k]? = some x) :
    (xs.take k ++ List.replicate (len - k) d).set k x = xs.take (k+1) ++ List.replicate (len - (k+1)) d := by
  rw [List.take_add_one, hx]
  obtain ⟨m, hm⟩ : ∃ m, len - k = m + 1 := ⟨len - k - 1, by omega⟩
  rw [hm, show len - (k+1) = m by omega, List.set_append_right _ _ (by simp; omega)]
  simp [show min k xs.length = k by omega, List.replicate_succ]

theorem getElem?_of_getD {xs : List Int} {k : Nat} (h : k < xs.length) {x : Int} (hx : xs.getD k 0 = x) : xs[k]? = some x := by
  subst hx; simp [h]

set_option maxHeartbeats 400000 in
theorem toInt64S_c (w : World) (v : Value) (z : Zone) (xs : List Int) (h : IntsR z w v xs) (hs : xs.length ≤ 1048576) :
    Calls Try.prog 12 #[v] w (Ret w fun r w' => IntsR (.new w w') w' r xs) := by
  obtain ⟨a, len, cap, rfl, hlen, hmax, -, -, -, hel⟩ := IntsR.shape h
  have hmem := IntsR.mem h
  have hs' : len ≤ 1048576 := by omega
  have Hlen := Lib.hid hlen; clear hlen hs h
  have Hel := Lib.hid hel; clear hel
  have Hmem := Lib.hid hmem; clear hmem
  go_enter Try.func12, Try.ntmps12
  go_wp2_with (at_make; refine wpList_makeP rfl _ _ 25 rfl 2 w.heap.size (Value.int .i64) 0 8 Try.underlying25 Try.infoI64 rfl len rfl rfl (by omega) (by omega) (Nat.le_refl _) ?_)
  intro w1 hown hb1 _
  go_wp2
  go_loopw [4] (fun t wr => ∃ k : Nat, k ≤ len ∧ t = .int .i64 k ∧ OwnP (Value.int .i64) 2 w.heap.size wr (.slice (some ⟨w.heap.size, 0, none⟩) len len) (xs.take k ++ List.replicate (len - k) 0) ∧ Below w.heap.size w wr) (fun t _ => len - (intOf t).toNat)
  case atStart => exact ⟨0, Nat.zero_le _, rfl, hown, hb1⟩
  case round =>
    obtain ⟨k, hk, rfl, hownk, hbk⟩ := hrel
    clear hown hb1
    by_cases hlt : k < len
    · obtain ⟨b, off, rfl, hc, ⟨hx1, hx2⟩, -⟩ := Hel.out k hlt
      have hc' : wr.cell? ⟨b, off + k, none⟩ = some (.int .i64 (xs.getD k 0)) := by rw [hbk.cell (World.block_lt_of_cell? _ _ hc)]; exact hc
      obtain ⟨_, hd, hf⟩ := hownk.at hlt
      have Hst := Lib.hid (OwnP.store hownk k (xs.getD k 0))
      have hbk' : Below w.heap.size w (wr.setCell ⟨w.heap.size, k, none⟩ (.int .i64 (xs.getD k 0))) := hbk.setCell (Nat.le_refl _) _
      generalize hx : xs.getD k 0 = x at *
      have Hx := Lib.hid hx; clear hx hc hownk
      go_wp2
      go_roundw
      case rel =>
        refine ⟨k + 1, by omega, by go_num, ?_, hbk'⟩
        have hl := Hlen.out
        have e := take_set xs 0 k len hlt hl x (getElem?_of_getD (by omega) Hx.out)
        rw [← e]; exact Hst.out
      case measure => simp [intOf]; omega
    · have hke : k = len := by omega
      go_wp2
      go_ret
      have hl := Hlen.out
      refine ⟨_, rfl, ?_, hbk⟩
      rw [hke, Nat.sub_self, List.replicate_zero, List.append_nil, List.take_of_length_le (by omega)] at hownk
      exact OwnP.ints hownk Hmem.out (Nat.le_refl _)

/-- lists are equal, told element by element -/
theorem ints_ne {xs ys : List Int} (k : Nat) (h1 : k < xs.length) (h2 : k < ys.length) (h : xs.getD k 0 ≠ ys.getD k 0) : decide (xs = ys) = false := by
  rw [decide_eq_false_iff_not]; rintro rfl; exact h rfl
theorem ints_eq {xs ys : List Int} (hl : xs.length = ys.length) (h : ∀ k, k < xs.length → xs.getD k 0 = ys.getD k 0) : decide (xs = ys) = true := by
  rw [decide_eq_true_iff]
  apply List.ext_getElem hl
  intro i h1 h2
  have := h i h1
  simpa [h1, h2] using this

set_option maxHeartbeats 400000 in
theorem eqInt64S_c (w : World) (u v : Value) (y z : Zone) (xs ys : List Int) (hx : IntsR y w u xs) (hy : IntsR z w v ys) :
    Calls Try.prog 14 #[u, v] w (RetQ w (.bool (decide (xs = ys)))) := by
  obtain ⟨a, n, cap, rfl, hn, hmax, -, -, -, hel⟩ := IntsR.shape hx
  obtain ⟨b, m, cap', rfl, hm, hmax', -, -, -, hel'⟩ := IntsR.shape hy
  clear hx hy
  have Hn := Lib.hid hn; clear hn
  have Hm := Lib.hid hm; clear hm
  have Hel := Lib.hid hel; clear hel
  have Hel' := Lib.hid hel'; clear hel'
  by_cases hnm : n = m
  · subst hnm
    have Hend : Hid ((∀ k, k < n → xs.getD k 0 = ys.getD k 0) → decide (xs = ys) = true) := fun h => ints_eq (by rw [← Hn.out, ← Hm.out]) (fun k hk => h k (by rw [Hn.out]; exact hk))
    have Hbad : Hid (∀ k, k < n → xs.getD k 0 ≠ ys.getD k 0 → decide (xs = ys) = false) := fun k hk h => ints_ne k (by rw [← Hn.out]; exact hk) (by rw [← Hm.out]; exact hk) h
    clear Hn Hm
    go_enter Try.func14, Try.ntmps14
    go_wp2
    go_loopw [5] (fun t wr => ∃ k : Nat, k ≤ n ∧ t = .int .i64 k ∧ (∀ j, j < k → xs.getD j 0 = ys.getD j 0) ∧ Drew w wr) (fun t _ => n - (intOf t).toNat)
    case atStart => exact ⟨0, Nat.zero_le _, rfl, by simp, Drew.refl _⟩
    case round =>
      obtain ⟨k, hk, rfl, hall, hd⟩ := hrel
      have Hall := Lib.hid hall; clear hall
      by_cases hlt : k < n
      · obtain ⟨b1, o1, rfl, hc1, ⟨hx1, hx2⟩, -⟩ := Hel.out k hlt
        obtain ⟨b2, o2, rfl, hc2, ⟨hy1, hy2⟩, -⟩ := Hel'.out k hlt
        replace hc1 := (hd.cell _).trans hc1
        replace hc2 := (hd.cell _).trans hc2
        have Hgo : Hid (xs.getD k 0 = ys.getD k 0 → ∀ j, j < k + 1 → xs.getD j 0 = ys.getD j 0) := fun h j hj => by
          by_cases e : j = k
          · rw [e]; exact h
          · exact Hall.out j (by omega)
        have Hno := Lib.hid (Hbad.out k hlt)
        clear Hall Hbad Hend Hel Hel'
        generalize xs.getD k 0 = x at *
        generalize ys.getD k 0 = y at *
        by_cases hxy : x = y
        · subst hxy
          go_wp2
          go_quiet (fail)
          go_wp2
          go_roundw
          case rel => exact ⟨k + 1, by omega, by go_num, Hgo.out (by simp), hd.drewN _⟩
          case measure => simp [intOf]; omega
        · have hne : (x == y) = false := by simpa using hxy
          go_wp2
          go_quiet (fail)
          go_wp2
          go_ret
          exact ⟨ret_bool' (Hno.out hxy), hd.drewN _⟩
      · have hkn : k = n := by omega
        go_wp2
        go_ret
        exact ⟨ret_bool' (Hend.out (fun j hj => Hall.out j (by omega))), hd⟩
  · have hd : ((n : Int) == (m : Int)) = false := by rw [beq_eq_false_iff_ne]; omega
    have Hne : Hid (decide (xs = ys) = false) := by
      show decide (xs = ys) = false
      rw [decide_eq_false_iff_not]; rintro rfl; exact hnm (Hn.out.trans Hm.out.symm)
    clear hnm
    go_enter Try.func14, Try.ntmps14
    go_wp2
    go_ret
    exact ⟨ret_bool' Hne.out, Drew.refl _⟩

/-! ### sizes -/
def szLeft (l : Int) (b : Nat) : Int := if l < b then -1 else l - b
theorem szLeft_neg {l : Int} {b : Nat} (h : l < b) : szLeft l b = -1 := by unfold szLeft; rw [if_pos h]
theorem szLeft_pos {l : Int} {b : Nat} (h : ¬ l < b) : szLeft l b = l - b := by unfold szLeft; rw [if_neg h]
theorem szInt64S_c (w : World) (v : Value) (z : Zone) (xs : List Int) (l : Int) (h : IntsR z w v xs) (h0 : 0 ≤ l) (h1 : l ≤ 1048576) :
    Calls Try.prog 59 #[v, .int .i64 l] w (RetQ w (.int .i64 (szLeft l xs.length))) := by
  obtain ⟨a, n, cap, rfl, hn, hmax, -⟩ := IntsR.shape h
  rw [← hn]
  clear h hn
  by_cases hc : l < n
  · rw [szLeft_neg hc]
    go_enter Try.func59, Try.ntmps59
    go_wp2
    go_ret
    exact ⟨rfl, Drew.refl _⟩
  · rw [szLeft_pos hc]
    go_enter Try.func59, Try.ntmps59
    go_wp2
    go_ret
    exact ⟨rfl, Drew.refl _⟩

open Go.ChangeShapes Go.WideShapes Go.ChangeAt Go.RowKit
set_option linter.unusedVariables false

set_option maxHeartbeats 400000 in
theorem likeInts_c (w : World) (u v : Value) (y z : Zone) (xs ys : List Int) (hx : IntsR y w u xs) (hy : IntsR z w v ys) :
    Calls Try.prog 34 #[u, v] w (RetQ w (.bool (decide (xs = ys)))) := by
  obtain ⟨a, n, cap, rfl, hn, hmax, -, -, -, hel⟩ := IntsR.shape hx
  obtain ⟨b, m, cap', rfl, hm, hmax', -, -, -, hel'⟩ := IntsR.shape hy
  clear hx hy
  have Hn := Lib.hid hn; clear hn
  have Hm := Lib.hid hm; clear hm
  have Hel := Lib.hid hel; clear hel
  have Hel' := Lib.hid hel'; clear hel'
  by_cases hnm : n = m
  · subst hnm
    have Hend : Hid ((∀ k, k < n → xs.getD k 0 = ys.getD k 0) → decide (xs = ys) = true) := fun h => ints_eq (by rw [← Hn.out, ← Hm.out]) (fun k hk => h k (by rw [Hn.out]; exact hk))
    have Hbad : Hid (∀ k, k < n → xs.getD k 0 ≠ ys.getD k 0 → decide (xs = ys) = false) := fun k hk h => ints_ne k (by rw [← Hn.out]; exact hk) (by rw [← Hm.out]; exact hk) h
    clear Hn Hm
    go_enter Try.func34, Try.ntmps34
    go_wp2
    go_loopw [5] (fun t wr => ∃ k : Nat, k ≤ n ∧ t = .int .i64 k ∧ (∀ j, j < k → xs.getD j 0 = ys.getD j 0) ∧ Drew w wr) (fun t _ => n - (intOf t).toNat)
    case atStart => exact ⟨0, Nat.zero_le _, rfl, by simp, Drew.refl _⟩
    case round =>
      obtain ⟨k, hk, rfl, hall, hd⟩ := hrel
      have Hall := Lib.hid hall; clear hall
      by_cases hlt : k < n
      · obtain ⟨b1, o1, rfl, hc1, ⟨hx1, hx2⟩, -⟩ := Hel.out k hlt
        obtain ⟨b2, o2, rfl, hc2, ⟨hy1, hy2⟩, -⟩ := Hel'.out k hlt
        replace hc1 := (hd.cell _).trans hc1
        replace hc2 := (hd.cell _).trans hc2
        have Hgo : Hid (xs.getD k 0 = ys.getD k 0 → ∀ j, j < k + 1 → xs.getD j 0 = ys.getD j 0) := fun h j hj => by
          by_cases e : j = k
          · rw [e]; exact h
          · exact Hall.out j (by omega)
        have Hno := Lib.hid (Hbad.out k hlt)
        clear Hall Hbad Hend Hel Hel'
        generalize xs.getD k 0 = x at *
        generalize ys.getD k 0 = y at *
        by_cases hxy : x = y
        · subst hxy
          go_wp2
          go_quiet (fail)
          go_wp2
          go_roundw
          case rel => exact ⟨k + 1, by omega, by go_num, Hgo.out (by simp), hd.drewN _⟩
          case measure => simp [intOf]; omega
        · have hne : (x == y) = false := by simpa using hxy
          go_wp2
          go_quiet (fail)
          go_wp2
          go_ret
          exact ⟨ret_bool' (Hno.out hxy), hd.drewN _⟩
      · have hkn : k = n := by omega
        go_wp2
        go_ret
        exact ⟨ret_bool' (Hend.out (fun j hj => Hall.out j (by omega))), hd⟩
  · have hd : ((n : Int) == (m : Int)) = false := by rw [beq_eq_false_iff_ne]; omega
    have Hne : Hid (decide (xs = ys) = false) := by
      show decide (xs = ys) = false
      rw [decide_eq_false_iff_not]; rintro rfl; exact hnm (Hn.out.trans Hm.out.symm)
    clear hnm
    go_enter Try.func34, Try.ntmps34
    go_wp2
    go_ret
    exact ⟨ret_bool' Hne.out, Drew.refl _⟩

open Go.ChangeShapes Go.WideShapes Go.ChangeAt Go.RowKit
set_option linter.unusedVariables false


/-- how many values: one for each row, one for each element -/
def bulk (xss : List (List Int)) : Nat := xss.length + (xss.map List.length).sum
theorem bulk_mem {xss : List (List Int)} {xs : List Int} (h : xs ∈ xss) : xs.length ≤ bulk xss := by
  unfold bulk
  have : xs.length ≤ (xss.map List.length).sum := by
    induction xss with
    | nil => cases h
    | cons a l ih =>
      simp only [List.map_cons, List.sum_cons]
      rcases List.mem_cons.1 h with rfl | h
      · omega
      · have := ih h; omega
  omega
def offs (xss : List (List Int)) (k : Nat) : Nat := ((xss.take k).map List.length).sum
theorem offs_succ {xss : List (List Int)} {k : Nat} (h : k < xss.length) : offs xss (k+1) = offs xss k + (xss[k]).length := by
  unfold offs
  rw [List.take_add_one, List.getElem?_eq_getElem h, List.map_append, List.sum_append]
  simp
theorem offs_le (xss : List (List Int)) : ∀ k, offs xss k ≤ offs xss xss.length := by
  intro k
  unfold offs
  rw [List.take_length]
  induction xss generalizing k with
  | nil => simp
  | cons a l ih => cases k with
    | zero => simp
    | succ k => have := ih k; simp only [List.take_succ_cons, List.map_cons, List.sum_cons]; omega
theorem offs_all (xss : List (List Int)) : xss.length + offs xss xss.length = bulk xss := by unfold offs bulk; rw [List.take_length]

set_option maxHeartbeats 400000 in
theorem szInt64SS_c (w : World) (v : Value) (z : Zone) (xss : List (List Int)) (l : Int) (h : RowsR z w v xss) (h0 : 0 ≤ l) (h1 : l ≤ 1048576) :
    Calls Try.prog 19 #[v, .int .i64 l] w (RetQ w (.int .i64 (szLeft l (bulk xss)))) := by
  obtain ⟨a, n, cap, rfl, hn, hmax, hel⟩ := SliceR.elem stable_ints h
  have Hel := Lib.hid hel; clear hel h
  have Hn := Lib.hid hn; clear hn
  by_cases hc : l < n
  · have Hbad : Hid (l < bulk xss) := by show _ < _; have := Hn.out; unfold bulk; omega
    rw [szLeft_neg Hbad.out]
    go_enter Try.func19, Try.ntmps19
    go_wp2
    go_ret
    exact ⟨rfl, Drew.refl _⟩
  · go_enter Try.func19, Try.ntmps19
    go_wp2
    go_loopw [1, 5] (fun s t wr => ∃ i : Nat, i ≤ n ∧ t = .int .i64 i ∧ s = .int .i64 (l - n - offs xss i) ∧ 0 ≤ l - n - offs xss i ∧ Drew w wr) (fun _ t _ => n - (intOf t).toNat)
    case atStart => exact ⟨0, Nat.zero_le _, rfl, by simp [offs], by simp [offs]; omega, Drew.refl _⟩
    case round =>
      obtain ⟨i, hi, rfl, rfl, hge, hd⟩ := hrel
      by_cases hlt : i < n
      · obtain ⟨b, off, rfl, hb, u, hcell, hu⟩ := Hel.out i (by rw [← Hn.out]; exact hlt)
        have Hs := Lib.hid (offs_succ (xss := xss) (k := i) (by rw [← Hn.out]; exact hlt))
        have Hle2 := offs_le xss (i+1)
        have Hall := offs_all xss
        rw [← Hn.out] at Hle2 Hall
        have Hall := Lib.hid Hall
        have Hle := Lib.hid Hle2
        clear Hle2
        have Hu := Lib.hid (IntsR.mem hu)
        generalize hxs : xss[i]'(by rw [← Hn.out]; exact hlt) = xs at *
        clear hxs
        have hle : l - n - offs xss i ≤ 1048576 := by omega
        generalize hoi : offs xss i = oi at *
        clear hoi
        replace hcell := (hd.cell _).trans hcell
        by_cases hc2 : l - n - oi < xs.length
        · have Hc := Lib.hid (szLeft_neg hc2)
          go_wp2_with (go_at_call 59; refine (szInt64S_c _ _ _ xs _ (stable_ints.drew hu hd) hge hle).mono ?_; rintro e w1 ⟨rfl, hd1⟩; rw [Hc.out])
          go_ret
          exact ⟨ret_int (by have := Hs.out; have := Hle.out; have := Hall.out; rw [szLeft_neg (by omega)]), hd.trans hd1⟩
        · have Hc := Lib.hid (szLeft_pos hc2)
          go_wp2_with (go_at_call 59; refine (szInt64S_c _ _ _ xs _ (stable_ints.drew hu hd) hge hle).mono ?_; rintro e w1 ⟨rfl, hd1⟩; rw [Hc.out])
          go_roundw
          case rel => exact ⟨i + 1, by omega, by go_num, by rw [Hs.out]; go_num, by rw [Hs.out]; omega, hd.trans hd1⟩
          case measure => simp [intOf]; omega
      · have hin : i = n := by omega
        go_wp2
        go_ret
        have hl := Hn.out
        have ha := offs_all xss
        rw [← hl] at ha
        rw [hin] at hge
        rw [hin]
        exact ⟨ret_int (by rw [szLeft_pos (by omega)]; omega), hd⟩

set_option maxHeartbeats 400000 in
theorem eqInt64SS_c (w : World) (u v : Value) (y z : Zone) (xs ys : List (List Int)) (hx : RowsR y w u xs) (hy : RowsR z w v ys) :
    Calls Try.prog 23 #[u, v] w (RetQ w (.bool (decide (xs = ys)))) := by
  obtain ⟨a, n, cap, rfl, hn, hmax, hel⟩ := SliceR.elem stable_ints hx
  obtain ⟨b, m, cap', rfl, hm, hmax', hel'⟩ := SliceR.elem stable_ints hy
  clear hx hy
  have Hn := Lib.hid hn; clear hn
  have Hm := Lib.hid hm; clear hm
  have Hel := Lib.hid hel; clear hel
  have Hel' := Lib.hid hel'; clear hel'
  by_cases hnm : n = m
  · subst hnm
    have Hend : Hid ((∀ k (h1 : k < xs.length) (h2 : k < ys.length), k < n → xs[k] = ys[k]) → decide (xs = ys) = true) := fun h => by
      have h1 := Hn.out; have h2 := Hm.out
      rw [decide_eq_true_iff]
      exact List.ext_getElem (by omega) (fun i g1 g2 => h i g1 g2 (by omega))
    have Hbad : Hid (∀ k (h1 : k < xs.length) (h2 : k < ys.length), xs[k] ≠ ys[k] → decide (xs = ys) = false) := fun k h1 h2 h => by
      rw [decide_eq_false_iff_not]; rintro rfl; exact h rfl
    go_enter Try.func23, Try.ntmps23
    go_wp2
    go_loopw [5] (fun t wr => ∃ k : Nat, k ≤ n ∧ t = .int .i64 k ∧ (∀ j (h1 : j < xs.length) (h2 : j < ys.length), j < k → xs[j] = ys[j]) ∧ Drew w wr) (fun t _ => n - (intOf t).toNat)
    case atStart => exact ⟨0, Nat.zero_le _, rfl, by simp, Drew.refl _⟩
    case round =>
      obtain ⟨k, hk, rfl, hall, hd⟩ := hrel
      have Hall := Lib.hid hall; clear hall
      by_cases hlt : k < n
      · have l1 : k < xs.length := by rw [← Hn.out]; exact hlt
        have l2 : k < ys.length := by rw [← Hm.out]; exact hlt
        obtain ⟨b1, o1, rfl, -, u1, hc1, hu1⟩ := Hel.out k l1
        obtain ⟨b2, o2, rfl, -, u2, hc2, hu2⟩ := Hel'.out k l2
        replace hc1 := (hd.cell _).trans hc1
        replace hc2 := (hd.cell _).trans hc2
        have Hgo : Hid (xs[k] = ys[k] → ∀ j (h1 : j < xs.length) (h2 : j < ys.length), j < k + 1 → xs[j] = ys[j]) := fun h j h1 h2 hj => by
          by_cases e : j = k
          · subst e; exact h
          · exact Hall.out j h1 h2 (by omega)
        have Hno := Lib.hid (Hbad.out k l1 l2)
        clear Hall Hbad Hend Hel Hel'
        generalize xs[k] = x at *
        generalize ys[k] = y at *
        by_cases hxy : x = y
        · have Hd : Hid (decide (x = y) = true) := by show _ = _; simpa using hxy
          have Hxy := Lib.hid hxy; clear hxy
          go_wp2
          go_quiet ((go_at_call 14; exact RetQ.quiet (Calls.vq (eqInt64S_c _ _ _ _ _ x y (stable_ints.drewN (stable_ints.drew hu1 hd) _) (stable_ints.drewN (stable_ints.drew hu2 hd) _)) (congrArg Value.bool Hd.out))))
          go_wp2
          go_roundw
          case rel => exact ⟨k + 1, by omega, by go_num, Hgo.out Hxy.out, hd.drewN _⟩
          case measure => simp [intOf]; omega
        · have Hd : Hid (decide (x = y) = false) := by show _ = _; simpa using hxy
          have Hxy := Lib.hid hxy; clear hxy
          go_wp2
          go_quiet ((go_at_call 14; exact RetQ.quiet (Calls.vq (eqInt64S_c _ _ _ _ _ x y (stable_ints.drewN (stable_ints.drew hu1 hd) _) (stable_ints.drewN (stable_ints.drew hu2 hd) _)) (congrArg Value.bool Hd.out))))
          go_wp2
          go_ret
          exact ⟨ret_bool' (Hno.out Hxy.out), hd.drewN _⟩
      · have hkn : k = n := by omega
        go_wp2
        go_ret
        exact ⟨ret_bool' (Hend.out (fun j h1 h2 hj => Hall.out j h1 h2 (by omega))), hd⟩
  · have hd : ((n : Int) == (m : Int)) = false := by rw [beq_eq_false_iff_ne]; omega
    have Hne : Hid (decide (xs = ys) = false) := by
      show decide (xs = ys) = false
      rw [decide_eq_false_iff_not]; rintro rfl; exact hnm (Hn.out.trans Hm.out.symm)
    clear hnm
    go_enter Try.func23, Try.ntmps23
    go_wp2
    go_ret
    exact ⟨ret_bool' Hne.out, Drew.refl _⟩

set_option maxHeartbeats 400000 in
theorem toInt64SS_c (w : World) (v : Value) (z : Zone) (xss : List (List Int)) (h : RowsR z w v xss) (hs : bulk xss ≤ 1048576) :
    Calls Try.prog 21 #[v] w (Ret w fun r w' => RowsR (.new w w') w' r xss) := by
  obtain ⟨a, len, cap, rfl, hlen, hmax, hel⟩ := SliceR.elem stable_ints h
  have hs' : len ≤ 1048576 := by unfold bulk at hs; omega
  have Hmem : Hid (∀ xs ∈ xss, xs.length ≤ 1048576) := fun xs hxs => Nat.le_trans (bulk_mem hxs) hs
  have Hlen := Lib.hid hlen; clear hlen hs h
  have Hel := Lib.hid hel; clear hel
  go_enter Try.func21, Try.ntmps21
  go_wp2_with (at_make; refine wpList_makeP rfl _ _ 22 rfl 25 w.heap.size (fun (_ : List Int) => Value.slice none 0 0) [] 24 Try.underlying22 Try.infoInts rfl len rfl rfl (by omega) (by omega) (Nat.le_refl _) ?_)
  intro w1 hown hb1 hsz
  have hr1 : RowsR ⟨w.heap.size, w1.heap.size, true⟩ w1 (.slice (some ⟨w.heap.size, 0, none⟩) len len) (xss.take 0 ++ List.replicate (len - 0) []) :=
    OwnP.reads hown (fun z x hx => by rw [List.eq_of_mem_replicate hx]; exact SliceR.nil _ _ _) (Nat.le_refl _) (Nat.le_refl _)
  have Hr1 := Lib.hid hr1
  clear hr1 hown hsz
  go_wp2
  go_loopw [4] (fun t wr => ∃ k : Nat, k ≤ len ∧ t = .int .i64 k ∧ RowsR ⟨w.heap.size, wr.heap.size, true⟩ wr (.slice (some ⟨w.heap.size, 0, none⟩) len len) (xss.take k ++ List.replicate (len - k) []) ∧ Below w.heap.size w wr) (fun t _ => len - (intOf t).toNat)
  case atStart => exact ⟨0, Nat.zero_le _, rfl, Hr1.out, hb1⟩
  case round =>
    obtain ⟨k, hk, rfl, hrk, hbk⟩ := hrel
    clear hb1
    by_cases hlt : k < len
    · have l1 : k < xss.length := by rw [← Hlen.out]; exact hlt
      obtain ⟨b, off, rfl, hb0, u, hc, hu⟩ := Hel.out k l1
      have hc' : wr.cell? ⟨b, off + k, none⟩ = some u := (hbk.cell hb0).trans hc
      have Hx : Hid (xss[k]? = some xss[k]) := List.getElem?_eq_getElem l1
      have hxl := Hmem.out _ (List.getElem_mem l1)
      generalize xss[k] = x at *
      obtain ⟨-, -, g1, g2, d, g3⟩ := SliceR.slot hrk rfl hlt
      simp only [Nat.zero_add] at g2 g3
      have Hrk := Lib.hid hrk; clear hrk hc
      go_wp2_with (go_at_call 12; refine (toInt64S_c _ _ _ x (stable_ints.below hu hbk) hxl).mono ?_; rintro e w2 ⟨r, rfl, hr, hb2⟩; obtain ⟨ra, rn, rc, rfl, -⟩ := SliceR.shape hr; have q2 := (hb2.frozen (p := ⟨w.heap.size, k, none⟩) g1).trans g2; have q3 := (hb2.cell (p := ⟨w.heap.size, k, none⟩) g1).trans g3)
      go_roundw
      case rel =>
        refine ⟨k + 1, by omega, by go_num, ?_, (hbk.trans (hb2.mono (Nat.le_of_lt g1))).setCell (Nat.le_refl _) _⟩
        have hst := SliceR.storeNew stable_ints Hrk.out rfl (Nat.le_refl _) k hlt _ x hb2 hr
        rw [Nat.zero_add] at hst
        rw [World.size_setCell]
        have e := take_set xss [] k len hlt Hlen.out x Hx.out
        rw [← e]; exact hst
      case measure => simp [intOf]; omega
    · have hke : k = len := by omega
      go_wp2
      go_ret
      refine ⟨_, rfl, ?_, hbk⟩
      have hl := Hlen.out
      rw [hke, Nat.sub_self, List.replicate_zero, List.append_nil, List.take_of_length_le (by omega)] at hrk
      exact hrk

open Go.ChangeShapes Go.WideShapes Go.ChangeAt Go.RowKit
set_option linter.unusedVariables false

set_option maxHeartbeats 400000 in
theorem likeLists_c (w : World) (u v : Value) (y z : Zone) (xs ys : List (List Int)) (hx : RowsR y w u xs) (hy : RowsR z w v ys) :
    Calls Try.prog 43 #[u, v] w (RetQ w (.bool (decide (xs = ys)))) := by
  obtain ⟨a, n, cap, rfl, hn, hmax, hel⟩ := SliceR.elem stable_ints hx
  obtain ⟨b, m, cap', rfl, hm, hmax', hel'⟩ := SliceR.elem stable_ints hy
  clear hx hy
  have Hn := Lib.hid hn; clear hn
  have Hm := Lib.hid hm; clear hm
  have Hel := Lib.hid hel; clear hel
  have Hel' := Lib.hid hel'; clear hel'
  by_cases hnm : n = m
  · subst hnm
    have Hend : Hid ((∀ k (h1 : k < xs.length) (h2 : k < ys.length), k < n → xs[k] = ys[k]) → decide (xs = ys) = true) := fun h => by
      have h1 := Hn.out; have h2 := Hm.out
      rw [decide_eq_true_iff]
      exact List.ext_getElem (by omega) (fun i g1 g2 => h i g1 g2 (by omega))
    have Hbad : Hid (∀ k (h1 : k < xs.length) (h2 : k < ys.length), xs[k] ≠ ys[k] → decide (xs = ys) = false) := fun k h1 h2 h => by
      rw [decide_eq_false_iff_not]; rintro rfl; exact h rfl
    go_enter Try.func43, Try.ntmps43
    go_wp2
    go_loopw [5] (fun t wr => ∃ k : Nat, k ≤ n ∧ t = .int .i64 k ∧ (∀ j (h1 : j < xs.length) (h2 : j < ys.length), j < k → xs[j] = ys[j]) ∧ Drew w wr) (fun t _ => n - (intOf t).toNat)
    case atStart => exact ⟨0, Nat.zero_le _, rfl, by simp, Drew.refl _⟩
    case round =>
      obtain ⟨k, hk, rfl, hall, hd⟩ := hrel
      have Hall := Lib.hid hall; clear hall
      by_cases hlt : k < n
      · have l1 : k < xs.length := by rw [← Hn.out]; exact hlt
        have l2 : k < ys.length := by rw [← Hm.out]; exact hlt
        obtain ⟨b1, o1, rfl, -, u1, hc1, hu1⟩ := Hel.out k l1
        obtain ⟨b2, o2, rfl, -, u2, hc2, hu2⟩ := Hel'.out k l2
        replace hc1 := (hd.cell _).trans hc1
        replace hc2 := (hd.cell _).trans hc2
        have Hgo : Hid (xs[k] = ys[k] → ∀ j (h1 : j < xs.length) (h2 : j < ys.length), j < k + 1 → xs[j] = ys[j]) := fun h j h1 h2 hj => by
          by_cases e : j = k
          · subst e; exact h
          · exact Hall.out j h1 h2 (by omega)
        have Hno := Lib.hid (Hbad.out k l1 l2)
        clear Hall Hbad Hend Hel Hel'
        generalize xs[k] = x at *
        generalize ys[k] = y at *
        by_cases hxy : x = y
        · have Hd : Hid (decide (x = y) = true) := by show _ = _; simpa using hxy
          have Hxy := Lib.hid hxy; clear hxy
          go_wp2
          go_quiet ((go_at_call 34; exact RetQ.quiet (Calls.vq (likeInts_c _ _ _ _ _ x y (stable_ints.drewN (stable_ints.drew hu1 hd) _) (stable_ints.drewN (stable_ints.drew hu2 hd) _)) (congrArg Value.bool Hd.out))))
          go_wp2
          go_roundw
          case rel => exact ⟨k + 1, by omega, by go_num, Hgo.out Hxy.out, hd.drewN _⟩
          case measure => simp [intOf]; omega
        · have Hd : Hid (decide (x = y) = false) := by show _ = _; simpa using hxy
          have Hxy := Lib.hid hxy; clear hxy
          go_wp2
          go_quiet ((go_at_call 34; exact RetQ.quiet (Calls.vq (likeInts_c _ _ _ _ _ x y (stable_ints.drewN (stable_ints.drew hu1 hd) _) (stable_ints.drewN (stable_ints.drew hu2 hd) _)) (congrArg Value.bool Hd.out))))
          go_wp2
          go_ret
          exact ⟨ret_bool' (Hno.out Hxy.out), hd.drewN _⟩
      · have hkn : k = n := by omega
        go_wp2
        go_ret
        exact ⟨ret_bool' (Hend.out (fun j h1 h2 hj => Hall.out j h1 h2 (by omega))), hd⟩
  · have hd : ((n : Int) == (m : Int)) = false := by rw [beq_eq_false_iff_ne]; omega
    have Hne : Hid (decide (xs = ys) = false) := by
      show decide (xs = ys) = false
      rw [decide_eq_false_iff_not]; rintro rfl; exact hnm (Hn.out.trans Hm.out.symm)
    clear hnm
    go_enter Try.func43, Try.ntmps43
    go_wp2
    go_ret
    exact ⟨ret_bool' Hne.out, Drew.refl _⟩

open Go.ChangeShapes Go.WideShapes Go.ChangeAt Go.RowKit
set_option linter.unusedVariables false

set_option maxHeartbeats 400000 in
theorem hasInt_c (w : World) (v : Value) (z : Zone) (xs : List Int) (x : Int) (h : IntsR z w v xs) (hx : I64 x) :
    Calls Try.prog 44 #[v, .int .i64 x] w (RetQ w (.bool (has xs x))) := by
  obtain ⟨a, len, cap, rfl, hlen, hmax, -, -, -, hel⟩ := IntsR.shape h
  have Hlen := Lib.hid hlen; clear hlen h
  have Hel := Lib.hid hel; clear hel
  unfold I64 at hx
  obtain ⟨n1, n2⟩ := hx
  go_enter Try.func44, Try.ntmps44
  go_wp2
  go_loop [5] (fun t => ∃ i : Nat, i ≤ len ∧ t = .int .i64 i ∧ ∀ j, j < i → xs.getD j 0 ≠ x) (fun t => len - (intOf t).toNat)
  case atStart => exact ⟨0, Nat.zero_le _, rfl, by simp⟩
  case round =>
    obtain ⟨i, hi, rfl, hall⟩ := hrel
    have Hall := Lib.hid hall; clear hall
    by_cases hlt : i < len
    · obtain ⟨b, off, rfl, hc, ⟨hx1, hx2⟩, -⟩ := Hel.out i hlt
      have Hgo : Hid (xs.getD i 0 ≠ x → ∀ j, j < i + 1 → xs.getD j 0 ≠ x) := fun h j hj => by
        by_cases e : j = i
        · rw [e]; exact h
        · exact Hall.out j (by omega)
      have Hyes : Hid (xs.getD i 0 = x → has xs x = true) := fun h => has_at i (by have := Hlen.out; omega) h
      generalize xs.getD i 0 = y at *
      by_cases hyx : y = x
      · have HH := Lib.hid (Hyes.out hyx)
        have hb : (y == x) = true := by simpa using hyx
        clear Hyes hyx
        go_wp2
        go_ret
        exact ⟨ret_bool' HH.out, Drew.refl _⟩
      · have HH := Lib.hid (Hgo.out hyx)
        have hb : (y == x) = false := by simpa using hyx
        clear Hgo hyx
        go_wp2
        go_round
        case rel => exact ⟨i + 1, by omega, by go_num, HH.out⟩
        case measure => simp [intOf]; omega
    · go_wp2
      go_ret
      exact ⟨ret_bool' (has_no (fun j hj => Hall.out j (by have := Hlen.out; omega))), Drew.refl _⟩

open Go.ChangeShapes Go.WideShapes Go.ChangeAt Go.RowKit
set_option linter.unusedVariables false

theorem big_c (w : World) (v : Value) (z : Zone) (xs : List Int) (h : BytesR z w v xs) : Calls Try.prog 28 #[v] w (RetQ w (.bool (decide (4096 < xs.length)))) := by
  obtain ⟨a, n, cap, rfl, hn, hmax, -⟩ := BytesR.shape h
  clear h
  have HH : Hid (decide ((4096 : Int) < (n : Int)) = decide (4096 < xs.length)) := by show _ = _; rw [← hn]; exact decide_eq_decide.2 (by omega)
  clear hn
  go_enter Try.func28, Try.ntmps28
  go_wp2_with fail
  go_ret
  exact ⟨ret_bool HH.out, Drew.refl _⟩
end Go.Proofs.Ytaogpbhgoeepbaa
