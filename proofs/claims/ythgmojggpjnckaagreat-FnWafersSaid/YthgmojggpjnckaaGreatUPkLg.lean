/- Proved: whether two lists are the same, slices.Equal; whether two lists, two locks are the same, program and reference; how many different lists there are, program and reference; the least wafers of any system, the program; the least wafers of any system, the reference. -/
import Derived.Test.YthgmojggpjnckaaGreatChecked
import Derived.Deep.RegionLaw
import Derived.Deep.RegionHeld3
import Derived.Test.YthgmojggpjnckaaGreatUPkD
import Derived.Test.YthgmojggpjnckaaGreatUPkA
import Derived.Test.YthgmojggpjnckaaGreatUPkWg
import Derived.Test.YthgmojggpjnckaaGreatUPkB
import Derived.Test.YthgmojggpjnckaaGreatUPkWa
import Derived.Test.YthgmojggpjnckaaGreatUPkC
namespace Go.Proofs.YthgmojggpjnckaaGreat
open Go.ChangeShapes Go.WideShapes Go.ChangeAt Go.RowKit
set_option linter.unusedVariables false

theorem eq_of_getD {α : Type} (d : α) {a b : List α} (h : a.length = b.length) (h2 : ∀ i, i < a.length → a.getD i d = b.getD i d) : a = b := by
  refine List.ext_getElem h (fun i h1 h3 => ?_)
  have := h2 i h1
  simpa [h1, h3] using this
theorem ne_of_getD {α : Type} [DecidableEq α] (d : α) {a b : List α} (i : Nat) (h : a.getD i d ≠ b.getD i d) : decide (a = b) = false := decide_eq_false (fun e => h (by rw [e]))
theorem ne_of_len {α : Type} [DecidableEq α] {a b : List α} (h : a.length ≠ b.length) : decide (a = b) = false := decide_eq_false (fun e => h (by rw [e]))

set_option maxHeartbeats 400000 in
theorem EqualInts_c (w : World) (u v : Value) (y z : Zone) (xs ys : List Int) (hx : IntsR y w u xs) (hy : IntsR z w v ys) :
    Calls Tryz.prog 121 #[u, v] w (RetQ w (.bool (decide (xs = ys)))) := by
  have HL : Hid (xs.length ≠ ys.length → decide (xs = ys) = false) := ne_of_len
  have HN : Hid (∀ i, xs.getD i 0 ≠ ys.getD i 0 → decide (xs = ys) = false) := fun i h => ne_of_getD 0 i h
  have HY : Hid (xs.length = ys.length → (∀ i, i < xs.length → xs.getD i 0 = ys.getD i 0) → decide (xs = ys) = true) := fun h h2 => decide_eq_true (eq_of_getD 0 h h2)
  generalize decide (xs = ys) = res at *
  obtain ⟨a, n, cap, rfl, hn, hmax, -⟩ := SliceR.shape hx
  obtain ⟨a2, n2, cap2, rfl, hn2, hmax2, -⟩ := SliceR.shape hy
  have HX := Lib.hid (fun (k : Nat) (hk : k < n) => ints_at hx hk)
  have HYY := Lib.hid (fun (k : Nat) (hk : k < n2) => ints_at hy hk)
  have Hn := Lib.hid hn
  have Hn2 := Lib.hid hn2
  clear hn hn2 hx hy
  go_enter Tryz.func121, Tryz.ntmps121
  by_cases hl : n = n2
  · subst hl
    go_wp2_with fail
    go_loopw [5, 13] (fun _ s13 wr => ∃ k : Nat, k ≤ n ∧ s13 = .int .i64 k ∧ (∀ i, i < k → xs.getD i 0 = ys.getD i 0) ∧ Drew w wr) (fun _ s13 _ => n - (intOf s13).toNat)
    case atStart => exact ⟨0, Nat.zero_le _, rfl, by simp, Drew.refl _⟩
    case round =>
      obtain ⟨k, hk, rfl, hall, hd⟩ := hrel
      have Hall := Lib.hid hall
      clear hall
      by_cases hlt : k < n
      · obtain ⟨b, off, rfl, -, hc⟩ := HX.out k hlt
        obtain ⟨b2, off2, rfl, -, hc2⟩ := HYY.out k hlt
        replace hc := hc wr (Ext.ofDrew hd)
        replace hc2 := hc2 wr (Ext.ofDrew hd)
        have HNk := Lib.hid (HN.out k)
        have Hgo : Hid (xs.getD k 0 = ys.getD k 0 → ∀ i, i < k + 1 → xs.getD i 0 = ys.getD i 0) := fun h j hj => by
          by_cases e : j = k
          · rw [e]; exact h
          · exact Hall.out j (by omega)
        generalize xs.getD k 0 = x at *
        generalize ys.getD k 0 = y at *
        by_cases hxy : x = y
        · have HG := Lib.hid (Hgo.out hxy)
          have hb : (x != y) = false := by simpa using hxy
          clear hxy Hgo HNk
          go_wp2_with fail
          go_quiet (fail)
          go_wp2_with fail
          go_roundw
          case rel => exact ⟨k+1, by omega, by go_num, HG.out, hd.drewN _⟩
          case measure => simp [intOf]; omega
        · have HG := Lib.hid (HNk.out hxy)
          have hb : (x != y) = true := by simpa using hxy
          clear hxy Hgo HNk
          go_wp2_with fail
          go_quiet (fail)
          go_wp2_with fail
          go_ret
          exact ⟨ret_bool' HG.out, hd.drewN _⟩
      · have HG : Hid (res = true) := HY.out (by rw [← Hn.out, ← Hn2.out]) (fun i hi => Hall.out i (by have := Hn.out; omega))
        go_wp2_with fail
        go_ret
        exact ⟨ret_bool' HG.out, hd⟩
  · have hb : ((n : Int) != (n2 : Int)) = true := by rw [bne_iff_ne]; omega
    have HG := Lib.hid (HL.out (by rw [← Hn.out, ← Hn2.out]; exact hl))
    clear hl
    go_wp2_with fail
    go_ret
    exact ⟨ret_bool' HG.out, Drew.refl _⟩

open Go.ChangeShapes Go.WideShapes Go.ChangeAt Go.RowKit
set_option linter.unusedVariables false

set_option maxHeartbeats 400000 in
theorem l01Same_c (w : World) (u v : Value) (y z : Zone) (xs ys : List Int) (hx : IntsR y w u xs) (hy : IntsR z w v ys) :
    Calls Tryz.prog 122 #[u, v] w (RetQ w (.bool (decide (xs = ys)))) := by
  have HL : Hid (xs.length ≠ ys.length → decide (xs = ys) = false) := ne_of_len
  have HN : Hid (∀ i, xs.getD i 0 ≠ ys.getD i 0 → decide (xs = ys) = false) := fun i h => ne_of_getD 0 i h
  have HY : Hid (xs.length = ys.length → (∀ i, i < xs.length → xs.getD i 0 = ys.getD i 0) → decide (xs = ys) = true) := fun h h2 => decide_eq_true (eq_of_getD 0 h h2)
  generalize decide (xs = ys) = res at *
  obtain ⟨a, n, cap, rfl, hn, hmax, -⟩ := SliceR.shape hx
  obtain ⟨a2, n2, cap2, rfl, hn2, hmax2, -⟩ := SliceR.shape hy
  have HX := Lib.hid (fun (k : Nat) (hk : k < n) => ints_at hx hk)
  have HYY := Lib.hid (fun (k : Nat) (hk : k < n2) => ints_at hy hk)
  have Hn := Lib.hid hn
  have Hn2 := Lib.hid hn2
  clear hn hn2 hx hy
  go_enter Tryz.func122, Tryz.ntmps122
  by_cases hl : n = n2
  · subst hl
    go_wp2_with fail
    go_loopw [5] (fun s5 wr => ∃ k : Nat, k ≤ n ∧ s5 = .int .i64 k ∧ (∀ i, i < k → xs.getD i 0 = ys.getD i 0) ∧ Drew w wr) (fun s5 _ => n - (intOf s5).toNat)
    case atStart => exact ⟨0, Nat.zero_le _, rfl, by simp, Drew.refl _⟩
    case round =>
      obtain ⟨k, hk, rfl, hall, hd⟩ := hrel
      have Hall := Lib.hid hall
      clear hall
      by_cases hlt : k < n
      · obtain ⟨b, off, rfl, -, hc⟩ := HX.out k hlt
        obtain ⟨b2, off2, rfl, -, hc2⟩ := HYY.out k hlt
        replace hc := hc wr (Ext.ofDrew hd)
        replace hc2 := hc2 wr (Ext.ofDrew hd)
        have HNk := Lib.hid (HN.out k)
        have Hgo : Hid (xs.getD k 0 = ys.getD k 0 → ∀ i, i < k + 1 → xs.getD i 0 = ys.getD i 0) := fun h j hj => by
          by_cases e : j = k
          · rw [e]; exact h
          · exact Hall.out j (by omega)
        generalize xs.getD k 0 = x at *
        generalize ys.getD k 0 = y at *
        by_cases hxy : x = y
        · have HG := Lib.hid (Hgo.out hxy)
          have hb : (x != y) = false := by simpa using hxy
          clear hxy Hgo HNk
          go_wp2_with fail
          go_quiet (fail)
          go_wp2_with fail
          go_roundw
          case rel => exact ⟨k+1, by omega, by go_num, HG.out, hd.drewN _⟩
          case measure => simp [intOf]; omega
        · have HG := Lib.hid (HNk.out hxy)
          have hb : (x != y) = true := by simpa using hxy
          clear hxy Hgo HNk
          go_wp2_with fail
          go_quiet (fail)
          go_wp2_with fail
          go_ret
          exact ⟨ret_bool' HG.out, hd.drewN _⟩
      · have HG : Hid (res = true) := HY.out (by rw [← Hn.out, ← Hn2.out]) (fun i hi => Hall.out i (by have := Hn.out; omega))
        go_wp2_with fail
        go_ret
        exact ⟨ret_bool' HG.out, hd⟩
  · have hb : ((n : Int) != (n2 : Int)) = true := by rw [bne_iff_ne]; omega
    have HG := Lib.hid (HL.out (by rw [← Hn.out, ← Hn2.out]; exact hl))
    clear hl
    go_wp2_with fail
    go_ret
    exact ⟨ret_bool' HG.out, Drew.refl _⟩

theorem Tryz.goesSameLock1 : Goes Tryz.prog 120 := goes_of Tryz.func120 (by kernel_rfl) (by kernel_rfl)
theorem sameLock1_c (w : World) (u v : Value) (y z : Zone) (xs ys : List Int) (hx : IntsR y w u xs) (hy : IntsR z w v ys) :
    Calls Tryz.prog 120 #[u, v] w (RetQ w (.bool (decide (xs = ys)))) := by
  have hcall := EqualInts_c w u v y z xs ys hx hy
  generalize decide (xs = ys) = q at *
  obtain ⟨a, n, cap, rfl, -⟩ := SliceR.shape hx
  obtain ⟨a2, n2, cap2, rfl, -⟩ := SliceR.shape hy
  clear hx hy
  go_enter Tryz.func120, Tryz.ntmps120
  go_wp2_with fail
  refine Calls.mono hcall ?_
  rintro e w2 ⟨rfl, hd2⟩
  go_wp2_with fail
  go_ret
  exact ⟨rfl, hd2⟩

set_option maxRecDepth 20000 in
set_option maxHeartbeats 800000 in
theorem EqualFuncRows_c (w : World) (u v : Value) (y z : Zone) (xs ys : List (List Int)) (hx : RowsR y w u xs) (hy : RowsR z w v ys) :
    Calls Tryz.prog 119 #[u, v, .func (.func 120) #[] #[]] w (RetQ w (.bool (decide (xs = ys)))) := by
  have HL : Hid (xs.length ≠ ys.length → decide (xs = ys) = false) := ne_of_len
  have HN : Hid (∀ i, xs.getD i [] ≠ ys.getD i [] → decide (xs = ys) = false) := fun i h => ne_of_getD [] i h
  have HY : Hid (xs.length = ys.length → (∀ i, i < xs.length → xs.getD i [] = ys.getD i []) → decide (xs = ys) = true) := fun h h2 => decide_eq_true (eq_of_getD [] h h2)
  generalize decide (xs = ys) = res at *
  obtain ⟨a, n, cap, rfl, hn, hmax, -⟩ := SliceR.shape hx
  obtain ⟨a2, n2, cap2, rfl, hn2, hmax2, -⟩ := SliceR.shape hy
  have HX := Lib.hid (fun (k : Nat) (hk : k < n) => rows_at hx hk)
  have HYY := Lib.hid (fun (k : Nat) (hk : k < n2) => rows_at hy hk)
  have Hn := Lib.hid hn
  have Hn2 := Lib.hid hn2
  clear hn hn2 hx hy
  go_enter Tryz.func119, Tryz.ntmps119
  by_cases hl : n = n2
  · subst hl
    go_wp2_with fail
    have hF := Tryz.goesSameLock1
    unfold Goes at hF
    go_loopw [7, 8, 9, 17] (fun _ _ _ s17 wr => ∃ k : Nat, k ≤ n ∧ s17 = .int .i64 k ∧ (∀ i, i < k → xs.getD i [] = ys.getD i []) ∧ Drew w wr) (fun _ _ _ s17 _ => n - (intOf s17).toNat)
    case atStart => exact ⟨0, Nat.zero_le _, rfl, by simp, Drew.refl _⟩
    case round =>
      obtain ⟨k, hk, rfl, hall, hd⟩ := hrel
      have Hall := Lib.hid hall
      clear hall
      by_cases hlt : k < n
      · obtain ⟨b, off, rfl, b1, n1, k1, -, -, -, hc, ⟨y1, -, hy1⟩, -⟩ := HX.out k hlt
        obtain ⟨b2, off2, rfl, b3, n3, k3, -, -, -, hc2, ⟨y3, -, hy3⟩, -⟩ := HYY.out k hlt
        replace hc := hc wr (Ext.ofDrew hd)
        replace hc2 := hc2 wr (Ext.ofDrew hd)
        have HNk := Lib.hid (HN.out k)
        have Hgo : Hid (xs.getD k [] = ys.getD k [] → ∀ i, i < k + 1 → xs.getD i [] = ys.getD i []) := fun h j hj => by
          by_cases e : j = k
          · rw [e]; exact h
          · exact Hall.out j (by omega)
        generalize xs.getD k [] = x at *
        generalize ys.getD k [] = yy at *
        have hcall := sameLock1_c wr _ _ y1 y3 x yy (hy1 wr (Ext.ofDrew hd)) (hy3 wr (Ext.ofDrew hd))
        clear hy1 hy3
        by_cases hxy : x = yy
        · have HG := Lib.hid (Hgo.out hxy)
          rw [decide_eq_true hxy] at hcall
          clear hxy Hgo HNk
          go_wp2_with fail
          refine Calls.mono hcall ?_
          rintro e w2 ⟨rfl, hd2⟩
          clear hcall
          go_wp2_with fail
          go_roundw
          case rel => exact ⟨k+1, by omega, by go_num, HG.out, hd.trans hd2⟩
          case measure => simp [intOf]; omega
        · have HG := Lib.hid (HNk.out hxy)
          rw [decide_eq_false hxy] at hcall
          clear hxy Hgo HNk
          go_wp2_with fail
          refine Calls.mono hcall ?_
          rintro e w2 ⟨rfl, hd2⟩
          clear hcall
          go_wp2_with fail
          go_ret
          exact ⟨ret_bool' HG.out, hd.trans hd2⟩
      · have HG : Hid (res = true) := HY.out (by rw [← Hn.out, ← Hn2.out]) (fun i hi => Hall.out i (by have := Hn.out; omega))
        go_wp2_with fail
        go_ret
        exact ⟨ret_bool' HG.out, hd⟩
  · have hb : ((n : Int) != (n2 : Int)) = true := by rw [bne_iff_ne]; omega
    have HG := Lib.hid (HL.out (by rw [← Hn.out, ← Hn2.out]; exact hl))
    clear hl
    go_wp2_with fail
    go_ret
    exact ⟨ret_bool' HG.out, Drew.refl _⟩

set_option maxRecDepth 20000 in
set_option maxHeartbeats 800000 in
theorem l05Same_c (w : World) (u v : Value) (y z : Zone) (xs ys : List (List Int)) (hx : RowsR y w u xs) (hy : RowsR z w v ys) :
    Calls Tryz.prog 88 #[u, v] w (RetQ w (.bool (decide (xs = ys)))) := by
  have HL : Hid (xs.length ≠ ys.length → decide (xs = ys) = false) := ne_of_len
  have HN : Hid (∀ i, xs.getD i [] ≠ ys.getD i [] → decide (xs = ys) = false) := fun i h => ne_of_getD [] i h
  have HY : Hid (xs.length = ys.length → (∀ i, i < xs.length → xs.getD i [] = ys.getD i []) → decide (xs = ys) = true) := fun h h2 => decide_eq_true (eq_of_getD [] h h2)
  generalize decide (xs = ys) = res at *
  obtain ⟨a, n, cap, rfl, hn, hmax, -⟩ := SliceR.shape hx
  obtain ⟨a2, n2, cap2, rfl, hn2, hmax2, -⟩ := SliceR.shape hy
  have HX := Lib.hid (fun (k : Nat) (hk : k < n) => rows_at hx hk)
  have HYY := Lib.hid (fun (k : Nat) (hk : k < n2) => rows_at hy hk)
  have Hn := Lib.hid hn
  have Hn2 := Lib.hid hn2
  clear hn hn2 hx hy
  go_enter Tryz.func88, Tryz.ntmps88
  by_cases hl : n = n2
  · subst hl
    go_wp2_with fail
    go_loopw [5] (fun s5 wr => ∃ k : Nat, k ≤ n ∧ s5 = .int .i64 k ∧ (∀ i, i < k → xs.getD i [] = ys.getD i []) ∧ Drew w wr) (fun s5 _ => n - (intOf s5).toNat)
    case atStart => exact ⟨0, Nat.zero_le _, rfl, by simp, Drew.refl _⟩
    case round =>
      obtain ⟨k, hk, rfl, hall, hd⟩ := hrel
      have Hall := Lib.hid hall
      clear hall
      by_cases hlt : k < n
      · obtain ⟨b, off, rfl, b1, n1, k1, -, -, -, hc, ⟨y1, -, hy1⟩, -⟩ := HX.out k hlt
        obtain ⟨b2, off2, rfl, b3, n3, k3, -, -, -, hc2, ⟨y3, -, hy3⟩, -⟩ := HYY.out k hlt
        replace hc := hc wr (Ext.ofDrew hd)
        replace hc2 := hc2 wr (Ext.ofDrew hd)
        have HNk := Lib.hid (HN.out k)
        have Hgo : Hid (xs.getD k [] = ys.getD k [] → ∀ i, i < k + 1 → xs.getD i [] = ys.getD i []) := fun h j hj => by
          by_cases e : j = k
          · rw [e]; exact h
          · exact Hall.out j (by omega)
        generalize xs.getD k [] = x at *
        generalize ys.getD k [] = yy at *
        have hcall := fun (m : Nat) => l01Same_c (wr.drewN m) _ _ y1 y3 x yy (hy1 _ (Ext.ofDrew (hd.drewN m))) (hy3 _ (Ext.ofDrew (hd.drewN m)))
        clear hy1 hy3
        by_cases hxy : x = yy
        · have HG := Lib.hid (Hgo.out hxy)
          rw [decide_eq_true hxy] at hcall
          have HC := Lib.hid hcall
          clear hxy Hgo HNk hcall
          go_wp2_with fail
          go_quiet ((go_at_call 122; exact RetQ.quiet (HC.out _)))
          go_wp2_with fail
          go_roundw
          case rel => exact ⟨k+1, by omega, by go_num, HG.out, hd.drewN _⟩
          case measure => simp [intOf]; omega
        · have HG := Lib.hid (HNk.out hxy)
          rw [decide_eq_false hxy] at hcall
          have HC := Lib.hid hcall
          clear hxy Hgo HNk hcall
          go_wp2_with fail
          go_quiet ((go_at_call 122; exact RetQ.quiet (HC.out _)))
          go_wp2_with fail
          go_ret
          exact ⟨ret_bool' HG.out, hd.drewN _⟩
      · have HG : Hid (res = true) := HY.out (by rw [← Hn.out, ← Hn2.out]) (fun i hi => Hall.out i (by have := Hn.out; omega))
        go_wp2_with fail
        go_ret
        exact ⟨ret_bool' HG.out, hd⟩
  · have hb : ((n : Int) != (n2 : Int)) = true := by rw [bne_iff_ne]; omega
    have HG := Lib.hid (HL.out (by rw [← Hn.out, ← Hn2.out]; exact hl))
    clear hl
    go_wp2_with fail
    go_ret
    exact ⟨ret_bool' HG.out, Drew.refl _⟩

theorem sameLock_c (w : World) (u v : Value) (y z : Zone) (xs ys : List (List Int)) (hx : RowsR y w u xs) (hy : RowsR z w v ys) :
    Calls Tryz.prog 86 #[.agg #[u], .agg #[v]] w (Ret w fun r _ => r = .bool (decide (xs = ys))) := by
  have HC := Lib.hid (fun (w' : World) (e : Ext w w') => EqualFuncRows_c w' u v y z xs ys (stable_rows.ext hx e) (stable_rows.ext hy e))
  generalize decide (xs = ys) = q at *
  obtain ⟨a, n, cap, rfl, -⟩ := SliceR.shape hx
  obtain ⟨a2, n2, cap2, rfl, -⟩ := SliceR.shape hy
  clear hx hy
  go_enter Tryz.func86, Tryz.ntmps86
  go_wp2_with fail
  generalize hw0 : World.alloc _ _ = w0
  have e0 : Ext w w0 := by rw [← hw0]; exact (Ext.alloc _ _).trans (Ext.alloc _ _)
  clear hw0
  refine Calls.mono (HC.out w0 e0) ?_
  rintro e w2 ⟨rfl, hd2⟩
  go_wp2_with fail
  go_ret
  exact ⟨_, rfl, rfl, e0.trans (Ext.ofDrew hd2)⟩

open Go.ChangeShapes Go.WideShapes Go.ChangeAt Go.RowKit
set_option linter.unusedVariables false

theorem Tryz.goesContains1 : Goes Tryz.prog 137 := goes_of Tryz.func137 (by kernel_rfl) (by kernel_rfl)
theorem contains1_c (w : World) (b : Nat) (u : Value) (y : Zone) (x : List Int) (hx : IntsR y w u x) (hb : w.cell? ⟨b, 0, none⟩ = some u) (v : Value) (z : Zone) (xs : List Int) (h : IntsR z w v xs) :
    Calls Tryz.prog 137 #[v, .pointer (some ⟨b, 0, none⟩)] w (Ret w fun r _ => r = .bool (decide (xs = x))) := by
  have hcall := EqualInts_c w v u z y xs x h hx
  generalize decide (xs = x) = q at *
  obtain ⟨a, n, cap, rfl, -⟩ := SliceR.shape h
  obtain ⟨a2, n2, cap2, rfl, -⟩ := SliceR.shape hx
  clear h hx
  go_enter Tryz.func137, Tryz.ntmps137
  go_wp2_with fail
  refine Calls.mono hcall ?_
  rintro e w1 ⟨rfl, hd⟩
  go_wp2_with fail
  go_ret
  exact ⟨.bool q, rfl, rfl, Ext.ofDrew hd⟩

theorem contains_c (w : World) (v : Value) (z : Zone) (xss : List (List Int)) (h : RowsR z w v xss) (u : Value) (y : Zone) (x : List Int) (hx : IntsR y w u x) :
    Calls Tryz.prog 104 #[v, u] w (Ret w fun r _ => r = .bool (hasL xss x)) := by
  have HC : Hid (∀ (w0 : World), Ext w w0 → w0.cell? ⟨w.heap.size, 0, none⟩ = some u → Calls Tryz.prog 136 #[v, .func (.func 137) #[] #[.pointer (some ⟨w.heap.size, 0, none⟩)]] w0 (Ret w0 fun r _ => r = .bool (hasL xss x))) := fun w0 e0 hM =>
    ContainsFuncRows_c w0 v z xss (stable_rows.ext h e0) _ Tryz.goesContains1 #[.pointer (some ⟨w.heap.size, 0, none⟩)] (fun y => decide (y = x)) (fun i hi w1 u' hb hu => contains1_c w1 _ u y x (stable_ints.ext hx (Ext.trans e0 hb)) (Ext.cell hb hM) u' _ _ hu)
  generalize hasL xss x = q at *
  obtain ⟨a, n, cap, rfl, -⟩ := SliceR.shape h
  obtain ⟨a2, n2, cap2, rfl, -⟩ := SliceR.shape hx
  clear h hx
  go_enter Tryz.func104, Tryz.ntmps104
  go_wp2_with fail
  generalize hw0 : World.alloc _ _ = w0
  have e0 : Ext w w0 := by rw [← hw0]; exact Ext.alloc _ _
  have c0 : w0.cell? ⟨w.heap.size, 0, none⟩ = some (.slice a2 n2 cap2) := by rw [← hw0]; clear hw0; go_simp
  clear hw0
  have hcall := HC.out w0 e0 c0
  refine Calls.mono hcall ?_
  rintro e w1 hr
  obtain ⟨r, rfl, rfl, e1⟩ := ret_ext hr
  go_wp2_with fail
  go_ret
  exact ⟨.bool q, rfl, rfl, e0.trans e1⟩

theorem hasL_yes {xss : List (List Int)} {x : List Int} {k : Nat} (hk : k < xss.length) (h : xss.getD k [] = x) : hasL xss x = true := by
  unfold hasL
  rw [List.any_eq_true]
  refine ⟨xss[k], List.getElem_mem hk, ?_⟩
  rw [List.getD_eq_getElem?_getD, List.getElem?_eq_getElem hk] at h
  simpa using h
theorem hasL_no {xss : List (List Int)} {x : List Int} (h : ∀ k, k < xss.length → xss.getD k [] ≠ x) : hasL xss x = false := by
  unfold hasL
  rw [List.any_eq_false]
  intro y hy
  obtain ⟨k, hk, rfl⟩ := List.getElem_of_mem hy
  have := h k hk
  rw [List.getD_eq_getElem?_getD, List.getElem?_eq_getElem hk] at this
  simpa using this

set_option maxHeartbeats 400000 in
theorem l14Has_c (w : World) (v : Value) (z : Zone) (xss : List (List Int)) (h : RowsR z w v xss) (u : Value) (y : Zone) (x : List Int) (hx : IntsR y w u x) :
    Calls Tryz.prog 106 #[v, u] w (Ret w fun r _ => r = .bool (hasL xss x)) := by
  have HY : Hid (∀ k, k < xss.length → xss.getD k [] = x → hasL xss x = true) := fun k hk h => hasL_yes hk h
  have HN : Hid ((∀ k, k < xss.length → xss.getD k [] ≠ x) → hasL xss x = false) := hasL_no
  obtain ⟨a, n, cap, rfl, hn, hmax, -⟩ := SliceR.shape h
  have HT := Lib.hid (fun (k : Nat) (hk : k < n) => rows_at h hk)
  have HX := Lib.hid (fun (w' : World) (e : Ext w w') => stable_ints.ext hx e)
  obtain ⟨a2, n2, cap2, rfl, -⟩ := SliceR.shape hx
  generalize hasL xss x = q at *
  rw [← hn] at HY HN
  clear hn h hx
  go_enter Tryz.func106, Tryz.ntmps106
  go_wp2_with fail
  go_loopw [5] (fun s wr => ∃ k : Nat, k ≤ n ∧ s = .int .i64 k ∧ (∀ j, j < k → xss.getD j [] ≠ x) ∧ Ext w wr) (fun s _ => n - (intOf s).toNat)
  case atStart => exact ⟨0, Nat.zero_le _, rfl, fun j hj => absurd hj (Nat.not_lt_zero _), Ext.refl _⟩
  case round =>
    obtain ⟨k, hk, rfl, hall, ew⟩ := hrel
    have Hall := Lib.hid hall
    clear hall
    by_cases hlt : k < n
    · obtain ⟨b, off, rfl, a1, n1, k1, -, -, -, hc, ⟨y1, -, hy⟩, -⟩ := HT.out k hlt
      replace hc := hc wr ew
      have hcall := l01Same_c wr _ _ _ _ _ _ (hy wr ew) (HX.out wr ew)
      have HYk := Lib.hid (HY.out k hlt)
      have HNx : Hid (xss.getD k [] ≠ x → ∀ j, j < k + 1 → xss.getD j [] ≠ x) := fun h j hj => by
        by_cases e : j = k
        · rw [e]; exact h
        · exact Hall.out j (by omega)
      generalize xss.getD k [] = row at *
      clear hy
      by_cases he : row = x
      · have HH := Lib.hid (HYk.out he)
        rw [decide_eq_true he] at hcall
        clear HYk HNx he
        go_wp2_with fail
        refine Calls.mono hcall ?_
        rintro e w1 ⟨rfl, hd⟩
        go_wp2_with fail
        go_ret
        exact ⟨_, rfl, by rw [HH.out]; rfl, ew.trans (Ext.ofDrew hd)⟩
      · have HH := Lib.hid (HNx.out he)
        rw [decide_eq_false he] at hcall
        clear HYk HNx he
        go_wp2_with fail
        refine Calls.mono hcall ?_
        rintro e w1 ⟨rfl, hd⟩
        go_wp2_with fail
        go_roundw
        case rel => exact ⟨k + 1, by omega, by go_num, HH.out, ew.trans (Ext.ofDrew hd)⟩
        case measure => simp [intOf]; omega
    · have hkn : n = k := by omega
      subst hkn
      have HH := Lib.hid (HN.out Hall.out)
      go_wp2_with fail
      go_ret
      exact ⟨_, rfl, by rw [HH.out]; rfl, ew⟩

set_option maxHeartbeats 400000 in
theorem differentRows_c (w : World) (v : Value) (z : Zone) (xss : List (List Int)) (h : RowsR z w v xss) (hl : xss.length ≤ 1000) :
    Calls Tryz.prog 61 #[v] w (Ret w fun r _ => r = .int .i64 (diffN xss xss.length : Nat)) := by
  have HS := Lib.hid (fun k => diffN_succ xss k)
  have HB := Lib.hid (fun k => diffN_le xss k)
  have H0 : Hid (diffN xss 0 = 0) := rfl
  obtain ⟨a, n, cap, rfl, hn, hmax, -⟩ := SliceR.shape h
  have HT := Lib.hid (fun (k : Nat) (hk : k < n) => rows_at h hk)
  have HC : Hid (∀ (k : Nat), k < n → ∀ (w' : World) (u : Value) (y : Zone), Ext w w' → IntsR y w' u (xss.getD k []) → Calls Tryz.prog 104 #[.slice a k cap, u] w' (Ret w' fun r _ => r = .bool (hasL (xss.take k) (xss.getD k [])))) := fun k hk w' u y e g =>
    contains_c w' _ z _ (SliceR.front (stable_rows.ext h e) k (by omega)) u y _ g
  have hcap : n ≤ cap := by
    obtain ⟨a', n', cap', he, -, -, hh, -⟩ := SliceR.shape h
    injection he with e1 e2 e3
    omega
  rw [← hn] at hl
  have Hn : Hid (diffN xss xss.length = diffN xss n) := by show _ = _; rw [hn]
  generalize diffN xss xss.length = res at *
  generalize diffN xss = dn at *
  clear hn h
  go_enter Tryz.func61, Tryz.ntmps61
  go_wp2_with fail
  go_loopw [3, 4, 5, 8] (fun o _ _ s wr => ∃ k : Nat, k ≤ n ∧ s = .int .i64 k ∧ o = .int .i64 (dn k : Nat) ∧ Ext w wr) (fun _ _ _ s _ => n - (intOf s).toNat)
  case atStart => exact ⟨0, Nat.zero_le _, rfl, by rw [H0.out]; rfl, Ext.refl _⟩
  case round =>
    obtain ⟨k, hk, rfl, rfl, ew⟩ := hrel
    by_cases hlt : k < n
    · obtain ⟨b, off, rfl, a1, n1, k1, -, -, -, hc, ⟨y1, -, hy⟩, -⟩ := HT.out k hlt
      replace hc := hc wr ew
      have hcall := HC.out k hlt wr _ _ ew (hy wr ew)
      have HSk := Lib.hid (HS.out k)
      have hbk := HB.out k
      clear hy
      have hkc : k ≤ cap := by omega
      generalize hq : hasL (xss.take k) (xss.getD k []) = q at *
      clear hq
      generalize dn k = y at *
      cases q with
      | true =>
        have HH : Hid (dn (k + 1) = y) := by show _ = _; rw [HSk.out, if_pos rfl, Nat.add_zero]
        clear HSk
        go_wp2_with fail
        refine Calls.mono hcall ?_
        rintro e w1 hr
        obtain ⟨r, rfl, rfl, e1⟩ := ret_ext hr
        clear hr hcall
        go_wp2_with fail
        go_roundw
        case rel => exact ⟨k + 1, by omega, by go_num, by rw [HH.out], ew.trans e1⟩
        case measure => simp [intOf]; omega
      | false =>
        have HH : Hid (dn (k + 1) = y + 1) := by show _ = _; rw [HSk.out, if_neg (by decide)]
        clear HSk
        go_wp2_with fail
        refine Calls.mono hcall ?_
        rintro e w1 hr
        obtain ⟨r, rfl, rfl, e1⟩ := ret_ext hr
        clear hr hcall
        go_wp2_with fail
        go_roundw
        case rel => exact ⟨k + 1, by omega, by go_num, by rw [HH.out]; push_cast; rfl, ew.trans e1⟩
        case measure => simp [intOf]; omega
    · have hkn : n = k := by omega
      subst hkn
      go_wp2_with fail
      go_ret
      exact ⟨_, rfl, by rw [Hn.out]; rfl, ew⟩

set_option maxHeartbeats 400000 in
theorem l20Different_c (w : World) (v : Value) (z : Zone) (xss : List (List Int)) (h : RowsR z w v xss) (hl : xss.length ≤ 1000) :
    Calls Tryz.prog 63 #[v] w (Ret w fun r _ => r = .int .i64 (diffN xss xss.length : Nat)) := by
  have HS := Lib.hid (fun k => diffN_succ xss k)
  have HB := Lib.hid (fun k => diffN_le xss k)
  have H0 : Hid (diffN xss 0 = 0) := rfl
  obtain ⟨a, n, cap, rfl, hn, hmax, -⟩ := SliceR.shape h
  have HT := Lib.hid (fun (k : Nat) (hk : k < n) => rows_at h hk)
  have HC : Hid (∀ (k : Nat), k < n → ∀ (w' : World) (u : Value) (y : Zone), Ext w w' → IntsR y w' u (xss.getD k []) → Calls Tryz.prog 106 #[.slice a k cap, u] w' (Ret w' fun r _ => r = .bool (hasL (xss.take k) (xss.getD k [])))) := fun k hk w' u y e g =>
    l14Has_c w' _ z _ (SliceR.front (stable_rows.ext h e) k (by omega)) u y _ g
  have hcap : n ≤ cap := by
    obtain ⟨a', n', cap', he, -, -, hh, -⟩ := SliceR.shape h
    injection he with e1 e2 e3
    omega
  rw [← hn] at hl
  have Hn : Hid (diffN xss xss.length = diffN xss n) := by show _ = _; rw [hn]
  generalize diffN xss xss.length = res at *
  generalize diffN xss = dn at *
  clear hn h
  go_enter Tryz.func63, Tryz.ntmps63
  go_wp2_with fail
  go_loopw [3, 4] (fun o s wr => ∃ k : Nat, k ≤ n ∧ s = .int .i64 k ∧ o = .int .i64 (dn k : Nat) ∧ Ext w wr) (fun _ s _ => n - (intOf s).toNat)
  case atStart => exact ⟨0, Nat.zero_le _, rfl, by rw [H0.out]; rfl, Ext.refl _⟩
  case round =>
    obtain ⟨k, hk, rfl, rfl, ew⟩ := hrel
    by_cases hlt : k < n
    · obtain ⟨b, off, rfl, a1, n1, k1, -, -, -, hc, ⟨y1, -, hy⟩, -⟩ := HT.out k hlt
      replace hc := hc wr ew
      have HCC := Lib.hid (fun (w' : World) (e : Ext wr w') => HC.out k hlt w' _ _ (ew.trans e) (hy w' (ew.trans e)))
      have HSk := Lib.hid (HS.out k)
      have hbk := HB.out k
      clear hy
      have hkc : k ≤ cap := by omega
      generalize hq : hasL (xss.take k) (xss.getD k []) = q at *
      clear hq
      generalize dn k = y at *
      cases q with
      | true =>
        have HH : Hid (dn (k + 1) = y) := by show _ = _; rw [HSk.out, if_pos rfl, Nat.add_zero]
        clear HSk
        go_wp2_with fail
        go_region_law (first | (go_simp; go_at_call 106; refine (HCC.out _ (by repeat (first | exact Ext.refl _ | assumption | (refine Ext.trans ?_ (Ext.alloc _ _)) | (refine Ext.trans ?_ (Ext.drew _)) | (refine Ext.trans ?_ (by assumption))))).mono ?_; rintro e w7 hr; obtain ⟨r, rfl, rfl, e7⟩ := ret_ext hr; clear hr; have e72 : Ext wr w7 := (by repeat (first | exact Ext.refl _ | assumption | (refine Ext.trans ?_ (Ext.alloc _ _)) | (refine Ext.trans ?_ (Ext.drew _)) | (refine Ext.trans ?_ (by assumption))))) | fail)
        all_goals (go_wp2_with fail; go_roundw)
        any_goals (simp [intOf]; omega)
        all_goals exact ⟨k + 1, by omega, by go_num, by rw [HH.out], ew.trans e72⟩
      | false =>
        have HH : Hid (dn (k + 1) = y + 1) := by show _ = _; rw [HSk.out, if_neg (by decide)]
        clear HSk
        go_wp2_with fail
        go_region_law (first | (go_simp; go_at_call 106; refine (HCC.out _ (by repeat (first | exact Ext.refl _ | assumption | (refine Ext.trans ?_ (Ext.alloc _ _)) | (refine Ext.trans ?_ (Ext.drew _)) | (refine Ext.trans ?_ (by assumption))))).mono ?_; rintro e w7 hr; obtain ⟨r, rfl, rfl, e7⟩ := ret_ext hr; clear hr; have e72 : Ext wr w7 := (by repeat (first | exact Ext.refl _ | assumption | (refine Ext.trans ?_ (Ext.alloc _ _)) | (refine Ext.trans ?_ (Ext.drew _)) | (refine Ext.trans ?_ (by assumption))))) | fail)
        all_goals (go_wp2_with fail; go_roundw)
        any_goals (simp [intOf]; omega)
        all_goals exact ⟨k + 1, by omega, by go_num, by rw [HH.out]; push_cast; rfl, ew.trans e72⟩
    · have hkn : n = k := by omega
      subst hkn
      go_wp2_with fail
      go_ret
      exact ⟨_, rfl, by rw [Hn.out]; rfl, ew⟩

open Go.ChangeShapes Go.WideShapes Go.ChangeAt Go.RowKit
set_option linter.unusedVariables false

theorem leastTo_succG (mk : MK) (t : List (List Int)) (k : Nat) : leastTo mk t (k + 1) = leastTo mk t k + doorW mk t k := rfl
theorem openRows_lenG (t : List (List Int)) (d : Nat) : (openRows t d).length ≤ t.length := keysAt_len t t d t.length
/-- a door does not ask for more than there is -/
def doorOk (mk : MK) (t : List (List Int)) (d : Nat) : Bool := decide (diffN (openRows t d) (openRows t d).length ≤ mk.d.toNat ^ mk.c.toNat)
def forD (mk : MK) (t : List (List Int)) (d : Nat) : Int := forN mk (diffN (openRows t d) (openRows t d).length)
theorem forD_ok {mk : MK} {t : List (List Int)} {d : Nat} (h : doorOk mk t d = true) : forD mk t d = (doorW mk t d : Int) := by unfold forD forN; rw [if_pos (of_decide_eq_true h)]; rfl
theorem forD_no {mk : MK} {t : List (List Int)} {d : Nat} (h : doorOk mk t d = false) : forD mk t d = -1 := by unfold forD forN; rw [if_neg (of_decide_eq_false h)]
theorem doorW_leG {mk : MK} {t : List (List Int)} (hs : SysOk mk t) {d : Nat} (h : doorOk mk t d = true) : doorW mk t d ≤ 42 := by
  have h1 := hs.mk1
  have h2 := hs.mk2
  have h3 := wafN_le (c := mk.c.toNat) (d := mk.d.toNat) (by omega) (by omega) (of_decide_eq_true h)
  have h4 : mk.c.toNat * (mk.d.toNat - 1) ≤ 6 * 7 := Nat.mul_le_mul (by omega) (by omega)
  unfold doorW
  omega
theorem leastTo_leG {mk : MK} {t : List (List Int)} (hs : SysOk mk t) : ∀ k, (∀ j, j < k → doorOk mk t j = true) → leastTo mk t k ≤ k * 42
  | 0, _ => by simp [leastTo]
  | k + 1, h => by
    have := leastTo_leG hs k (fun j hj => h j (by omega))
    have := doorW_leG hs (h k (by omega))
    simp only [leastTo]
    omega
/-- the least wafers of a system, and a code -/
def leastR (mk : MK) (t : List (List Int)) : Int × Int := if isSystem mk t = true then (if (List.range (doorsOf t)).all (doorOk mk t) = true then (((leastTo mk t (doorsOf t) : Nat) : Int), 0) else (0, 4)) else (0, 1)
theorem leastR_bad {mk : MK} {t : List (List Int)} (h : isSystem mk t = false) : leastR mk t = (0, 1) := by unfold leastR; rw [if_neg (by rw [h]; decide)]
theorem leastR_no {mk : MK} {t : List (List Int)} (h : isSystem mk t = true) {d : Nat} (hd : d < doorsOf t) (h4 : doorOk mk t d = false) : leastR mk t = (0, 4) := by
  unfold leastR
  rw [if_pos h, if_neg (fun q => ?_)]
  have := List.all_eq_true.1 q d (List.mem_range.2 hd)
  rw [h4] at this
  cases this
theorem leastR_ok {mk : MK} {t : List (List Int)} (h : isSystem mk t = true) (hd : ∀ d, d < doorsOf t → doorOk mk t d = true) : leastR mk t = (((leastTo mk t (doorsOf t) : Nat) : Int), 0) := by
  unfold leastR
  rw [if_pos h, if_pos (List.all_eq_true.2 (fun d q => hd d (List.mem_range.1 q)))]
theorem leastR_zero {mk : MK} {t : List (List Int)} {l : Int} (h : leastR mk t = (l, 0)) : l = (leastTo mk t (doorsOf t) : Int) := by
  unfold leastR at h
  split at h
  · split at h
    · exact (congrArg Prod.fst h).symm
    · exact absurd (congrArg Prod.snd h) (by simp)
  · exact absurd (congrArg Prod.snd h) (by simp)

set_option maxRecDepth 20000 in
set_option maxHeartbeats 2000000 in
theorem LeastWafersG_c (w : World) (mk : MK) (v : Value) (z : Zone) (t : List (List Int)) (h : RowsR z w v t) (hsys : isSystem mk t = true) :
    Calls Tryz.prog 14 #[sysV mk v] w (Ret w fun r _ => r = IntCode (leastR mk t)) := by
  have hok := sysOk hsys
  have HI : Hid (∀ w', Ext w w' → Calls Tryz.prog 59 #[sysV mk v] w' (Ret w' fun r _ => r = .bool true)) := fun w' e => by
    have := IsSystem_c w' mk v z t (stable_rows.ext h e); rwa [hsys] at this
  have HR : Hid (∀ w', Ext w w' → ∀ d : Nat, d < doorsOf t → Calls Tryz.prog 60 #[sysV mk v, .int .i64 d] w' (Ret w' fun r w'' => OwnP (Value.int .i64) 2 w'.heap.size w'' r (rowsI t d t.length))) := fun w' e d hd => rowsFor_c w' mk v z t (stable_rows.ext h e) d (fun k hk => by rw [hok.row k hk]; exact hd) hok.len.2
  have HD : Hid (∀ w' d x, RowsR ⟨0, w'.heap.size, false⟩ w' x (openRows t d) → Calls Tryz.prog 61 #[x] w' (Ret w' fun r _ => r = .int .i64 (diffN (openRows t d) (openRows t d).length : Nat))) := fun w' d x hx => differentRows_c w' x _ _ hx (by have := openRows_lenG t d; have := hok.len; omega)
  have HF : Hid (∀ w' d, Calls Tryz.prog 52 #[mk.v, .int .i64 (diffN (openRows t d) (openRows t d).length : Nat)] w' (Ret w' fun r _ => r = .int .i64 (forD mk t d))) := fun w' d => wafersForG_c w' mk hok.mk1 hok.mk2 _ (by have := diffN_le (openRows t d) (openRows t d).length; have := openRows_lenG t d; have := hok.len; omega)
  have HKA : Hid (∀ d, keysTo (rowsAt t d t.length) t (rowsAt t d t.length).length = openRows t d) := fun d => keysTo_all (Nat.le_refl _)
  have HS := Lib.hid (fun n => leastTo_succG mk t n)
  have HL : Hid (∀ k, k ≤ 12 → (∀ j, j < k → doorOk mk t j = true) → leastTo mk t k ≤ 504) := fun k hk hj => by have := leastTo_leG hok k hj; show _ ≤ _; omega
  have HW : Hid (∀ d, doorOk mk t d = true → forD mk t d = (doorW mk t d : Int) ∧ doorW mk t d ≤ 42) := fun d hd => ⟨forD_ok hd, doorW_leG hok hd⟩
  have HWn : Hid (∀ d, doorOk mk t d = false → forD mk t d = -1) := fun d hd => forD_no hd
  have HR4 : Hid (∀ d, d < doorsOf t → doorOk mk t d = false → leastR mk t = (0, 4)) := fun d hd h4 => leastR_no hsys hd h4
  have HR0 : Hid ((∀ d, d < doorsOf t → doorOk mk t d = true) → leastR mk t = (((leastTo mk t (doorsOf t) : Nat) : Int), 0)) := fun h => leastR_ok hsys h
  have H0 : Hid (leastTo mk t 0 = 0) := rfl
  have hdr := hok.doors
  have hle1 := hok.len
  have Hl10 := Lib.hid (fun d => rowsAt_len t d t.length)
  have HRL : Hid (∀ d, ∀ k ∈ rowsAt t d t.length, k < t.length) := fun d k hk => rowsAt_lt hk
  generalize hlT : leastTo mk t = lT at *
  generalize hdW : doorW mk t = dW at *
  generalize hfD : forD mk t = fD at *
  generalize hdO : doorOk mk t = dO at *
  generalize hRes : leastR mk t = res at *
  clear hlT hdW hfD hdO hRes
  obtain ⟨a, n, cap, rfl, hn, hmax, -⟩ := SliceR.shape h
  have HC := Lib.hid (fun (k : Nat) (hk : k < n) => rows_at h hk)
  have hn0 : 0 < n := by omega
  obtain ⟨b, off, rfl, a0, m, cp, hm0, hmm, -, hc0, -⟩ := rows_at h hn0
  have Hm : Hid (m = doorsOf t) := hm0
  have Hn : Hid (n = t.length) := hn
  have hm12 : m ≤ 12 := by have := Hm.out; omega
  have hn10 : n ≤ 10 := by omega
  rw [← Hm.out] at HR0 HR4
  clear hn h hok hsys hdr hle1 hm0
  unfold sysV MK.v at *
  have HC0 := Lib.hid hc0
  clear hc0
  go_enter Tryz.func14, Tryz.ntmps14
  go_wp2_with fail
  generalize hw0 : World.alloc _ _ = w0
  obtain ⟨e0, S0⟩ := sys_box hw0
  clear hw0
  refine Calls.mono (HI.out w0 e0) ?_
  rintro e w1 hr
  obtain ⟨r, rfl, rfl, e1⟩ := ret_ext hr
  clear hr
  have et := e0.trans e1
  have HSy := Lib.hid (S0.ext e1)
  obtain ⟨c0, c1, c2, c3, c4, c5⟩ := S0.ext e1
  have hrow := HC0.out w1 et
  rw [Nat.add_zero] at hrow
  clear S0
  go_wp2_with fail
  clear c0 c1 c2 c3 c4 c5 hrow
  go_loopw [4, 5, 6, 8, 9, 18] (fun s4 _ _ _ _ s18 wr => ∃ d : Nat, d ≤ m ∧ s18 = .int .i64 d ∧ s4 = .int .i64 (lT d : Nat) ∧ (∀ j, j < d → dO j = true) ∧ Ext w1 wr) (fun _ _ _ _ _ s18 _ => m - (intOf s18).toNat)
  case atStart => exact ⟨0, Nat.zero_le _, rfl, by rw [H0.out]; rfl, fun j hj => absurd hj (Nat.not_lt_zero _), Ext.refl _⟩
  case round =>
    obtain ⟨d, hd, rfl, rfl, hall, ew⟩ := hrel
    have HAll := Lib.hid hall
    clear hall
    have eW : Ext w wr := et.trans ew
    have HS1 := Lib.hid (HSy.out.ext ew)
    obtain ⟨c0, c1, c2, c3, c4, c5⟩ := HS1.out
    by_cases hlt : d < m
    · have HSd := Lib.hid (HS.out d)
      have HLT : Hid (d < doorsOf t) := by show _ < _; rw [← Hm.out]; exact hlt
      have hL := HL.out d (by omega) HAll.out
      have HWd := Lib.hid (HW.out d)
      have HWnd := Lib.hid (HWn.out d)
      have HR4d := Lib.hid (HR4.out d hlt)
      have HNxt : Hid (dO d = true → ∀ j, j < d + 1 → dO j = true) := fun h j hj => by
        by_cases e : j = d
        · rw [e]; exact h
        · exact HAll.out j (by omega)
      have hltw := World.block_lt_of_cell? _ _ c0
      simp only at hltw
      go_wp2_with fail
      generalize hw2 : World.alloc _ _ = w2
      obtain ⟨e2, o2⟩ : Ext wr w2 ∧ AliasR 41 wr.heap.size w2 (.slice (some ⟨wr.heap.size, 0, none⟩) 0 0) [] := by
        subst hw2
        exact ⟨Ext.alloc _ _, AliasR.empty (Nat.le_refl _)⟩
      have HSz : Hid (w2.heap.size = wr.heap.size + 1) := by show _ = _; rw [← hw2]; simp
      clear hw2
      obtain ⟨wo, rfl⟩ : ∃ wo, wo = wr := ⟨_, rfl⟩
      have hcall := HR.out w2 (eW.trans e2) d HLT.out
      refine Calls.mono hcall ?_
      rintro e w3 hr
      obtain ⟨r, rfl, o3, e3⟩ := ret_ext hr
      clear hr hcall
      have hsz3 := e3.size
      have eW3 := (eW.trans e2).trans e3
      have hs23 := HSz.out
      have hok3 := o3.block
      have o2' := AliasR.ext o2 e3
      have HKd := Lib.hid (HKA.out d)
      have H10 := Lib.hid (Hl10.out d)
      have HRd := Lib.hid (HRL.out d)
      unfold rowsI at o3
      generalize hrs : rowsAt t d t.length = rs at *
      have HRS : Hid (∀ j, j < rs.length → ((rs.map fun (k : Nat) => (k : Int)).getD j 0) = ((rs.getD j 0 : Nat) : Int)) := fun j hj => by simp [hj]
      obtain ⟨ra, rn, rc, rfl, hrn, -⟩ := o3.shape
      rw [List.length_map] at hrn
      have Hrn := Lib.hid hrn
      have hrn10 : rn ≤ 10 := by have := Hrn.out; have := H10.out; have := Hn.out; omega
      have o3n : ∀ k, (Value.slice (some ⟨wo.heap.size, 0, none⟩) 0 0).ownBlock = some k → k < w2.heap.size := fun k hk => by
        have h1 : k = wo.heap.size := (Option.some.inj hk).symm
        omega
      have hlt0 : w.heap.size ≤ wo.heap.size := eW.size
      clear hrs hrn hs23
      go_wp2_with fail
      go_loopw [6, 8, 26] (fun s6 _ s26 wr => ∃ j : Nat, j ≤ rn ∧ s26 = .int .i64 j ∧ AliasR 41 wo.heap.size wr s6 (keysTo rs t j) ∧ Below wo.heap.size wo wr ∧ OwnP (Value.int .i64) 2 w2.heap.size wr (.slice ra rn rc) (rs.map fun (k : Nat) => (k : Int)) ∧ (∀ k, s6.ownBlock = some k → (Value.slice ra rn rc).ownBlock ≠ some k) ∧ w3.heap.size ≤ wr.heap.size) (fun _ _ s26 _ => rn - (intOf s26).toNat)
      case atStart => exact ⟨0, Nat.zero_le _, rfl, o2', Below.trans e2 (Below.mono e3 (Ext.size e2)), o3, fun k hk e => by have := (hok3 k e).1; have := o3n k hk; omega, Nat.le_refl _⟩
      case round =>
        obtain ⟨j, hj, rfl, ownK, hbK, o4, hne, hs4⟩ := hrel
        have eW4 : Ext w wr := eW.trans hbK
        have hsK := hbK.size
        obtain ⟨c0, c1, c2, c3, c4, c5⟩ := HS1.out.all hbK
        by_cases hltj : j < rn
        · obtain ⟨g, rfl, hg1, hg2, hg3, hg4⟩ := OwnP.elem o4 0 j hltj
          rw [HRS.out j (by rw [← Hrn.out]; exact hltj)] at hg3
          have HU := Lib.hid (keysTo_succ (rs := rs) (cuts := t) (j := j) (by rw [← Hrn.out]; exact hltj))
          have hle := keysTo_len rs t j
          have hkey : rs.getD j 0 < n := by
            have hjl : j < rs.length := by rw [← Hrn.out]; exact hltj
            have e : rs.getD j 0 = rs[j] := by simp [hjl]
            rw [e, Hn.out]
            exact HRd.out _ (List.getElem_mem hjl)
          generalize rs.getD j 0 = key at *
          generalize hks : keysTo rs t j = ks at *
          clear hks
          obtain ⟨b', off', hae, a1', n1', k1', hn1', hm1', -, hc', ⟨yy, -, hy⟩, -⟩ := HC.out key hkey
          injection hae with hae; injection hae with hae1 hae2 _
          subst hae1; subst hae2
          have hU := IntsR.free (hy w (Ext.refl _))
          have hUW := stable_ints.ext hU eW4
          replace hc' := hc' wr eW4
          have HV : Hid (keysTo rs t (j+1) = ks ++ [t.getD key []]) := by show _ = _; rw [HU.out, if_pos (by rw [← Hn.out]; exact hkey)]
          clear hy hn1' HU hU
          generalize t.getD key [] = row at *
          go_wp2_with (at_builtin; (refine wpList_appendAlias (B := wo.heap.size) (xs := ks) (w0 := w) rfl _ _ 30 rfl Tryz.underlying30 Tryz.infoInts rfl ownK (a1', n1', k1') row hUW (by omega) rfl (by omega) (by omega) ?_); intro v6 w6 hown6 hb6 hg6 hat6)
          go_roundw
          case rel =>
            refine ⟨j + 1, by omega, by go_num, by rw [HV.out]; exact hown6, hbK.trans hb6, o4.kept hg6 ?_, ?_, by have := hb6.size; omega⟩
            · right; intro e; exact hne g e.symm rfl
            · intro k hk e
              rcases hat6 k hk with h | h
              · exact hne k h e
              · have h1 : g = k := Option.some.inj e
                omega
          case measure => simp [intOf]; omega
        · have hjr : j = rs.length := by have := Hrn.out; omega
          have hx := ownK.rows
          rw [hjr, HKd.out] at hx
          have HDx := Lib.hid (fun (w' : World) (e : Ext wr w') (u : Value) (hu : RowsR ⟨0, wr.heap.size, false⟩ wr u (openRows t d)) => HD.out w' d u (stable_rows.sub (stable_rows.ext hu e) ⟨fun k hk => ⟨hk.1, Nat.lt_of_lt_of_le hk.2 e.size⟩, fun h => h⟩))
          have HFx := Lib.hid (fun (w' : World) => HF.out w' d)
          have HX := Lib.hid hx
          obtain ⟨xa, xn, xc, rfl, -⟩ := OwnA.shape ownK
          have HA := Lib.hid (fun (w' : World) (e : Ext wr w') => (HS1.out.ext (Ext.trans hbK e)).all (Ext.refl _))
          generalize diffN (openRows t d) (openRows t d).length = dn at *
          generalize hls : lT d = ls at *
          generalize hdw : dW d = dw at *
          generalize hfd : fD d = fd at *
          generalize hdo : dO d = dq at *
          clear hls hdw hfd hdo hx ownK o4 hne HKA HKd
          go_wp2_with fail
          go_region_held3 (fun w' => w'.cell? ⟨w.heap.size, 0, none⟩ = some (.int .i64 mk.c) ∧ w'.cell? ⟨w.heap.size, 1, none⟩ = some (.int .i64 mk.d) ∧ w'.cell? ⟨w.heap.size, 2, none⟩ = some (.int .i64 mk.s) ∧ w'.cell? ⟨w.heap.size, 3, none⟩ = some (.int .i64 mk.m) ∧ w'.cell? ⟨w.heap.size, 4, none⟩ = some (.int .i64 mk.l) ∧ w'.cell? ⟨w.heap.size, 5, none⟩ = some (.slice (some ⟨b, off, none⟩) n cap)) (exact HA.out _ (by repeat (first | exact Ext.refl _ | assumption | (refine Ext.trans ?_ (Ext.alloc _ _)) | (refine Ext.trans ?_ (Ext.drew _)) | (refine Ext.trans ?_ (by assumption))))) (first | (go_at_call 61; (with_reducible refine (HDx.out _ (by repeat (first | exact Ext.refl _ | assumption | (refine Ext.trans ?_ (Ext.alloc _ _)) | (refine Ext.trans ?_ (Ext.drew _)) | (refine Ext.trans ?_ (by assumption)))) _ HX.out).mono ?_); rintro e w7 hr7; obtain ⟨r7, rfl, rfl, e7⟩ := ret_ext hr7; clear hr7) | (go_at_call 52; (with_reducible refine (HFx.out _).mono ?_); rintro e w8 hr8; obtain ⟨r8, rfl, rfl, e8⟩ := ret_ext hr8; clear hr8; have e38 : Ext wr w8 := (by repeat (first | exact Ext.refl _ | assumption | (refine Ext.trans ?_ (Ext.alloc _ _)) | (refine Ext.trans ?_ (Ext.drew _)) | (refine Ext.trans ?_ (by assumption))))) | fail)
          all_goals
            clear HA HDx HFx HX
            cases dq with
            | false =>
              have HH := Lib.hid (HR4d.out rfl)
              obtain rfl := HWnd.out rfl
              clear HWd HWnd HR4d HNxt
              go_wp2_with fail
              go_ret2
              exact ⟨_, rfl, IntCode_mk HH.out, eW.trans (Ext.trans hbK e38)⟩
            | true =>
              obtain ⟨rfl, hW⟩ := HWd.out rfl
              have HNx := Lib.hid (HNxt.out rfl)
              clear HWd HWnd HR4d HNxt
              have hdw0 : ¬ ((dw : Int) < 0) := by omega
              have hsum : IntKind.i64.wrap ((ls : Int) + (dw : Int)) = (ls : Int) + (dw : Int) := IntWalk.i64_in _ (by omega)
              go_wp2_with fail
              go_roundw
              case measure => simp [intOf]; omega
              case rel => exact ⟨d + 1, by omega, by go_num, by rw [HSd.out]; push_cast; rfl, HNx.out, ew.trans (Ext.trans hbK e38)⟩
    · have hdm : m = d := by omega
      subst hdm
      have HH := Lib.hid (HR0.out HAll.out)
      clear c0 c1 c2 c3 c4 c5
      go_wp2_with fail
      go_ret2
      exact ⟨_, rfl, IntCode_mk HH.out, eW⟩

set_option maxRecDepth 20000 in
set_option maxHeartbeats 400000 in
theorem LeastWafersB_c (w : World) (mk : MK) (v : Value) (z : Zone) (t : List (List Int)) (h : RowsR z w v t) (hsys : isSystem mk t = false) :
    Calls Tryz.prog 14 #[sysV mk v] w (Ret w fun r _ => r = IntCode (leastR mk t)) := by
  have HI : Hid (∀ w', Ext w w' → Calls Tryz.prog 59 #[sysV mk v] w' (Ret w' fun r _ => r = .bool false)) := fun w' e => by
    have := IsSystem_c w' mk v z t (stable_rows.ext h e); rwa [hsys] at this
  have HH : Hid (leastR mk t = (0, 1)) := leastR_bad hsys
  obtain ⟨a, n, cap, rfl, -⟩ := SliceR.shape h
  clear h hsys
  unfold sysV at *
  go_enter Tryz.func14, Tryz.ntmps14
  go_wp2_with fail
  generalize hw0 : World.alloc _ _ = w0
  obtain ⟨e0, S0⟩ := sys_box hw0
  clear hw0
  refine Calls.mono (HI.out w0 e0) ?_
  rintro e w1 hr
  obtain ⟨r, rfl, rfl, e1⟩ := ret_ext hr
  clear hr
  go_wp2_with fail
  go_ret2
  exact ⟨_, rfl, IntCode_mk HH.out, e0.trans e1⟩

theorem LeastWafersA_c (w : World) (mk : MK) (v : Value) (z : Zone) (t : List (List Int)) (h : RowsR z w v t) :
    Calls Tryz.prog 14 #[sysV mk v] w (Ret w fun r _ => r = IntCode (leastR mk t)) := by
  cases hs : isSystem mk t with
  | true => exact LeastWafersG_c w mk v z t h hs
  | false => exact LeastWafersB_c w mk v z t h hs

open Go.ChangeShapes Go.WideShapes Go.ChangeAt Go.RowKit
set_option linter.unusedVariables false

set_option maxRecDepth 20000 in
set_option maxHeartbeats 2000000 in
theorem LeastWafersSpecG_c (w : World) (mk : MK) (v : Value) (z : Zone) (t : List (List Int)) (h : RowsR z w v t) (hsys : isSystem mk t = true) :
    Calls Tryz.prog 15 #[sysV mk v] w (Ret w fun r _ => r = IntCode (leastR mk t)) := by
  have hok := sysOk hsys
  have HI : Hid (∀ w', Ext w w' → Calls Tryz.prog 62 #[sysV mk v] w' (Ret w' fun r _ => r = .bool true)) := fun w' e => by
    have := IsSystemSpec_c w' mk v z t (stable_rows.ext h e); rwa [hsys] at this
  have HD : Hid (∀ w' d x, RowsR ⟨0, w'.heap.size, false⟩ w' x (openRows t d) → Calls Tryz.prog 63 #[x] w' (Ret w' fun r _ => r = .int .i64 (diffN (openRows t d) (openRows t d).length : Nat))) := fun w' d x hx => l20Different_c w' x _ _ hx (by have := openRows_lenG t d; have := hok.len; omega)
  have HF : Hid (∀ w' d, Calls Tryz.prog 55 #[mk.v, .int .i64 (diffN (openRows t d) (openRows t d).length : Nat)] w' (Ret w' fun r _ => r = .int .i64 (forD mk t d))) := fun w' d => l20ForG_c w' mk hok.mk1 hok.mk2 _ (by have := diffN_le (openRows t d) (openRows t d).length; have := openRows_lenG t d; have := hok.len; omega)
  have HKS := Lib.hid (fun d n => keysAt_succ t t d n)
  have HK0 : Hid (∀ d, keysAt t t d 0 = []) := fun d => rfl
  have HKA : Hid (∀ d, keysAt t t d t.length = openRows t d) := fun d => rfl
  have HKL := Lib.hid (fun d n => keysAt_len t t d n)
  have HRW : Hid (∀ k, k < t.length → (t.getD k []).length = doorsOf t) := fun k hk => hok.row k hk
  have HS := Lib.hid (fun n => leastTo_succG mk t n)
  have HL : Hid (∀ k, k ≤ 12 → (∀ j, j < k → doorOk mk t j = true) → leastTo mk t k ≤ 504) := fun k hk hj => by have := leastTo_leG hok k hj; show _ ≤ _; omega
  have HW : Hid (∀ d, doorOk mk t d = true → forD mk t d = (doorW mk t d : Int) ∧ doorW mk t d ≤ 42) := fun d hd => ⟨forD_ok hd, doorW_leG hok hd⟩
  have HWn : Hid (∀ d, doorOk mk t d = false → forD mk t d = -1) := fun d hd => forD_no hd
  have HR4 : Hid (∀ d, d < doorsOf t → doorOk mk t d = false → leastR mk t = (0, 4)) := fun d hd h4 => leastR_no hsys hd h4
  have HR0 : Hid ((∀ d, d < doorsOf t → doorOk mk t d = true) → leastR mk t = (((leastTo mk t (doorsOf t) : Nat) : Int), 0)) := fun h => leastR_ok hsys h
  have H0 : Hid (leastTo mk t 0 = 0) := rfl
  have hdr := hok.doors
  have hle1 := hok.len
  generalize hlT : leastTo mk t = lT at *
  generalize hdW : doorW mk t = dW at *
  generalize hfD : forD mk t = fD at *
  generalize hdO : doorOk mk t = dO at *
  generalize hRes : leastR mk t = res at *
  clear hlT hdW hfD hdO hRes
  obtain ⟨a, n, cap, rfl, hn, hmax, -⟩ := SliceR.shape h
  have HC := Lib.hid (fun (k : Nat) (hk : k < n) => rows_at h hk)
  have hn0 : 0 < n := by omega
  obtain ⟨b, off, rfl, a0, m, cp, hm0, hmm, -, hc0, -⟩ := rows_at h hn0
  have Hm : Hid (m = doorsOf t) := hm0
  have Hn : Hid (n = t.length) := hn
  have hm12 : m ≤ 12 := by have := Hm.out; omega
  have hn10 : n ≤ 10 := by omega
  rw [← Hm.out] at HR0 HR4
  clear hn h hok hsys hdr hle1 hm0
  unfold sysV MK.v at *
  have HC0 := Lib.hid hc0
  clear hc0
  go_enter Tryz.func15, Tryz.ntmps15
  go_wp2_with fail
  generalize hw0 : World.alloc _ _ = w0
  obtain ⟨e0, S0⟩ := sys_box hw0
  clear hw0
  refine Calls.mono (HI.out w0 e0) ?_
  rintro e w1 hr
  obtain ⟨r, rfl, rfl, e1⟩ := ret_ext hr
  clear hr
  have et := e0.trans e1
  have HSy := Lib.hid (S0.ext e1)
  obtain ⟨c0, c1, c2, c3, c4, c5⟩ := S0.ext e1
  have hrow := HC0.out w1 et
  rw [Nat.add_zero] at hrow
  clear S0
  go_wp2_with fail
  clear c0 c1 c2 c3 c4 c5 hrow
  go_loopw [4, 5, 6, 7, 8] (fun s4 s18 _ _ _ wr => ∃ d : Nat, d ≤ m ∧ s18 = .int .i64 d ∧ s4 = .int .i64 (lT d : Nat) ∧ (∀ j, j < d → dO j = true) ∧ Ext w1 wr) (fun _ s18 _ _ _ _ => m - (intOf s18).toNat)
  case atStart => exact ⟨0, Nat.zero_le _, rfl, by rw [H0.out]; rfl, fun j hj => absurd hj (Nat.not_lt_zero _), Ext.refl _⟩
  case round =>
    obtain ⟨d, hd, rfl, rfl, hall, ew⟩ := hrel
    have HAll := Lib.hid hall
    clear hall
    have eW : Ext w wr := et.trans ew
    have HS1 := Lib.hid (HSy.out.ext ew)
    obtain ⟨c0, c1, c2, c3, c4, c5⟩ := HS1.out
    have hrow := HC0.out wr eW
    rw [Nat.add_zero] at hrow
    by_cases hlt : d < m
    · have HSd := Lib.hid (HS.out d)
      have HLT : Hid (d < doorsOf t) := by show _ < _; rw [← Hm.out]; exact hlt
      have hL := HL.out d (by omega) HAll.out
      have HWd := Lib.hid (HW.out d)
      have HWnd := Lib.hid (HWn.out d)
      have HR4d := Lib.hid (HR4.out d hlt)
      have HNxt : Hid (dO d = true → ∀ j, j < d + 1 → dO j = true) := fun h j hj => by
        by_cases e : j = d
        · rw [e]; exact h
        · exact HAll.out j (by omega)
      have hltw := World.block_lt_of_cell? _ _ c0
      simp only at hltw
      go_wp2_with fail
      generalize hw2 : World.alloc _ _ = w2
      obtain ⟨e2, o2⟩ : Ext wr w2 ∧ AliasR 41 wr.heap.size w2 (.slice (some ⟨wr.heap.size, 0, none⟩) 0 0) [] := by
        subst hw2
        exact ⟨Ext.alloc _ _, AliasR.empty (Nat.le_refl _)⟩
      have HSz : Hid (w2.heap.size = wr.heap.size + 1) := by show _ = _; rw [← hw2]; simp
      clear hw2
      obtain ⟨wo, rfl⟩ : ∃ wo, wo = wr := ⟨_, rfl⟩
      have hs23 := HSz.out
      have HKd := Lib.hid (HKA.out d)
      have HKs := Lib.hid (HKS.out d)
      have HKl := Lib.hid (HKL.out d)
      have HKz := Lib.hid (HK0.out d)
      have hlt0 : w.heap.size ≤ wo.heap.size := eW.size
      clear c0 c1 c2 c3 c4 c5 hrow
      generalize hkT : keysAt t t d = kT at *
      clear hkT
      go_loopw [6, 7] (fun s6 s26 wr => ∃ j : Nat, j ≤ n ∧ s26 = .int .i64 j ∧ AliasR 41 wo.heap.size wr s6 (kT j) ∧ Below wo.heap.size wo wr) (fun _ s26 _ => n - (intOf s26).toNat)
      case atStart => exact ⟨0, Nat.zero_le _, rfl, by rw [HKz.out]; exact o2, e2⟩
      case round =>
        obtain ⟨j, hj, rfl, ownK, hbK⟩ := hrel
        have eW4 : Ext w wr := eW.trans hbK
        have hsK := hbK.size
        obtain ⟨c0, c1, c2, c3, c4, c5⟩ := HS1.out.all hbK
        by_cases hltj : j < n
        · have hle := HKl.out j
          have HSk := Lib.hid (HKs.out j)
          obtain ⟨b', off', hae, a1', n1', k1', hn1', hm1', -, hc', ⟨yy, -, hy⟩, hel⟩ := HC.out j hltj
          injection hae with hae; injection hae with hae1 hae2 _
          subst hae1; subst hae2
          have hdn : d < n1' := by rw [hn1', HRW.out j (by rw [← Hn.out]; exact hltj)]; exact HLT.out
          obtain ⟨b1, o1', rfl, hx, hc1⟩ := hel d hdn
          have hU := IntsR.free (hy w (Ext.refl _))
          have hUW := stable_ints.ext hU eW4
          replace hc' := hc' wr eW4
          replace hc1 := hc1 wr eW4
          clear hel hn1' hy hU
          generalize (t.getD j []).getD d 0 = x at *
          generalize hup : kT j = up at *
          clear hup
          by_cases hx1 : x = 1
          · have hq : (x == 1) = true := by simpa using hx1
            have HV : Hid (kT (j+1) = up ++ [t.getD j []]) := by show _ = _; rw [HSk.out, if_pos hq]
            clear HSk
            generalize t.getD j [] = row at *
            go_wp2_with (at_builtin; (refine wpList_appendAlias (B := wo.heap.size) (xs := up) (w0 := w) rfl _ _ 30 rfl Tryz.underlying30 Tryz.infoInts rfl ownK (some ⟨b1, o1', none⟩, n1', k1') row hUW (by omega) rfl (by omega) (by omega) ?_); intro v6 w6 hown6 hb6 hg6 hat6)
            go_roundw
            case rel => exact ⟨j + 1, by omega, by go_num, by rw [HV.out]; exact hown6, hbK.trans hb6⟩
            case measure => simp [intOf]; omega
          · have hq : (x == 1) = false := by simpa using hx1
            have HV : Hid (kT (j+1) = up) := by show _ = _; rw [HSk.out, if_neg (by rw [hq]; decide), List.append_nil]
            clear hx1 HSk
            go_wp2_with fail
            go_roundw
            case rel => exact ⟨j + 1, by omega, by go_num, by rw [HV.out]; exact ownK, hbK⟩
            case measure => simp [intOf]; omega
        · have hjr : j = t.length := by have := Hn.out; omega
          have hx := ownK.rows
          rw [hjr, HKd.out] at hx
          have HDx := Lib.hid (fun (w' : World) (e : Ext wr w') (u : Value) (hu : RowsR ⟨0, wr.heap.size, false⟩ wr u (openRows t d)) => HD.out w' d u (stable_rows.sub (stable_rows.ext hu e) ⟨fun k hk => ⟨hk.1, Nat.lt_of_lt_of_le hk.2 e.size⟩, fun h => h⟩))
          have HFx := Lib.hid (fun (w' : World) => HF.out w' d)
          have HX := Lib.hid hx
          obtain ⟨xa, xn, xc, rfl, -⟩ := OwnA.shape ownK
          have HA := Lib.hid (fun (w' : World) (e : Ext wr w') => (HS1.out.ext (Ext.trans hbK e)).all (Ext.refl _))
          generalize diffN (openRows t d) (openRows t d).length = dn at *
          generalize hls : lT d = ls at *
          generalize hdw : dW d = dw at *
          generalize hfd : fD d = fd at *
          generalize hdo : dO d = dq at *
          clear hls hdw hfd hdo hx ownK HKA HKd
          go_wp2_with fail
          go_region_held3 (fun w' => w'.cell? ⟨w.heap.size, 0, none⟩ = some (.int .i64 mk.c) ∧ w'.cell? ⟨w.heap.size, 1, none⟩ = some (.int .i64 mk.d) ∧ w'.cell? ⟨w.heap.size, 2, none⟩ = some (.int .i64 mk.s) ∧ w'.cell? ⟨w.heap.size, 3, none⟩ = some (.int .i64 mk.m) ∧ w'.cell? ⟨w.heap.size, 4, none⟩ = some (.int .i64 mk.l) ∧ w'.cell? ⟨w.heap.size, 5, none⟩ = some (.slice (some ⟨b, off, none⟩) n cap)) (exact HA.out _ (by repeat (first | exact Ext.refl _ | assumption | (refine Ext.trans ?_ (Ext.alloc _ _)) | (refine Ext.trans ?_ (Ext.drew _)) | (refine Ext.trans ?_ (by assumption))))) (first | (go_at_call 63; (with_reducible refine (HDx.out _ (by repeat (first | exact Ext.refl _ | assumption | (refine Ext.trans ?_ (Ext.alloc _ _)) | (refine Ext.trans ?_ (Ext.drew _)) | (refine Ext.trans ?_ (by assumption)))) _ HX.out).mono ?_); rintro e w7 hr7; obtain ⟨r7, rfl, rfl, e7⟩ := ret_ext hr7; clear hr7) | (go_at_call 55; (with_reducible refine (HFx.out _).mono ?_); rintro e w8 hr8; obtain ⟨r8, rfl, rfl, e8⟩ := ret_ext hr8; clear hr8; have e38 : Ext wr w8 := (by repeat (first | exact Ext.refl _ | assumption | (refine Ext.trans ?_ (Ext.alloc _ _)) | (refine Ext.trans ?_ (Ext.drew _)) | (refine Ext.trans ?_ (by assumption))))) | fail)
          all_goals
            clear HA HDx HFx HX
            cases dq with
            | false =>
              have HH := Lib.hid (HR4d.out rfl)
              obtain rfl := HWnd.out rfl
              clear HWd HWnd HR4d HNxt
              go_wp2_with fail
              go_ret2
              exact ⟨_, rfl, IntCode_mk HH.out, eW.trans (Ext.trans hbK e38)⟩
            | true =>
              obtain ⟨rfl, hW⟩ := HWd.out rfl
              have HNx := Lib.hid (HNxt.out rfl)
              clear HWd HWnd HR4d HNxt
              have hdw0 : ¬ ((dw : Int) < 0) := by omega
              have hsum : IntKind.i64.wrap ((ls : Int) + (dw : Int)) = (ls : Int) + (dw : Int) := IntWalk.i64_in _ (by omega)
              go_wp2_with fail
              go_roundw
              case measure => simp [intOf]; omega
              case rel => exact ⟨d + 1, by omega, by go_num, by rw [HSd.out]; push_cast; rfl, HNx.out, ew.trans (Ext.trans hbK e38)⟩
    · have hdm : m = d := by omega
      subst hdm
      have HH := Lib.hid (HR0.out HAll.out)
      go_wp2_with fail
      go_ret2
      exact ⟨_, rfl, IntCode_mk HH.out, eW⟩

set_option maxRecDepth 20000 in
set_option maxHeartbeats 400000 in
theorem LeastWafersSpecB_c (w : World) (mk : MK) (v : Value) (z : Zone) (t : List (List Int)) (h : RowsR z w v t) (hsys : isSystem mk t = false) :
    Calls Tryz.prog 15 #[sysV mk v] w (Ret w fun r _ => r = IntCode (leastR mk t)) := by
  have HI : Hid (∀ w', Ext w w' → Calls Tryz.prog 62 #[sysV mk v] w' (Ret w' fun r _ => r = .bool false)) := fun w' e => by
    have := IsSystemSpec_c w' mk v z t (stable_rows.ext h e); rwa [hsys] at this
  have HH : Hid (leastR mk t = (0, 1)) := leastR_bad hsys
  obtain ⟨a, n, cap, rfl, -⟩ := SliceR.shape h
  clear h hsys
  unfold sysV at *
  go_enter Tryz.func15, Tryz.ntmps15
  go_wp2_with fail
  generalize hw0 : World.alloc _ _ = w0
  obtain ⟨e0, S0⟩ := sys_box hw0
  clear hw0
  refine Calls.mono (HI.out w0 e0) ?_
  rintro e w1 hr
  obtain ⟨r, rfl, rfl, e1⟩ := ret_ext hr
  clear hr
  go_wp2_with fail
  go_ret2
  exact ⟨_, rfl, IntCode_mk HH.out, e0.trans e1⟩

theorem LeastWafersSpecA_c (w : World) (mk : MK) (v : Value) (z : Zone) (t : List (List Int)) (h : RowsR z w v t) :
    Calls Tryz.prog 15 #[sysV mk v] w (Ret w fun r _ => r = IntCode (leastR mk t)) := by
  cases hs : isSystem mk t with
  | true => exact LeastWafersSpecG_c w mk v z t h hs
  | false => exact LeastWafersSpecB_c w mk v z t h hs
end Go.Proofs.YthgmojggpjnckaaGreat
