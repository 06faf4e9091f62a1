/- Proved: whether two lists are the same, slices.Equal; whether two lists, two locks are the same, program and reference; SharedLocks, program and reference. -/
import Derived.Test.YthgmojggpjnckaaGreatChecked
import Derived.Deep.DeepCutAuto
import Derived.Test.YthgmojggpjnckaaGreatUPkD
import Derived.Test.YthgmojggpjnckaaGreatUPkA
import Derived.Test.YthgmojggpjnckaaGreatUPkC
namespace Go.Proofs.YthgmojggpjnckaaGreat
open Go.ChangeShapes Go.WideShapes Go.ChangeAt Go.RowKit
set_option linter.unusedVariables false

theorem eq_of_getD {α : Type} (d : α) {a b : List α} (h : a.length = b.length) (h2 : ∀ i, i < a.length → a.getD i d = b.getD i d) : a = b := by
  refine List.ext_getElem h (fun i h1 h3 => ?_)
  have := h2 i h1
  simpa [h1, h3] using this
theorem ne_of_getD {α : Type} [DecidableEq α] (d : α) {a b : List α} (i : Nat) (h : a.getD i d ≠ b.getD i d) : decide (a = b) = false := decide_eq_false (fun e => h (by rw [e]))
theorem ne_of_len {α : Type} [DecidableEq α] {a b : List α} (h : a.length ≠ b.length) : decide (a = b) = false := decide_eq_false (fun e => h (by rw [e]))

set_option maxHeartbeats 400000 in
theorem EqualInts_c (w : World) (u v : Value) (y z : Zone) (xs ys : List Int) (hx : IntsR y w u xs) (hy : IntsR z w v ys) :
    Calls Tryz.prog 121 #[u, v] w (RetQ w (.bool (decide (xs = ys)))) := by
  have HL : Hid (xs.length ≠ ys.length → decide (xs = ys) = false) := ne_of_len
  have HN : Hid (∀ i, xs.getD i 0 ≠ ys.getD i 0 → decide (xs = ys) = false) := fun i h => ne_of_getD 0 i h
  have HY : Hid (xs.length = ys.length → (∀ i, i < xs.length → xs.getD i 0 = ys.getD i 0) → decide (xs = ys) = true) := fun h h2 => decide_eq_true (eq_of_getD 0 h h2)
  generalize decide (xs = ys) = res at *
  obtain ⟨a, n, cap, rfl, hn, hmax, -⟩ := SliceR.shape hx
  obtain ⟨a2, n2, cap2, rfl, hn2, hmax2, -⟩ := SliceR.shape hy
  have HX := Lib.hid (fun (k : Nat) (hk : k < n) => ints_at hx hk)
  have HYY := Lib.hid (fun (k : Nat) (hk : k < n2) => ints_at hy hk)
  have Hn := Lib.hid hn
  have Hn2 := Lib.hid hn2
  clear hn hn2 hx hy
  go_enter Tryz.func121, Tryz.ntmps121
  by_cases hl : n = n2
  · subst hl
    go_wp2_with fail
    go_loopw [5, 13] (fun _ s13 wr => ∃ k : Nat, k ≤ n ∧ s13 = .int .i64 k ∧ (∀ i, i < k → xs.getD i 0 = ys.getD i 0) ∧ Drew w wr) (fun _ s13 _ => n - (intOf s13).toNat)
    case atStart => exact ⟨0, Nat.zero_le _, rfl, by simp, Drew.refl _⟩
    case round =>
      obtain ⟨k, hk, rfl, hall, hd⟩ := hrel
      have Hall := Lib.hid hall
      clear hall
      by_cases hlt : k < n
      · obtain ⟨b, off, rfl, -, hc⟩ := HX.out k hlt
        obtain ⟨b2, off2, rfl, -, hc2⟩ := HYY.out k hlt
        replace hc := hc wr (Ext.ofDrew hd)
        replace hc2 := hc2 wr (Ext.ofDrew hd)
        have HNk := Lib.hid (HN.out k)
        have Hgo : Hid (xs.getD k 0 = ys.getD k 0 → ∀ i, i < k + 1 → xs.getD i 0 = ys.getD i 0) := fun h j hj => by
          by_cases e : j = k
          · rw [e]; exact h
          · exact Hall.out j (by omega)
        generalize xs.getD k 0 = x at *
        generalize ys.getD k 0 = y at *
        by_cases hxy : x = y
        · have HG := Lib.hid (Hgo.out hxy)
          have hb : (x != y) = false := by simpa using hxy
          clear hxy Hgo HNk
          go_wp2_with fail
          go_quiet (fail)
          go_wp2_with fail
          go_roundw
          case rel => exact ⟨k+1, by omega, by go_num, HG.out, hd.drewN _⟩
          case measure => simp [intOf]; omega
        · have HG := Lib.hid (HNk.out hxy)
          have hb : (x != y) = true := by simpa using hxy
          clear hxy Hgo HNk
          go_wp2_with fail
          go_quiet (fail)
          go_wp2_with fail
          go_ret
          exact ⟨ret_bool' HG.out, hd.drewN _⟩
      · have HG : Hid (res = true) := HY.out (by rw [← Hn.out, ← Hn2.out]) (fun i hi => Hall.out i (by have := Hn.out; omega))
        go_wp2_with fail
        go_ret
        exact ⟨ret_bool' HG.out, hd⟩
  · have hb : ((n : Int) != (n2 : Int)) = true := by rw [bne_iff_ne]; omega
    have HG := Lib.hid (HL.out (by rw [← Hn.out, ← Hn2.out]; exact hl))
    clear hl
    go_wp2_with fail
    go_ret
    exact ⟨ret_bool' HG.out, Drew.refl _⟩

open Go.ChangeShapes Go.WideShapes Go.ChangeAt Go.RowKit
set_option linter.unusedVariables false

set_option maxHeartbeats 400000 in
theorem l01Same_c (w : World) (u v : Value) (y z : Zone) (xs ys : List Int) (hx : IntsR y w u xs) (hy : IntsR z w v ys) :
    Calls Tryz.prog 122 #[u, v] w (RetQ w (.bool (decide (xs = ys)))) := by
  have HL : Hid (xs.length ≠ ys.length → decide (xs = ys) = false) := ne_of_len
  have HN : Hid (∀ i, xs.getD i 0 ≠ ys.getD i 0 → decide (xs = ys) = false) := fun i h => ne_of_getD 0 i h
  have HY : Hid (xs.length = ys.length → (∀ i, i < xs.length → xs.getD i 0 = ys.getD i 0) → decide (xs = ys) = true) := fun h h2 => decide_eq_true (eq_of_getD 0 h h2)
  generalize decide (xs = ys) = res at *
  obtain ⟨a, n, cap, rfl, hn, hmax, -⟩ := SliceR.shape hx
  obtain ⟨a2, n2, cap2, rfl, hn2, hmax2, -⟩ := SliceR.shape hy
  have HX := Lib.hid (fun (k : Nat) (hk : k < n) => ints_at hx hk)
  have HYY := Lib.hid (fun (k : Nat) (hk : k < n2) => ints_at hy hk)
  have Hn := Lib.hid hn
  have Hn2 := Lib.hid hn2
  clear hn hn2 hx hy
  go_enter Tryz.func122, Tryz.ntmps122
  by_cases hl : n = n2
  · subst hl
    go_wp2_with fail
    go_loopw [5] (fun s5 wr => ∃ k : Nat, k ≤ n ∧ s5 = .int .i64 k ∧ (∀ i, i < k → xs.getD i 0 = ys.getD i 0) ∧ Drew w wr) (fun s5 _ => n - (intOf s5).toNat)
    case atStart => exact ⟨0, Nat.zero_le _, rfl, by simp, Drew.refl _⟩
    case round =>
      obtain ⟨k, hk, rfl, hall, hd⟩ := hrel
      have Hall := Lib.hid hall
      clear hall
      by_cases hlt : k < n
      · obtain ⟨b, off, rfl, -, hc⟩ := HX.out k hlt
        obtain ⟨b2, off2, rfl, -, hc2⟩ := HYY.out k hlt
        replace hc := hc wr (Ext.ofDrew hd)
        replace hc2 := hc2 wr (Ext.ofDrew hd)
        have HNk := Lib.hid (HN.out k)
        have Hgo : Hid (xs.getD k 0 = ys.getD k 0 → ∀ i, i < k + 1 → xs.getD i 0 = ys.getD i 0) := fun h j hj => by
          by_cases e : j = k
          · rw [e]; exact h
          · exact Hall.out j (by omega)
        generalize xs.getD k 0 = x at *
        generalize ys.getD k 0 = y at *
        by_cases hxy : x = y
        · have HG := Lib.hid (Hgo.out hxy)
          have hb : (x != y) = false := by simpa using hxy
          clear hxy Hgo HNk
          go_wp2_with fail
          go_quiet (fail)
          go_wp2_with fail
          go_roundw
          case rel => exact ⟨k+1, by omega, by go_num, HG.out, hd.drewN _⟩
          case measure => simp [intOf]; omega
        · have HG := Lib.hid (HNk.out hxy)
          have hb : (x != y) = true := by simpa using hxy
          clear hxy Hgo HNk
          go_wp2_with fail
          go_quiet (fail)
          go_wp2_with fail
          go_ret
          exact ⟨ret_bool' HG.out, hd.drewN _⟩
      · have HG : Hid (res = true) := HY.out (by rw [← Hn.out, ← Hn2.out]) (fun i hi => Hall.out i (by have := Hn.out; omega))
        go_wp2_with fail
        go_ret
        exact ⟨ret_bool' HG.out, hd⟩
  · have hb : ((n : Int) != (n2 : Int)) = true := by rw [bne_iff_ne]; omega
    have HG := Lib.hid (HL.out (by rw [← Hn.out, ← Hn2.out]; exact hl))
    clear hl
    go_wp2_with fail
    go_ret
    exact ⟨ret_bool' HG.out, Drew.refl _⟩

theorem Tryz.goesSameLock1 : Goes Tryz.prog 120 := goes_of Tryz.func120 (by kernel_rfl) (by kernel_rfl)
theorem sameLock1_c (w : World) (u v : Value) (y z : Zone) (xs ys : List Int) (hx : IntsR y w u xs) (hy : IntsR z w v ys) :
    Calls Tryz.prog 120 #[u, v] w (RetQ w (.bool (decide (xs = ys)))) := by
  have hcall := EqualInts_c w u v y z xs ys hx hy
  generalize decide (xs = ys) = q at *
  obtain ⟨a, n, cap, rfl, -⟩ := SliceR.shape hx
  obtain ⟨a2, n2, cap2, rfl, -⟩ := SliceR.shape hy
  clear hx hy
  go_enter Tryz.func120, Tryz.ntmps120
  go_wp2_with fail
  refine Calls.mono hcall ?_
  rintro e w2 ⟨rfl, hd2⟩
  go_wp2_with fail
  go_ret
  exact ⟨rfl, hd2⟩

set_option maxRecDepth 20000 in
set_option maxHeartbeats 800000 in
theorem EqualFuncRows_c (w : World) (u v : Value) (y z : Zone) (xs ys : List (List Int)) (hx : RowsR y w u xs) (hy : RowsR z w v ys) :
    Calls Tryz.prog 119 #[u, v, .func (.func 120) #[] #[]] w (RetQ w (.bool (decide (xs = ys)))) := by
  have HL : Hid (xs.length ≠ ys.length → decide (xs = ys) = false) := ne_of_len
  have HN : Hid (∀ i, xs.getD i [] ≠ ys.getD i [] → decide (xs = ys) = false) := fun i h => ne_of_getD [] i h
  have HY : Hid (xs.length = ys.length → (∀ i, i < xs.length → xs.getD i [] = ys.getD i []) → decide (xs = ys) = true) := fun h h2 => decide_eq_true (eq_of_getD [] h h2)
  generalize decide (xs = ys) = res at *
  obtain ⟨a, n, cap, rfl, hn, hmax, -⟩ := SliceR.shape hx
  obtain ⟨a2, n2, cap2, rfl, hn2, hmax2, -⟩ := SliceR.shape hy
  have HX := Lib.hid (fun (k : Nat) (hk : k < n) => rows_at hx hk)
  have HYY := Lib.hid (fun (k : Nat) (hk : k < n2) => rows_at hy hk)
  have Hn := Lib.hid hn
  have Hn2 := Lib.hid hn2
  clear hn hn2 hx hy
  go_enter Tryz.func119, Tryz.ntmps119
  by_cases hl : n = n2
  · subst hl
    go_wp2_with fail
    have hF := Tryz.goesSameLock1
    unfold Goes at hF
    go_loopw [7, 8, 9, 17] (fun _ _ _ s17 wr => ∃ k : Nat, k ≤ n ∧ s17 = .int .i64 k ∧ (∀ i, i < k → xs.getD i [] = ys.getD i []) ∧ Drew w wr) (fun _ _ _ s17 _ => n - (intOf s17).toNat)
    case atStart => exact ⟨0, Nat.zero_le _, rfl, by simp, Drew.refl _⟩
    case round =>
      obtain ⟨k, hk, rfl, hall, hd⟩ := hrel
      have Hall := Lib.hid hall
      clear hall
      by_cases hlt : k < n
      · obtain ⟨b, off, rfl, b1, n1, k1, -, -, -, hc, ⟨y1, -, hy1⟩, -⟩ := HX.out k hlt
        obtain ⟨b2, off2, rfl, b3, n3, k3, -, -, -, hc2, ⟨y3, -, hy3⟩, -⟩ := HYY.out k hlt
        replace hc := hc wr (Ext.ofDrew hd)
        replace hc2 := hc2 wr (Ext.ofDrew hd)
        have HNk := Lib.hid (HN.out k)
        have Hgo : Hid (xs.getD k [] = ys.getD k [] → ∀ i, i < k + 1 → xs.getD i [] = ys.getD i []) := fun h j hj => by
          by_cases e : j = k
          · rw [e]; exact h
          · exact Hall.out j (by omega)
        generalize xs.getD k [] = x at *
        generalize ys.getD k [] = yy at *
        have hcall := sameLock1_c wr _ _ y1 y3 x yy (hy1 wr (Ext.ofDrew hd)) (hy3 wr (Ext.ofDrew hd))
        clear hy1 hy3
        by_cases hxy : x = yy
        · have HG := Lib.hid (Hgo.out hxy)
          rw [decide_eq_true hxy] at hcall
          clear hxy Hgo HNk
          go_wp2_with fail
          refine Calls.mono hcall ?_
          rintro e w2 ⟨rfl, hd2⟩
          clear hcall
          go_wp2_with fail
          go_roundw
          case rel => exact ⟨k+1, by omega, by go_num, HG.out, hd.trans hd2⟩
          case measure => simp [intOf]; omega
        · have HG := Lib.hid (HNk.out hxy)
          rw [decide_eq_false hxy] at hcall
          clear hxy Hgo HNk
          go_wp2_with fail
          refine Calls.mono hcall ?_
          rintro e w2 ⟨rfl, hd2⟩
          clear hcall
          go_wp2_with fail
          go_ret
          exact ⟨ret_bool' HG.out, hd.trans hd2⟩
      · have HG : Hid (res = true) := HY.out (by rw [← Hn.out, ← Hn2.out]) (fun i hi => Hall.out i (by have := Hn.out; omega))
        go_wp2_with fail
        go_ret
        exact ⟨ret_bool' HG.out, hd⟩
  · have hb : ((n : Int) != (n2 : Int)) = true := by rw [bne_iff_ne]; omega
    have HG := Lib.hid (HL.out (by rw [← Hn.out, ← Hn2.out]; exact hl))
    clear hl
    go_wp2_with fail
    go_ret
    exact ⟨ret_bool' HG.out, Drew.refl _⟩

set_option maxRecDepth 20000 in
set_option maxHeartbeats 800000 in
theorem l05Same_c (w : World) (u v : Value) (y z : Zone) (xs ys : List (List Int)) (hx : RowsR y w u xs) (hy : RowsR z w v ys) :
    Calls Tryz.prog 88 #[u, v] w (RetQ w (.bool (decide (xs = ys)))) := by
  have HL : Hid (xs.length ≠ ys.length → decide (xs = ys) = false) := ne_of_len
  have HN : Hid (∀ i, xs.getD i [] ≠ ys.getD i [] → decide (xs = ys) = false) := fun i h => ne_of_getD [] i h
  have HY : Hid (xs.length = ys.length → (∀ i, i < xs.length → xs.getD i [] = ys.getD i []) → decide (xs = ys) = true) := fun h h2 => decide_eq_true (eq_of_getD [] h h2)
  generalize decide (xs = ys) = res at *
  obtain ⟨a, n, cap, rfl, hn, hmax, -⟩ := SliceR.shape hx
  obtain ⟨a2, n2, cap2, rfl, hn2, hmax2, -⟩ := SliceR.shape hy
  have HX := Lib.hid (fun (k : Nat) (hk : k < n) => rows_at hx hk)
  have HYY := Lib.hid (fun (k : Nat) (hk : k < n2) => rows_at hy hk)
  have Hn := Lib.hid hn
  have Hn2 := Lib.hid hn2
  clear hn hn2 hx hy
  go_enter Tryz.func88, Tryz.ntmps88
  by_cases hl : n = n2
  · subst hl
    go_wp2_with fail
    go_loopw [5] (fun s5 wr => ∃ k : Nat, k ≤ n ∧ s5 = .int .i64 k ∧ (∀ i, i < k → xs.getD i [] = ys.getD i []) ∧ Drew w wr) (fun s5 _ => n - (intOf s5).toNat)
    case atStart => exact ⟨0, Nat.zero_le _, rfl, by simp, Drew.refl _⟩
    case round =>
      obtain ⟨k, hk, rfl, hall, hd⟩ := hrel
      have Hall := Lib.hid hall
      clear hall
      by_cases hlt : k < n
      · obtain ⟨b, off, rfl, b1, n1, k1, -, -, -, hc, ⟨y1, -, hy1⟩, -⟩ := HX.out k hlt
        obtain ⟨b2, off2, rfl, b3, n3, k3, -, -, -, hc2, ⟨y3, -, hy3⟩, -⟩ := HYY.out k hlt
        replace hc := hc wr (Ext.ofDrew hd)
        replace hc2 := hc2 wr (Ext.ofDrew hd)
        have HNk := Lib.hid (HN.out k)
        have Hgo : Hid (xs.getD k [] = ys.getD k [] → ∀ i, i < k + 1 → xs.getD i [] = ys.getD i []) := fun h j hj => by
          by_cases e : j = k
          · rw [e]; exact h
          · exact Hall.out j (by omega)
        generalize xs.getD k [] = x at *
        generalize ys.getD k [] = yy at *
        have hcall := fun (m : Nat) => l01Same_c (wr.drewN m) _ _ y1 y3 x yy (hy1 _ (Ext.ofDrew (hd.drewN m))) (hy3 _ (Ext.ofDrew (hd.drewN m)))
        clear hy1 hy3
        by_cases hxy : x = yy
        · have HG := Lib.hid (Hgo.out hxy)
          rw [decide_eq_true hxy] at hcall
          have HC := Lib.hid hcall
          clear hxy Hgo HNk hcall
          go_wp2_with fail
          go_quiet ((go_at_call 122; exact RetQ.quiet (HC.out _)))
          go_wp2_with fail
          go_roundw
          case rel => exact ⟨k+1, by omega, by go_num, HG.out, hd.drewN _⟩
          case measure => simp [intOf]; omega
        · have HG := Lib.hid (HNk.out hxy)
          rw [decide_eq_false hxy] at hcall
          have HC := Lib.hid hcall
          clear hxy Hgo HNk hcall
          go_wp2_with fail
          go_quiet ((go_at_call 122; exact RetQ.quiet (HC.out _)))
          go_wp2_with fail
          go_ret
          exact ⟨ret_bool' HG.out, hd.drewN _⟩
      · have HG : Hid (res = true) := HY.out (by rw [← Hn.out, ← Hn2.out]) (fun i hi => Hall.out i (by have := Hn.out; omega))
        go_wp2_with fail
        go_ret
        exact ⟨ret_bool' HG.out, hd⟩
  · have hb : ((n : Int) != (n2 : Int)) = true := by rw [bne_iff_ne]; omega
    have HG := Lib.hid (HL.out (by rw [← Hn.out, ← Hn2.out]; exact hl))
    clear hl
    go_wp2_with fail
    go_ret
    exact ⟨ret_bool' HG.out, Drew.refl _⟩

theorem sameLock_c (w : World) (u v : Value) (y z : Zone) (xs ys : List (List Int)) (hx : RowsR y w u xs) (hy : RowsR z w v ys) :
    Calls Tryz.prog 86 #[.agg #[u], .agg #[v]] w (Ret w fun r _ => r = .bool (decide (xs = ys))) := by
  have HC := Lib.hid (fun (w' : World) (e : Ext w w') => EqualFuncRows_c w' u v y z xs ys (stable_rows.ext hx e) (stable_rows.ext hy e))
  generalize decide (xs = ys) = q at *
  obtain ⟨a, n, cap, rfl, -⟩ := SliceR.shape hx
  obtain ⟨a2, n2, cap2, rfl, -⟩ := SliceR.shape hy
  clear hx hy
  go_enter Tryz.func86, Tryz.ntmps86
  go_wp2_with fail
  generalize hw0 : World.alloc _ _ = w0
  have e0 : Ext w w0 := by rw [← hw0]; exact (Ext.alloc _ _).trans (Ext.alloc _ _)
  clear hw0
  refine Calls.mono (HC.out w0 e0) ?_
  rintro e w2 ⟨rfl, hd2⟩
  go_wp2_with fail
  go_ret
  exact ⟨_, rfl, rfl, e0.trans (Ext.ofDrew hd2)⟩

open Go.ChangeShapes Go.WideShapes Go.ChangeAt Go.RowKit
set_option linter.unusedVariables false

def firstSame (ls : List (List (List Int))) (k : Nat) : Nat := firstIdx (fun l => decide (ls.getD k [] = l)) ls
def sharedB (ls : List (List (List Int))) (n : Nat) : List Int := (List.range n).map fun k => (firstSame ls k : Int)
theorem sharedB_succ (ls : List (List (List Int))) (n : Nat) : sharedB ls (n+1) = sharedB ls n ++ [(firstSame ls n : Int)] := by
  unfold sharedB; rw [List.range_succ, List.map_append]; rfl
theorem sharedB_len (ls : List (List (List Int))) (n : Nat) : (sharedB ls n).length = n := by simp [sharedB]
theorem firstSame_le {ls : List (List (List Int))} {k : Nat} : firstSame ls k ≤ ls.length := firstIdx_le _ _
theorem firstSame_at {ls : List (List (List Int))} {k j : Nat} (hj : j < ls.length) (h : ls.getD k [] = ls.getD j []) (hb : ∀ i, i < j → ls.getD k [] ≠ ls.getD i []) : firstSame ls k = j := by
  have e : ∀ i (hi : i < ls.length), ls.getD i [] = ls[i] := fun i hi => by simp [hi]
  refine firstIdx_at _ ls j hj ?_ (fun i hi hij => ?_)
  · rw [← e j hj]; exact decide_eq_true h
  · rw [← e i hi]; exact decide_eq_false (hb i hij)
theorem firstSame_idx {ls : List (List (List Int))} {k : Nat} (hk : k < ls.length) : idxR (fun l => decide (ls.getD k [] = l)) ls = (firstSame ls k : Int) := by
  have ha : (ls.any fun l => decide (ls.getD k [] = l)) = true := by
    rw [List.any_eq_true]
    exact ⟨ls[k], List.getElem_mem hk, decide_eq_true (by simp [hk])⟩
  have h1 := firstIdx_any (fun l => decide (ls.getD k [] = l)) ls
  rw [ha] at h1
  have h2 := of_decide_eq_true h1
  unfold idxR firstSame
  rw [if_pos h2]
theorem shared_i64 {ls : List (List (List Int))} (h : ls.length ≤ 12) (n : Nat) : ∀ x ∈ sharedB ls n, I64 x := fun x hx => by
  unfold sharedB at hx
  obtain ⟨k, -, rfl⟩ := List.mem_map.1 hx
  have := firstSame_le (ls := ls) (k := k)
  unfold I64
  omega
def sharedOf (mk : MK) (t cuts : List (List Int)) : List Int × Int := if designCode mk t cuts = 0 then (sharedB (locks mk t cuts) (doorsOf t), 0) else ([], designCode mk t cuts)
theorem sharedOf_bad {mk : MK} {t cuts : List (List Int)} (h : designCode mk t cuts ≠ 0) : sharedOf mk t cuts = ([], designCode mk t cuts) := by unfold sharedOf; rw [if_neg h]
theorem sharedOf_ok {mk : MK} {t cuts : List (List Int)} (h : designCode mk t cuts = 0) : sharedOf mk t cuts = (sharedB (locks mk t cuts) (doorsOf t), 0) := by unfold sharedOf; rw [if_pos h]
theorem sharedOf_length (mk : MK) (t cuts : List (List Int)) : ((sharedOf mk t cuts).1.length : Int) ≤ 1048576 := by
  by_cases h : designCode mk t cuts = 0
  · rw [sharedOf_ok h]
    have := (designCode_zero h).doors
    show ((sharedB _ _).length : Int) ≤ _
    rw [sharedB_len]
    omega
  · rw [sharedOf_bad h]; simp

theorem Tryz.goesShared1 : Goes Tryz.prog 85 := goes_of Tryz.func85 (by kernel_rfl) (by kernel_rfl)
theorem shared1_c (w : World) (u v : Value) (y z : Zone) (xs ys : List (List Int)) (hx : RowsR y w u xs) (hy : RowsR z w v ys) (b : Nat) (hb : w.cell? ⟨b, 0, none⟩ = some u) :
    Calls Tryz.prog 85 #[.agg #[v], .pointer (some ⟨b, 0, none⟩)] w (Ret w fun r _ => r = .bool (decide (xs = ys))) := by
  have HC := Lib.hid (fun (w' : World) (e : Ext w w') => sameLock_c w' u v y z xs ys (stable_rows.ext hx e) (stable_rows.ext hy e))
  generalize decide (xs = ys) = q at *
  have hbl : b < w.heap.size := World.block_lt_of_cell? _ _ hb
  obtain ⟨a, n, cap, rfl, -⟩ := SliceR.shape hx
  obtain ⟨a2, n2, cap2, rfl, -⟩ := SliceR.shape hy
  clear hx hy
  go_enter Tryz.func85, Tryz.ntmps85
  go_wp2_with fail
  generalize hw0 : World.alloc _ _ = w0
  have e0 : Ext w w0 := by rw [← hw0]; exact Ext.alloc _ _
  clear hw0
  refine Calls.mono (HC.out w0 e0) ?_
  rintro e w2 hr
  obtain ⟨r, rfl, rfl, e2⟩ := ret_ext hr
  go_wp2_with fail
  go_ret
  exact ⟨_, rfl, rfl, e0.trans e2⟩

set_option maxRecDepth 20000 in
set_option maxHeartbeats 400000 in
theorem IndexFuncLocks_c (w : World) (v : Value) (z : Zone) (xs : List (List (List Int))) (h : LocksR z w v xs) (F : FuncId) (hF : Goes Tryz.prog F) (caps : Array Value) (p : List (List Int) → Bool)
    (hf : ∀ i (hi : i < xs.length) (w1 : World) (u : Value) (y : Zone), Ext w w1 → RowsR y w1 u xs[i] → Calls Tryz.prog F (#[.agg #[u]] ++ caps) w1 (Ret w1 fun r _ => r = .bool (p xs[i]))) :
    Calls Tryz.prog 84 #[v, .func (.func F) #[] caps] w (Ret w fun r _ => r = .int .i64 (idxR p xs)) := by
  obtain ⟨a, n, cap, rfl, hn, hmax, -⟩ := SliceR.shape h
  have HL := Lib.hid (fun (k : Nat) (hk : k < n) => locks_at h hk)
  have Hn := Lib.hid hn; clear hn h
  have Hf := Lib.hid hf; clear hf
  unfold Goes at hF
  go_enter Tryz.func84, Tryz.ntmps84
  go_wp2
  go_loopw [5, 8] (fun _ t wr => ∃ k : Nat, k ≤ n ∧ t = .int .i64 k ∧ (∀ j (hj : j < xs.length), j < k → p xs[j] = false) ∧ Ext w wr) (fun _ t _ => n - (intOf t).toNat)
  case atStart => exact ⟨0, Nat.zero_le _, rfl, by simp, Ext.refl _⟩
  case round =>
    obtain ⟨k, hk, rfl, hall, hb⟩ := hrel
    have Hall := Lib.hid hall; clear hall
    by_cases hlt : k < n
    · have l1 : k < xs.length := by rw [← Hn.out]; exact hlt
      obtain ⟨bl, ol, rfl, a3, n3, k3, -, hcl, yl, -, hyl⟩ := HL.out k hlt
      have hc := hcl wr hb
      have Hgo : Hid (p xs[k] = false → ∀ j (hj : j < xs.length), j < k + 1 → p xs[j] = false) := fun hp j hj hjk => by
        by_cases e : j = k
        · subst e; exact hp
        · exact Hall.out j hj (by omega)
      have Hyes : Hid (p xs[k] = true → idxR p xs = k) := fun hp => idxR_at p xs k l1 hp Hall.out
      have hge : xs.getD k [] = xs[k] := by simp [l1]
      have hyk := hyl wr hb
      rw [hge] at hyk
      have hcall := Hf.out k l1 wr _ _ hb hyk
      generalize p xs[k] = y at *
      clear Hall hyl hcl hyk hge
      cases y with
      | true =>
        go_wp2_with fail
        refine Calls.mono hcall ?_
        rintro e w2 ⟨r, rfl, rfl, hb2⟩
        clear hcall
        go_wp2_with fail
        go_ret
        exact ⟨_, rfl, congrArg _ (Hyes.out (by simp)).symm, hb.trans hb2⟩
      | false =>
        go_wp2_with fail
        refine Calls.mono hcall ?_
        rintro e w2 ⟨r, rfl, rfl, hb2⟩
        clear hcall
        go_wp2_with fail
        go_roundw
        case rel => exact ⟨k + 1, by omega, by go_num, Hgo.out (by simp), hb.trans hb2⟩
        case measure => simp [intOf]; omega
    · have hkn : k = n := by omega
      go_wp2
      go_ret
      exact ⟨_, rfl, congrArg _ (idxR_none p xs (fun j hj => Hall.out j hj (by rw [hkn, Hn.out]; exact hj))).symm, hb⟩

set_option maxRecDepth 20000 in
set_option maxHeartbeats 1000000 in
theorem SharedLocks_c (w : World) (mk : MK) (v : Value) (z : Zone) (t : List (List Int)) (h : RowsR z w v t) (u : Value) (y : Zone) (cuts : List (List Int)) (hc : RowsR y w u cuts) :
    Calls Tryz.prog 31 #[sysV mk v, u] w (Ret w (IntsCode w (sharedOf mk t cuts))) := by
  have H1 : Hid (designCode mk t cuts ≠ 0 → sharedOf mk t cuts = ([], designCode mk t cuts)) := sharedOf_bad
  have H2 : Hid (designCode mk t cuts = 0 → sharedOf mk t cuts = (sharedB (locks mk t cuts) (doorsOf t), 0)) := sharedOf_ok
  have HOk : Hid (designCode mk t cuts = 0 → PartOk mk t cuts) := fun h => (designCode_zero h).toPartOk
  have HC1 := Lib.hid (fun (w' : World) (e : Ext w w') => designCode_c w' mk v z t (stable_rows.ext h e) u y cuts (stable_rows.ext hc e))
  have HC2 := Lib.hid (fun (ok : PartOk mk t cuts) (w' : World) (e : Ext w w') => partLocks_c w' mk v z t (stable_rows.ext h e) u y cuts (stable_rows.ext hc e) ok)
  have HLL := Lib.hid (locks_len mk t cuts)
  have HD : Hid (designCode mk t cuts = 0 → doorsOf t ≤ 12) := fun h => (designCode_zero h).doors.2
  generalize sharedOf mk t cuts = res at *
  generalize designCode mk t cuts = dc at *
  generalize locks mk t cuts = ls at *
  obtain ⟨a, n, cap, rfl, -⟩ := SliceR.shape h
  obtain ⟨a2, n2, cap2, rfl, -⟩ := SliceR.shape hc
  clear h hc
  unfold sysV at *
  go_enter Tryz.func31, Tryz.ntmps31
  go_wp2_with fail
  generalize hw0 : World.alloc _ _ = w0
  obtain ⟨e0, S0⟩ := sys_box hw0
  clear hw0
  have HS := Lib.hid S0
  clear S0
  refine Calls.mono (HC1.out w0 e0) ?_
  rintro e w1 hr
  obtain ⟨r, rfl, rfl, e1⟩ := ret_ext hr
  clear hr
  have et := e0.trans e1
  have hs0 := HS.out.lt
  obtain ⟨c0, c1, c2, c3, c4, c5⟩ := HS.out.all e1
  have hlt0 : w.heap.size < w1.heap.size := Ext.lt e1 hs0
  by_cases hd : dc = 0
  · have hb : (dc != 0) = false := by rw [hd]; rfl
    have HH := Lib.hid (H2.out hd)
    have ok := HOk.out hd
    have hd12 := HD.out hd
    have HC2' := Lib.hid (HC2.out ok)
    clear hd H1 H2 HOk HC2 ok HD
    go_wp2_with fail
    generalize hwx : World.alloc _ _ = wx
    obtain ⟨ex, ox⟩ : Ext w1 wx ∧ OwnP (Value.int .i64) 2 w1.heap.size wx (.slice (some ⟨w1.heap.size, 0, none⟩) 0 0) [] := by
      subst hwx
      exact ⟨Ext.alloc _ _, OwnP.empty (Nat.le_refl _)⟩
    have HIx : Hid (wx.heap.size = w1.heap.size + 1) := by show _ = _; rw [← hwx]; simp
    clear hwx
    refine Calls.mono (HC2'.out wx (et.trans ex)) ?_
    rintro e w2 hr
    obtain ⟨r, rfl, hL, e2⟩ := ret_ext hr
    clear hr HC2'
    have o2 := ox.ext e2
    clear ox
    obtain ⟨la, ln, lc, rfl, hln, hlmax, -⟩ := SliceR.shape hL
    have Hln : Hid (ln = ls.length) := hln
    have hl12 : ln ≤ 12 := by have := HLL.out; omega
    have Hld : Hid (ln = doorsOf t) := by show _ = _; rw [hln, HLL.out]
    have HLk := Lib.hid hL
    clear hL hln
    have hs2 := e2.size
    have hoff : Off (.slice (some ⟨w1.heap.size, 0, none⟩) 0 0) wx.heap.size w2.heap.size := by
      refine Off.of (fun k hk => ?_)
      have h1 : k = w1.heap.size := (Option.some.inj hk).symm
      have := HIx.out
      omega
    have HU := Lib.hid (fun k => sharedB_succ ls k)
    have HUL := Lib.hid (fun k => sharedB_len ls k)
    have H0 : Hid (sharedB ls 0 = []) := rfl
    have H64 := Lib.hid (fun k => shared_i64 (ls := ls) (by have := Hln.out; omega) k)
    generalize hsb : sharedB ls = sB at *
    clear hsb
    go_wp2_with fail
    go_loopw [7, 10, 23] (fun s7 _ s23 wr => ∃ k : Nat, k ≤ ln ∧ s23 = .int .i64 k ∧ OwnP (Value.int .i64) 2 w1.heap.size wr s7 (sB k) ∧ Below w1.heap.size w1 wr ∧ Same (.new wx w2) w2 wr ∧ Off s7 wx.heap.size w2.heap.size ∧ w2.heap.size ≤ wr.heap.size) (fun _ _ s23 _ => ln - (intOf s23).toNat)
    case atStart => exact ⟨0, Nat.zero_le _, rfl, by rw [H0.out]; exact o2, Ext.trans ex e2, Same.refl _ _, hoff, Nat.le_refl _⟩
    case round =>
      obtain ⟨k, hk, rfl, own, hbw, hsm, hof, hsz⟩ := hrel
      have ew : Ext w wr := Ext.trans et hbw
      have hIx := HIx.out
      by_cases hlt : k < ln
      · have hLr := stable_locks.keep HLk.out hsm
        obtain ⟨bl, ol, rfl, a3, n3, k3, -, hcl, yl, -, hyl⟩ := locks_at hLr hlt
        have hcl' := hcl wr (Ext.refl _)
        have HI : Hid (∀ wX, Ext wr wX → wX.cell? ⟨wr.heap.size, 0, none⟩ = some (.slice a3 n3 k3) → Calls Tryz.prog 84 #[.slice (some ⟨bl, ol, none⟩) ln lc, .func (.func 85) #[] #[.pointer (some ⟨wr.heap.size, 0, none⟩)]] wX (Ret wX fun r _ => r = .int .i64 (firstSame ls k))) := fun wX eX hcell => by
          have := IndexFuncLocks_c wX _ _ ls (stable_locks.ext hLr eX) _ Tryz.goesShared1 #[.pointer (some ⟨wr.heap.size, 0, none⟩)] (fun l => decide (ls.getD k [] = l)) (fun i hi w5 u5 y5 e5 hu5 => shared1_c w5 (.slice a3 n3 k3) u5 yl y5 (ls.getD k []) ls[i] (hyl w5 (eX.trans e5)) hu5 wr.heap.size (e5.cell hcell))
          rwa [firstSame_idx (by rw [← Hln.out]; exact hlt)] at this
        have HUk := Lib.hid (HU.out k)
        have hul := HUL.out k
        have hfs := firstSame_le (ls := ls) (k := k)
        have hfs2 : firstSame ls k ≤ 12 := by have := Hln.out; omega
        clear hcl hyl hfs hLr
        generalize firstSame ls k = fi at *
        generalize hup : sB k = up at *
        clear hup
        go_upto_region 8 with fail
        generalize hwX : World.alloc _ _ = wX
        obtain ⟨eX, lX⟩ : Ext wr wX ∧ wX.cell? ⟨wr.heap.size, 0, none⟩ = some (.slice a3 n3 k3) := by
          subst hwX
          exact ⟨Ext.alloc _ _, by simp⟩
        clear hwX
        have hcall := HI.out wX eX lX
        have oX := own.ext eX
        have bX : Below w1.heap.size w1 wX := hbw.trans (Below.mono eX (by omega))
        have mX : Same (.new wx w2) w2 wX := hsm.below hsz eX
        have zX := eX.size
        clear own hbw hsm HI
        go_wp2_with fail
        refine Calls.mono hcall ?_
        rintro e w7 hr
        obtain ⟨r, rfl, rfl, e7⟩ := ret_ext hr
        clear hr hcall
        have o7 := oX.ext e7
        have b7 : Below w1.heap.size w1 w7 := bX.trans (Below.mono e7 (by omega))
        have m7 : Same (.new wx w2) w2 w7 := mX.below (by omega) e7
        have z7 := e7.size
        clear oX bX mX
        go_wp2_with (at_builtin; (refine wpList_append1X (f := Value.int .i64) (e := 2) (B := w1.heap.size) (xs := up) rfl _ _ 41 rfl 0 8 Tryz.underlying41 Tryz.infoI64 rfl (fun _ => rfl) rfl o7 (fi : Int) rfl (by omega) (by omega) (by omega) ?_); intro v8 w8 hown8 hg8 hb8 hat8)
        have m9 : Same (.new wx w2) w2 w8 := Same.grown m7 (by omega) hg8 (fun j hj => Off.not hof j hj)
        have f9 : Off v8 wx.heap.size w2.heap.size := Off.next hof (by omega) hat8
        have z9 : w2.heap.size ≤ w8.heap.size := by have := hb8.size; omega
        go_roundw
        case rel => exact ⟨k+1, by omega, by go_num, by rw [HUk.out]; exact hown8, b7.trans hb8, m9, f9, z9⟩
        case measure => simp [intOf]; omega
      · have hkd : k = doorsOf t := by have := Hld.out; omega
        have HR : Hid (res = (sB k, 0)) := by show _ = _; rw [HH.out, hkd]
        obtain ⟨oa, on, oc, rfl, -⟩ := own.shape
        have HIi := Lib.hid (H64.out k)
        go_wp2_with fail
        go_ret2
        exact ⟨_, rfl, IntsCode_own HR.out (own.lower (by omega)) HIi.out, ew⟩
  · have hb : (dc != 0) = true := by rw [bne_iff_ne]; exact hd
    have HH := Lib.hid (H1.out hd)
    clear hd H1 H2 HOk HD
    go_wp2_with fail
    go_ret2
    exact ⟨_, rfl, IntsCode_nil HH.out, et⟩

set_option maxRecDepth 20000 in
set_option maxHeartbeats 1000000 in
theorem SharedLocksSpec_c (w : World) (mk : MK) (v : Value) (z : Zone) (t : List (List Int)) (h : RowsR z w v t) (u : Value) (y : Zone) (cuts : List (List Int)) (hc : RowsR y w u cuts) :
    Calls Tryz.prog 32 #[sysV mk v, u] w (Ret w (IntsCode w (sharedOf mk t cuts))) := by
  have H1 : Hid (designCode mk t cuts ≠ 0 → sharedOf mk t cuts = ([], designCode mk t cuts)) := sharedOf_bad
  have H2 : Hid (designCode mk t cuts = 0 → sharedOf mk t cuts = (sharedB (locks mk t cuts) (doorsOf t), 0)) := sharedOf_ok
  have HOk : Hid (designCode mk t cuts = 0 → PartOk mk t cuts) := fun h => (designCode_zero h).toPartOk
  have HC1 := Lib.hid (fun (w' : World) (e : Ext w w') => l21Code_c w' mk v z t (stable_rows.ext h e) u y cuts (stable_rows.ext hc e))
  have HC2 := Lib.hid (fun (ok : PartOk mk t cuts) (w' : World) (e : Ext w w') => l15Locks_c w' mk v z t (stable_rows.ext h e) u y cuts (stable_rows.ext hc e) ok)
  have HLL := Lib.hid (locks_len mk t cuts)
  have HD : Hid (designCode mk t cuts = 0 → doorsOf t ≤ 12) := fun h => (designCode_zero h).doors.2
  generalize sharedOf mk t cuts = res at *
  generalize designCode mk t cuts = dc at *
  generalize locks mk t cuts = ls at *
  obtain ⟨a, n, cap, rfl, -⟩ := SliceR.shape h
  obtain ⟨a2, n2, cap2, rfl, -⟩ := SliceR.shape hc
  clear h hc
  unfold sysV at *
  go_enter Tryz.func32, Tryz.ntmps32
  go_wp2_with fail
  generalize hw0 : World.alloc _ _ = w0
  obtain ⟨e0, S0⟩ := sys_box hw0
  clear hw0
  have HS := Lib.hid S0
  clear S0
  refine Calls.mono (HC1.out w0 e0) ?_
  rintro e w1 hr
  obtain ⟨r, rfl, rfl, e1⟩ := ret_ext hr
  clear hr
  have et := e0.trans e1
  obtain ⟨c0, c1, c2, c3, c4, c5⟩ := HS.out.all e1
  by_cases hd : dc = 0
  · have hb : (dc != 0) = false := by rw [hd]; rfl
    have HH := Lib.hid (H2.out hd)
    have ok := HOk.out hd
    have hd12 := HD.out hd
    have hcall := HC2.out ok w1 et
    clear hd H1 H2 HOk HC2 ok HD
    go_wp2_with fail
    refine Calls.mono hcall ?_
    rintro e w2 hr
    obtain ⟨r, rfl, hL, e2⟩ := ret_ext hr
    clear hr hcall
    have et2 := et.trans e2
    obtain ⟨la, ln, lc, rfl, hln, hlmax, -⟩ := SliceR.shape hL
    have Hln : Hid (ln = ls.length) := hln
    have hl12 : ln ≤ 12 := by have := HLL.out; omega
    have Hld : Hid (ln = doorsOf t) := by show _ = _; rw [hln, HLL.out]
    have HLA := Lib.hid (fun (k : Nat) (hk : k < ln) => locks_at hL hk)
    clear hL hln
    have HFS : Hid (∀ k j, j < ln → ls.getD k [] = ls.getD j [] → (∀ i, i < j → ls.getD k [] ≠ ls.getD i []) → firstSame ls k = j) := fun k j hj h hb => firstSame_at (by rw [← Hln.out]; exact hj) h hb
    have HU := Lib.hid (fun k => sharedB_succ ls k)
    have HUL := Lib.hid (fun k => sharedB_len ls k)
    have H0 : Hid (sharedB ls 0 = []) := rfl
    have H64 := Lib.hid (fun k => shared_i64 (ls := ls) (by have := Hln.out; omega) k)
    generalize hsb : sharedB ls = sB at *
    clear hsb
    go_wp2_with fail
    generalize hwx : World.alloc _ _ = wx
    obtain ⟨ex, ox⟩ : Ext w2 wx ∧ OwnP (Value.int .i64) 2 w2.heap.size wx (.slice (some ⟨w2.heap.size, 0, none⟩) 0 0) [] := by
      subst hwx
      exact ⟨Ext.alloc _ _, OwnP.empty (Nat.le_refl _)⟩
    clear hwx
    go_loopw [8, 9, 10] (fun s8 s9 _ wr => ∃ k : Nat, k ≤ ln ∧ s9 = .int .i64 k ∧ OwnP (Value.int .i64) 2 w2.heap.size wr s8 (sB k) ∧ Ext w2 wr) (fun _ s9 _ _ => ln - (intOf s9).toNat)
    case atStart => exact ⟨0, Nat.zero_le _, rfl, by rw [H0.out]; exact ox, ex⟩
    case round =>
      obtain ⟨k, hk, rfl, own, ew2⟩ := hrel
      have hsz := ew2.size
      by_cases hlt : k < ln
      · obtain ⟨bl, ol, rfl, a3, n3, k3, -, hcl, yl, -, hyl⟩ := HLA.out k hlt
        have HUk := Lib.hid (HU.out k)
        have hul := HUL.out k
        have HFk := Lib.hid (HFS.out k)
        generalize hup : sB k = up at *
        clear hup
        have Hcl := Lib.hid hcl
        have Hyl := Lib.hid hyl
        clear hcl hyl
        go_wp2_with fail
        obtain ⟨wo, rfl⟩ : ∃ wo, wo = wr := ⟨_, rfl⟩
        go_loopw [10] (fun s10 wr => ∃ j : Nat, j ≤ k ∧ s10 = .int .i64 j ∧ (∀ i, i < j → ls.getD k [] ≠ ls.getD i []) ∧ Drew wo wr) (fun s10 _ => ln - (intOf s10).toNat)
        case atStart => exact ⟨0, Nat.zero_le _, rfl, by simp, Drew.refl _⟩
        case round =>
          obtain ⟨j, hj, rfl, hall, hd⟩ := hrel
          have Hall := Lib.hid hall
          clear hall
          have ewr := ew2.trans (Ext.ofDrew hd)
          obtain ⟨bl', ol', he, a4, n4, k4, -, hcl4, yl4, -, hyl4⟩ := HLA.out j (by omega)
          injection he with he; injection he with he1 he2 _
          subst he1; subst he2
          have hck := Hcl.out wr ewr
          have hcj := hcl4 wr ewr
          have hjl : j < ln := by omega
          have hcall := fun (m : Nat) => l05Same_c (wr.drewN m) _ _ yl4 yl (ls.getD j []) (ls.getD k []) (hyl4 _ (ewr.trans (Ext.drewN wr m))) (Hyl.out _ (ewr.trans (Ext.drewN wr m)))
          have HFj := Lib.hid (HFk.out j hjl)
          have Hgo : Hid (ls.getD j [] ≠ ls.getD k [] → j < k ∧ ∀ i, i < j + 1 → ls.getD k [] ≠ ls.getD i []) := fun hne => by
            refine ⟨?_, fun i hi => ?_⟩
            · rcases Nat.lt_or_ge j k with h | h
              · exact h
              · have : j = k := by omega
                subst this; exact absurd rfl hne
            · by_cases e : i = j
              · subst e; exact fun h => hne h.symm
              · exact Hall.out i (by omega)
          clear hcl4 hyl4
          by_cases hs : ls.getD j [] = ls.getD k []
          · rw [decide_eq_true hs] at hcall
            have HC := Lib.hid hcall
            have HE := Lib.hid (HFj.out hs.symm Hall.out)
            clear hs hcall Hgo HFj
            have hdr : wo.heap.size ≤ wr.heap.size := by have := hd.size; omega
            have own3 := own.ext (Ext.ofDrew hd)
            go_wp2_with fail
            go_quiet ((go_at_call 88; exact RetQ.quiet (HC.out _)))
            have own4 := own3.drewN nq
            have ewq : Ext w2 (wr.drewN nq) := ewr.trans (Ext.drewN wr nq)
            have hsq : w2.heap.size ≤ (wr.drewN nq).heap.size := ewq.size
            generalize wr.drewN nq = wq at *
            clear own own3
            go_wp2_with (at_builtin; (refine wpList_append1 (f := Value.int .i64) (e := 2) (B := w2.heap.size) (xs := up) rfl _ _ 41 rfl 0 8 Tryz.underlying41 Tryz.infoI64 rfl (fun _ => rfl) rfl own4 (j : Int) rfl (by omega) (by omega) (by omega) ?_); intro v8 w8 hown8 hg8 hb8)
            go_roundw
            case rel => exact ⟨k+1, by omega, by go_num, by rw [HUk.out, HE.out]; exact hown8, Ext.to' ewq hb8⟩
            case measure => simp [intOf]; omega
          · obtain ⟨hjk, hall2⟩ := Hgo.out hs
            have HA2 := Lib.hid hall2
            rw [decide_eq_false hs] at hcall
            have HC := Lib.hid hcall
            clear hs hcall Hgo HFj hall2
            go_wp2_with fail
            go_quiet ((go_at_call 88; exact RetQ.quiet (HC.out _)))
            go_wp2_with fail
            go_roundw
            case rel => exact ⟨j+1, by omega, by go_num, HA2.out, hd.drewN _⟩
            case measure => simp [intOf]; omega
      · have hkd : k = doorsOf t := by have := Hld.out; omega
        have HR : Hid (res = (sB k, 0)) := by show _ = _; rw [HH.out, hkd]
        obtain ⟨oa, on, oc, rfl, -⟩ := own.shape
        have HIi := Lib.hid (H64.out k)
        go_wp2_with fail
        go_ret2
        exact ⟨_, rfl, IntsCode_own HR.out (own.lower et2.size) HIi.out, et2.trans ew2⟩
  · have hb : (dc != 0) = true := by rw [bne_iff_ne]; exact hd
    have HH := Lib.hid (H1.out hd)
    clear hd H1 H2 HOk HD
    go_wp2_with fail
    go_ret2
    exact ⟨_, rfl, IntsCode_nil HH.out, et⟩
end Go.Proofs.YthgmojggpjnckaaGreat
