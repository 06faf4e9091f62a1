/- Proved: whether two lists, two locks are the same, program and reference. -/
import Derived.Test.YtgagjibjnaappaaChecked
import Derived.Test.YtgagjibjnaappaaUPkD
import Derived.Test.YtgagjibjnaappaaUPkA
namespace Go.Proofs.Ytgagjibjnaappaa
open Go.ChangeShapes Go.WideShapes Go.ChangeAt Go.RowKit
set_option linter.unusedVariables false

theorem eq_of_getD {α : Type} (d : α) {a b : List α} (h : a.length = b.length) (h2 : ∀ i, i < a.length → a.getD i d = b.getD i d) : a = b := by
  refine List.ext_getElem h (fun i h1 h3 => ?_)
  have := h2 i h1
  simpa [h1, h3] using this
theorem ne_of_getD {α : Type} [DecidableEq α] (d : α) {a b : List α} (i : Nat) (h : a.getD i d ≠ b.getD i d) : decide (a = b) = false := decide_eq_false (fun e => h (by rw [e]))
theorem ne_of_len {α : Type} [DecidableEq α] {a b : List α} (h : a.length ≠ b.length) : decide (a = b) = false := decide_eq_false (fun e => h (by rw [e]))

set_option maxHeartbeats 400000 in
theorem EqualInts_c (w : World) (u v : Value) (y z : Zone) (xs ys : List Int) (hx : IntsR y w u xs) (hy : IntsR z w v ys) :
    Calls Try.prog 96 #[u, v] w (RetQ w (.bool (decide (xs = ys)))) := by
  have HL : Hid (xs.length ≠ ys.length → decide (xs = ys) = false) := ne_of_len
  have HN : Hid (∀ i, xs.getD i 0 ≠ ys.getD i 0 → decide (xs = ys) = false) := fun i h => ne_of_getD 0 i h
  have HY : Hid (xs.length = ys.length → (∀ i, i < xs.length → xs.getD i 0 = ys.getD i 0) → decide (xs = ys) = true) := fun h h2 => decide_eq_true (eq_of_getD 0 h h2)
  generalize decide (xs = ys) = res at *
  obtain ⟨a, n, cap, rfl, hn, hmax, -⟩ := SliceR.shape hx
  obtain ⟨a2, n2, cap2, rfl, hn2, hmax2, -⟩ := SliceR.shape hy
  have HX := Lib.hid (fun (k : Nat) (hk : k < n) => ints_at hx hk)
  have HYY := Lib.hid (fun (k : Nat) (hk : k < n2) => ints_at hy hk)
  have Hn := Lib.hid hn
  have Hn2 := Lib.hid hn2
  clear hn hn2 hx hy
  go_enter Try.func96, Try.ntmps96
  by_cases hl : n = n2
  · subst hl
    go_wp2_with fail
    go_loopw [5, 13] (fun _ s13 wr => ∃ k : Nat, k ≤ n ∧ s13 = .int .i64 k ∧ (∀ i, i < k → xs.getD i 0 = ys.getD i 0) ∧ Drew w wr) (fun _ s13 _ => n - (intOf s13).toNat)
    case atStart => exact ⟨0, Nat.zero_le _, rfl, by simp, Drew.refl _⟩
    case round =>
      obtain ⟨k, hk, rfl, hall, hd⟩ := hrel
      have Hall := Lib.hid hall
      clear hall
      by_cases hlt : k < n
      · obtain ⟨b, off, rfl, -, hc⟩ := HX.out k hlt
        obtain ⟨b2, off2, rfl, -, hc2⟩ := HYY.out k hlt
        replace hc := hc wr (Ext.ofDrew hd)
        replace hc2 := hc2 wr (Ext.ofDrew hd)
        have HNk := Lib.hid (HN.out k)
        have Hgo : Hid (xs.getD k 0 = ys.getD k 0 → ∀ i, i < k + 1 → xs.getD i 0 = ys.getD i 0) := fun h j hj => by
          by_cases e : j = k
          · rw [e]; exact h
          · exact Hall.out j (by omega)
        generalize xs.getD k 0 = x at *
        generalize ys.getD k 0 = y at *
        by_cases hxy : x = y
        · have HG := Lib.hid (Hgo.out hxy)
          have hb : (x != y) = false := by simpa using hxy
          clear hxy Hgo HNk
          go_wp2_with fail
          go_quiet (fail)
          go_wp2_with fail
          go_roundw
          case rel => exact ⟨k+1, by omega, by go_num, HG.out, hd.drewN _⟩
          case measure => simp [intOf]; omega
        · have HG := Lib.hid (HNk.out hxy)
          have hb : (x != y) = true := by simpa using hxy
          clear hxy Hgo HNk
          go_wp2_with fail
          go_quiet (fail)
          go_wp2_with fail
          go_ret
          exact ⟨ret_bool' HG.out, hd.drewN _⟩
      · have HG : Hid (res = true) := HY.out (by rw [← Hn.out, ← Hn2.out]) (fun i hi => Hall.out i (by have := Hn.out; omega))
        go_wp2_with fail
        go_ret
        exact ⟨ret_bool' HG.out, hd⟩
  · have hb : ((n : Int) != (n2 : Int)) = true := by rw [bne_iff_ne]; omega
    have HG := Lib.hid (HL.out (by rw [← Hn.out, ← Hn2.out]; exact hl))
    clear hl
    go_wp2_with fail
    go_ret
    exact ⟨ret_bool' HG.out, Drew.refl _⟩

set_option maxHeartbeats 400000 in
theorem l01Same_c (w : World) (u v : Value) (y z : Zone) (xs ys : List Int) (hx : IntsR y w u xs) (hy : IntsR z w v ys) :
    Calls Try.prog 91 #[u, v] w (RetQ w (.bool (decide (xs = ys)))) := by
  have HL : Hid (xs.length ≠ ys.length → decide (xs = ys) = false) := ne_of_len
  have HN : Hid (∀ i, xs.getD i 0 ≠ ys.getD i 0 → decide (xs = ys) = false) := fun i h => ne_of_getD 0 i h
  have HY : Hid (xs.length = ys.length → (∀ i, i < xs.length → xs.getD i 0 = ys.getD i 0) → decide (xs = ys) = true) := fun h h2 => decide_eq_true (eq_of_getD 0 h h2)
  generalize decide (xs = ys) = res at *
  obtain ⟨a, n, cap, rfl, hn, hmax, -⟩ := SliceR.shape hx
  obtain ⟨a2, n2, cap2, rfl, hn2, hmax2, -⟩ := SliceR.shape hy
  have HX := Lib.hid (fun (k : Nat) (hk : k < n) => ints_at hx hk)
  have HYY := Lib.hid (fun (k : Nat) (hk : k < n2) => ints_at hy hk)
  have Hn := Lib.hid hn
  have Hn2 := Lib.hid hn2
  clear hn hn2 hx hy
  go_enter Try.func91, Try.ntmps91
  by_cases hl : n = n2
  · subst hl
    go_wp2_with fail
    go_loopw [5] (fun s5 wr => ∃ k : Nat, k ≤ n ∧ s5 = .int .i64 k ∧ (∀ i, i < k → xs.getD i 0 = ys.getD i 0) ∧ Drew w wr) (fun s5 _ => n - (intOf s5).toNat)
    case atStart => exact ⟨0, Nat.zero_le _, rfl, by simp, Drew.refl _⟩
    case round =>
      obtain ⟨k, hk, rfl, hall, hd⟩ := hrel
      have Hall := Lib.hid hall
      clear hall
      by_cases hlt : k < n
      · obtain ⟨b, off, rfl, -, hc⟩ := HX.out k hlt
        obtain ⟨b2, off2, rfl, -, hc2⟩ := HYY.out k hlt
        replace hc := hc wr (Ext.ofDrew hd)
        replace hc2 := hc2 wr (Ext.ofDrew hd)
        have HNk := Lib.hid (HN.out k)
        have Hgo : Hid (xs.getD k 0 = ys.getD k 0 → ∀ i, i < k + 1 → xs.getD i 0 = ys.getD i 0) := fun h j hj => by
          by_cases e : j = k
          · rw [e]; exact h
          · exact Hall.out j (by omega)
        generalize xs.getD k 0 = x at *
        generalize ys.getD k 0 = y at *
        by_cases hxy : x = y
        · have HG := Lib.hid (Hgo.out hxy)
          have hb : (x != y) = false := by simpa using hxy
          clear hxy Hgo HNk
          go_wp2_with fail
          go_quiet (fail)
          go_wp2_with fail
          go_roundw
          case rel => exact ⟨k+1, by omega, by go_num, HG.out, hd.drewN _⟩
          case measure => simp [intOf]; omega
        · have HG := Lib.hid (HNk.out hxy)
          have hb : (x != y) = true := by simpa using hxy
          clear hxy Hgo HNk
          go_wp2_with fail
          go_quiet (fail)
          go_wp2_with fail
          go_ret
          exact ⟨ret_bool' HG.out, hd.drewN _⟩
      · have HG : Hid (res = true) := HY.out (by rw [← Hn.out, ← Hn2.out]) (fun i hi => Hall.out i (by have := Hn.out; omega))
        go_wp2_with fail
        go_ret
        exact ⟨ret_bool' HG.out, hd⟩
  · have hb : ((n : Int) != (n2 : Int)) = true := by rw [bne_iff_ne]; omega
    have HG := Lib.hid (HL.out (by rw [← Hn.out, ← Hn2.out]; exact hl))
    clear hl
    go_wp2_with fail
    go_ret
    exact ⟨ret_bool' HG.out, Drew.refl _⟩

theorem Try.goesSameLock1 : Goes Try.prog 95 := goes_of Try.func95 (by kernel_rfl) (by kernel_rfl)
theorem sameLock1_c (w : World) (u v : Value) (y z : Zone) (xs ys : List Int) (hx : IntsR y w u xs) (hy : IntsR z w v ys) :
    Calls Try.prog 95 #[u, v] w (RetQ w (.bool (decide (xs = ys)))) := by
  have hcall := EqualInts_c w u v y z xs ys hx hy
  generalize decide (xs = ys) = q at *
  obtain ⟨a, n, cap, rfl, -⟩ := SliceR.shape hx
  obtain ⟨a2, n2, cap2, rfl, -⟩ := SliceR.shape hy
  clear hx hy
  go_enter Try.func95, Try.ntmps95
  go_wp2_with fail
  refine Calls.mono hcall ?_
  rintro e w2 ⟨rfl, hd2⟩
  go_wp2_with fail
  go_ret
  exact ⟨rfl, hd2⟩

set_option maxRecDepth 20000 in
set_option maxHeartbeats 800000 in
theorem EqualFuncRows_c (w : World) (u v : Value) (y z : Zone) (xs ys : List (List Int)) (hx : RowsR y w u xs) (hy : RowsR z w v ys) :
    Calls Try.prog 94 #[u, v, .func (.func 95) #[] #[]] w (RetQ w (.bool (decide (xs = ys)))) := by
  have HL : Hid (xs.length ≠ ys.length → decide (xs = ys) = false) := ne_of_len
  have HN : Hid (∀ i, xs.getD i [] ≠ ys.getD i [] → decide (xs = ys) = false) := fun i h => ne_of_getD [] i h
  have HY : Hid (xs.length = ys.length → (∀ i, i < xs.length → xs.getD i [] = ys.getD i []) → decide (xs = ys) = true) := fun h h2 => decide_eq_true (eq_of_getD [] h h2)
  generalize decide (xs = ys) = res at *
  obtain ⟨a, n, cap, rfl, hn, hmax, -⟩ := SliceR.shape hx
  obtain ⟨a2, n2, cap2, rfl, hn2, hmax2, -⟩ := SliceR.shape hy
  have HX := Lib.hid (fun (k : Nat) (hk : k < n) => rows_at hx hk)
  have HYY := Lib.hid (fun (k : Nat) (hk : k < n2) => rows_at hy hk)
  have Hn := Lib.hid hn
  have Hn2 := Lib.hid hn2
  clear hn hn2 hx hy
  go_enter Try.func94, Try.ntmps94
  by_cases hl : n = n2
  · subst hl
    go_wp2_with fail
    have hF := Try.goesSameLock1
    unfold Goes at hF
    go_loopw [7, 8, 9, 17] (fun _ _ _ s17 wr => ∃ k : Nat, k ≤ n ∧ s17 = .int .i64 k ∧ (∀ i, i < k → xs.getD i [] = ys.getD i []) ∧ Drew w wr) (fun _ _ _ s17 _ => n - (intOf s17).toNat)
    case atStart => exact ⟨0, Nat.zero_le _, rfl, by simp, Drew.refl _⟩
    case round =>
      obtain ⟨k, hk, rfl, hall, hd⟩ := hrel
      have Hall := Lib.hid hall
      clear hall
      by_cases hlt : k < n
      · obtain ⟨b, off, rfl, b1, n1, k1, -, -, -, hc, ⟨y1, -, hy1⟩, -⟩ := HX.out k hlt
        obtain ⟨b2, off2, rfl, b3, n3, k3, -, -, -, hc2, ⟨y3, -, hy3⟩, -⟩ := HYY.out k hlt
        replace hc := hc wr (Ext.ofDrew hd)
        replace hc2 := hc2 wr (Ext.ofDrew hd)
        have HNk := Lib.hid (HN.out k)
        have Hgo : Hid (xs.getD k [] = ys.getD k [] → ∀ i, i < k + 1 → xs.getD i [] = ys.getD i []) := fun h j hj => by
          by_cases e : j = k
          · rw [e]; exact h
          · exact Hall.out j (by omega)
        generalize xs.getD k [] = x at *
        generalize ys.getD k [] = yy at *
        have hcall := sameLock1_c wr _ _ y1 y3 x yy (hy1 wr (Ext.ofDrew hd)) (hy3 wr (Ext.ofDrew hd))
        clear hy1 hy3
        by_cases hxy : x = yy
        · have HG := Lib.hid (Hgo.out hxy)
          rw [decide_eq_true hxy] at hcall
          clear hxy Hgo HNk
          go_wp2_with fail
          refine Calls.mono hcall ?_
          rintro e w2 ⟨rfl, hd2⟩
          clear hcall
          go_wp2_with fail
          go_roundw
          case rel => exact ⟨k+1, by omega, by go_num, HG.out, hd.trans hd2⟩
          case measure => simp [intOf]; omega
        · have HG := Lib.hid (HNk.out hxy)
          rw [decide_eq_false hxy] at hcall
          clear hxy Hgo HNk
          go_wp2_with fail
          refine Calls.mono hcall ?_
          rintro e w2 ⟨rfl, hd2⟩
          clear hcall
          go_wp2_with fail
          go_ret
          exact ⟨ret_bool' HG.out, hd.trans hd2⟩
      · have HG : Hid (res = true) := HY.out (by rw [← Hn.out, ← Hn2.out]) (fun i hi => Hall.out i (by have := Hn.out; omega))
        go_wp2_with fail
        go_ret
        exact ⟨ret_bool' HG.out, hd⟩
  · have hb : ((n : Int) != (n2 : Int)) = true := by rw [bne_iff_ne]; omega
    have HG := Lib.hid (HL.out (by rw [← Hn.out, ← Hn2.out]; exact hl))
    clear hl
    go_wp2_with fail
    go_ret
    exact ⟨ret_bool' HG.out, Drew.refl _⟩

set_option maxRecDepth 20000 in
set_option maxHeartbeats 800000 in
theorem l05Same_c (w : World) (u v : Value) (y z : Zone) (xs ys : List (List Int)) (hx : RowsR y w u xs) (hy : RowsR z w v ys) :
    Calls Try.prog 57 #[u, v] w (RetQ w (.bool (decide (xs = ys)))) := by
  have HL : Hid (xs.length ≠ ys.length → decide (xs = ys) = false) := ne_of_len
  have HN : Hid (∀ i, xs.getD i [] ≠ ys.getD i [] → decide (xs = ys) = false) := fun i h => ne_of_getD [] i h
  have HY : Hid (xs.length = ys.length → (∀ i, i < xs.length → xs.getD i [] = ys.getD i []) → decide (xs = ys) = true) := fun h h2 => decide_eq_true (eq_of_getD [] h h2)
  generalize decide (xs = ys) = res at *
  obtain ⟨a, n, cap, rfl, hn, hmax, -⟩ := SliceR.shape hx
  obtain ⟨a2, n2, cap2, rfl, hn2, hmax2, -⟩ := SliceR.shape hy
  have HX := Lib.hid (fun (k : Nat) (hk : k < n) => rows_at hx hk)
  have HYY := Lib.hid (fun (k : Nat) (hk : k < n2) => rows_at hy hk)
  have Hn := Lib.hid hn
  have Hn2 := Lib.hid hn2
  clear hn hn2 hx hy
  go_enter Try.func57, Try.ntmps57
  by_cases hl : n = n2
  · subst hl
    go_wp2_with fail
    go_loopw [5] (fun s5 wr => ∃ k : Nat, k ≤ n ∧ s5 = .int .i64 k ∧ (∀ i, i < k → xs.getD i [] = ys.getD i []) ∧ Drew w wr) (fun s5 _ => n - (intOf s5).toNat)
    case atStart => exact ⟨0, Nat.zero_le _, rfl, by simp, Drew.refl _⟩
    case round =>
      obtain ⟨k, hk, rfl, hall, hd⟩ := hrel
      have Hall := Lib.hid hall
      clear hall
      by_cases hlt : k < n
      · obtain ⟨b, off, rfl, b1, n1, k1, -, -, -, hc, ⟨y1, -, hy1⟩, -⟩ := HX.out k hlt
        obtain ⟨b2, off2, rfl, b3, n3, k3, -, -, -, hc2, ⟨y3, -, hy3⟩, -⟩ := HYY.out k hlt
        replace hc := hc wr (Ext.ofDrew hd)
        replace hc2 := hc2 wr (Ext.ofDrew hd)
        have HNk := Lib.hid (HN.out k)
        have Hgo : Hid (xs.getD k [] = ys.getD k [] → ∀ i, i < k + 1 → xs.getD i [] = ys.getD i []) := fun h j hj => by
          by_cases e : j = k
          · rw [e]; exact h
          · exact Hall.out j (by omega)
        generalize xs.getD k [] = x at *
        generalize ys.getD k [] = yy at *
        have hcall := fun (m : Nat) => l01Same_c (wr.drewN m) _ _ y1 y3 x yy (hy1 _ (Ext.ofDrew (hd.drewN m))) (hy3 _ (Ext.ofDrew (hd.drewN m)))
        clear hy1 hy3
        by_cases hxy : x = yy
        · have HG := Lib.hid (Hgo.out hxy)
          rw [decide_eq_true hxy] at hcall
          have HC := Lib.hid hcall
          clear hxy Hgo HNk hcall
          go_wp2_with fail
          go_quiet ((go_at_call 91; exact RetQ.quiet (HC.out _)))
          go_wp2_with fail
          go_roundw
          case rel => exact ⟨k+1, by omega, by go_num, HG.out, hd.drewN _⟩
          case measure => simp [intOf]; omega
        · have HG := Lib.hid (HNk.out hxy)
          rw [decide_eq_false hxy] at hcall
          have HC := Lib.hid hcall
          clear hxy Hgo HNk hcall
          go_wp2_with fail
          go_quiet ((go_at_call 91; exact RetQ.quiet (HC.out _)))
          go_wp2_with fail
          go_ret
          exact ⟨ret_bool' HG.out, hd.drewN _⟩
      · have HG : Hid (res = true) := HY.out (by rw [← Hn.out, ← Hn2.out]) (fun i hi => Hall.out i (by have := Hn.out; omega))
        go_wp2_with fail
        go_ret
        exact ⟨ret_bool' HG.out, hd⟩
  · have hb : ((n : Int) != (n2 : Int)) = true := by rw [bne_iff_ne]; omega
    have HG := Lib.hid (HL.out (by rw [← Hn.out, ← Hn2.out]; exact hl))
    clear hl
    go_wp2_with fail
    go_ret
    exact ⟨ret_bool' HG.out, Drew.refl _⟩

theorem sameLock_c (w : World) (u v : Value) (y z : Zone) (xs ys : List (List Int)) (hx : RowsR y w u xs) (hy : RowsR z w v ys) :
    Calls Try.prog 61 #[.agg #[u], .agg #[v]] w (Ret w fun r _ => r = .bool (decide (xs = ys))) := by
  have HC := Lib.hid (fun (w' : World) (e : Ext w w') => EqualFuncRows_c w' u v y z xs ys (stable_rows.ext hx e) (stable_rows.ext hy e))
  generalize decide (xs = ys) = q at *
  obtain ⟨a, n, cap, rfl, -⟩ := SliceR.shape hx
  obtain ⟨a2, n2, cap2, rfl, -⟩ := SliceR.shape hy
  clear hx hy
  go_enter Try.func61, Try.ntmps61
  go_wp2_with fail
  generalize hw0 : World.alloc _ _ = w0
  have e0 : Ext w w0 := by rw [← hw0]; exact (Ext.alloc _ _).trans (Ext.alloc _ _)
  clear hw0
  refine Calls.mono (HC.out w0 e0) ?_
  rintro e w2 ⟨rfl, hd2⟩
  go_wp2_with fail
  go_ret
  exact ⟨_, rfl, rfl, e0.trans (Ext.ofDrew hd2)⟩
end Go.Proofs.Ytgagjibjnaappaa
