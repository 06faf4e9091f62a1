/- Proved: whether a lock opens to cuts once a key is added, and whether a system stays a design, in the program. -/
import Derived.Test.YtegmognpofcfiaaGreatChecked
import Derived.Deep.RegionHeld3
import Derived.Test.YtegmognpofcfiaaGreatUCanLaw
import Derived.Test.YtegmognpofcfiaaGreatUPkC
import Derived.Test.YtegmognpofcfiaaGreatUPkD
namespace Go.Proofs.YtegmognpofcfiaaGreat
open Go.ChangeShapes Go.WideShapes Go.ChangeAt Go.RowKit
set_option linter.unusedVariables false

theorem opensWith_no {l : List (List Int)} {key xs : List Int} (i : Nat) (hi : i < xs.length) (h1 : ¬ xs.getD i 0 = key.getD i 0) (h : has (l.getD i []) (xs.getD i 0) = false) : opensWith l key xs = false := by
  unfold opensWith; rw [List.all_eq_false]; refine ⟨i, List.mem_range.2 hi, ?_⟩
  rw [h, Bool.or_false, beq_iff_eq]; exact h1
theorem opensWith_yes {l : List (List Int)} {key xs : List Int} (h : ∀ i, i < xs.length → xs.getD i 0 = key.getD i 0 ∨ has (l.getD i []) (xs.getD i 0) = true) : opensWith l key xs = true := by
  unfold opensWith; rw [List.all_eq_true]; intro i hi
  have hi := List.mem_range.1 hi
  rw [Bool.or_eq_true, beq_iff_eq]; exact h i hi

set_option maxRecDepth 20000 in
set_option maxHeartbeats 1000000 in
theorem opensWith_c (w : World) (v : Value) (z : Zone) (l : List (List Int)) (h : RowsR z w v l) (u4 : Value) (y4 : Zone) (key : List Int) (hk : IntsR y4 w u4 key) (u : Value) (y : Zone) (xs : List Int) (hx : IntsR y w u xs) (hl : xs.length ≤ l.length) (hkl : xs.length ≤ key.length) :
    Calls Tryz.prog 202 #[.agg #[v], u4, u] w (Ret w fun r _ => r = .bool (opensWith l key xs)) := by
  have H1 : Hid (∀ i, i < xs.length → ¬ xs.getD i 0 = key.getD i 0 → has (l.getD i []) (xs.getD i 0) = false → opensWith l key xs = false) := fun i hi h1 h => opensWith_no i hi h1 h
  have H2 : Hid ((∀ i, i < xs.length → xs.getD i 0 = key.getD i 0 ∨ has (l.getD i []) (xs.getD i 0) = true) → opensWith l key xs = true) := opensWith_yes
  generalize opensWith l key xs = res at *
  obtain ⟨a, n, cap, rfl, hn, hmax, -⟩ := SliceR.shape h
  obtain ⟨a2, n2, cap2, rfl, hn2, hmax2, -⟩ := SliceR.shape hx
  obtain ⟨a4, n4, cap4, rfl, hn4, hmax4, -⟩ := SliceR.shape hk
  have HT := Lib.hid (fun (k : Nat) (hk : k < n) => rows_at h hk)
  have HX := Lib.hid (fun (k : Nat) (hk : k < n2) => ints_at hx hk)
  have HY := Lib.hid (fun (k : Nat) (hh : k < n4) => ints_at hk hh)
  rw [← hn, ← hn2] at hl
  rw [← hn4, ← hn2] at hkl
  have Hn2 := Lib.hid hn2
  clear hn hn2 hn4 h hx hk
  go_enter Tryz.func202, Tryz.ntmps202
  go_wp2_with fail
  generalize hw0 : World.alloc _ _ = w0
  obtain ⟨e0, c0⟩ : Ext w w0 ∧ w0.cell? ⟨w.heap.size, 0, none⟩ = some (.slice a n cap) := by subst hw0; exact ⟨Ext.alloc _ _, by simp⟩
  clear hw0
  go_loopw [7, 8, 11] (fun _ _ s wr => ∃ k : Nat, k ≤ n2 ∧ s = .int .i64 k ∧ (∀ j, j < k → xs.getD j 0 = key.getD j 0 ∨ has (l.getD j []) (xs.getD j 0) = true) ∧ Drew w0 wr) (fun _ _ s _ => n2 - (intOf s).toNat)
  case atStart => exact ⟨0, Nat.zero_le _, rfl, by simp, Drew.refl _⟩
  case round =>
    obtain ⟨k, hk, rfl, hall, hd⟩ := hrel
    have Hall := Lib.hid hall
    clear hall
    have c0' := (hd.cell _).trans c0
    have et := e0.trans (Ext.ofDrew hd)
    by_cases hlt : k < n2
    · obtain ⟨b, off, rfl, hi, hc⟩ := HX.out k hlt
      obtain ⟨b4, off4, rfl, hi4, hc4⟩ := HY.out k (by omega)
      obtain ⟨b1, o1, rfl, a1, n1, k1, hn1, hm1, -, hc1, ⟨y1, -, hy1⟩, -⟩ := HT.out k (by omega)
      replace hc := hc wr et
      replace hc4 := hc4 wr et
      replace hc1 := hc1 wr et
      have hcall := Contains_c wr _ y1 _ (xs.getD k 0) (hy1 wr et) hi
      have hkl' : k < n := by omega
      have hkl4 : k < n4 := by omega
      have Hno : Hid (¬ xs.getD k 0 = key.getD k 0 → has (l.getD k []) (xs.getD k 0) = false → res = false) := fun h1 h => H1.out k (by rw [← Hn2.out]; exact hlt) h1 h
      have Hgo : Hid (xs.getD k 0 = key.getD k 0 ∨ has (l.getD k []) (xs.getD k 0) = true → ∀ j, j < k + 1 → xs.getD j 0 = key.getD j 0 ∨ has (l.getD j []) (xs.getD j 0) = true) := fun h j hj => by
        by_cases e : j = k
        · rw [e]; exact h
        · exact Hall.out j (by omega)
      generalize has (l.getD k []) (xs.getD k 0) = q at *
      generalize xs.getD k 0 = x at *
      generalize key.getD k 0 = kx at *
      clear hy1 hn1
      by_cases hxk : x = kx
      · have hb : (x != kx) = false := by rw [hxk]; simp
        have HH := Lib.hid (Hgo.out (.inl hxk))
        clear hxk hcall Hno Hgo
        go_wp2_with fail
        go_roundw
        case rel => exact ⟨k+1, by omega, by go_num, HH.out, hd⟩
        case measure => simp [intOf]; omega
      · have hb : (x != kx) = true := by rw [bne_iff_ne]; exact hxk
        have Hno' := Lib.hid (Hno.out hxk)
        clear hxk Hno
        cases q with
        | true =>
          have HH := Lib.hid (Hgo.out (.inr rfl))
          go_wp2_with fail
          refine Calls.mono hcall ?_
          rintro e w2 ⟨rfl, hd2⟩
          clear hcall
          go_wp2_with fail
          go_roundw
          case rel => exact ⟨k+1, by omega, by go_num, HH.out, hd.trans hd2⟩
          case measure => simp [intOf]; omega
        | false =>
          have HH := Lib.hid (Hno'.out rfl)
          go_wp2_with fail
          refine Calls.mono hcall ?_
          rintro e w2 ⟨rfl, hd2⟩
          clear hcall
          go_wp2_with fail
          go_ret
          exact ⟨.bool false, rfl, congrArg Value.bool HH.out.symm, et.trans (Ext.ofDrew hd2)⟩
    · have HH : Hid (res = true) := H2.out (fun j hj => Hall.out j (by have := Hn2.out; omega))
      go_wp2_with fail
      go_ret
      exact ⟨.bool true, rfl, congrArg Value.bool HH.out.symm, et⟩
end Go.Proofs.YtegmognpofcfiaaGreat
