/- Proved: whether cuts open a lock, program and reference. -/
import Derived.Test.YtgagjibjnaappaaChecked
import Derived.Test.YtgagjibjnaappaaUSys
namespace Go.Proofs.Ytgagjibjnaappaa
open Go.ChangeShapes Go.WideShapes Go.ChangeAt Go.RowKit
set_option linter.unusedVariables false

theorem opensB_no {l : List (List Int)} {xs : List Int} (i : Nat) (hi : i < xs.length) (h : has (l.getD i []) (xs.getD i 0) = false) : opensB l xs = false := by
  unfold opensB; rw [List.all_eq_false]; exact ⟨i, List.mem_range.2 hi, by rw [h]; decide⟩
theorem opensB_yes {l : List (List Int)} {xs : List Int} (h : ∀ i, i < xs.length → has (l.getD i []) (xs.getD i 0) = true) : opensB l xs = true := by
  unfold opensB; rw [List.all_eq_true]; intro i hi; exact h i (List.mem_range.1 hi)
/-- element k of a list, in any later world -/
theorem ints_at {w : World} {a : Option Addr} {n cap : Nat} {z : Zone} {t : List Int} (h : IntsR z w (.slice a n cap) t) {k : Nat} (hk : k < n) :
    ∃ b off, a = some ⟨b, off, none⟩ ∧ I64 (t.getD k 0) ∧ ∀ w', Ext w w' → w'.cell? ⟨b, off + k, none⟩ = some (.int .i64 (t.getD k 0)) := by
  obtain ⟨a', n', c', he, hn, hmax, -, -, -, hel⟩ := IntsR.shape h
  injection he with e1 e2 e3
  subst e1; subst e2; subst e3
  obtain ⟨b, off, rfl, hc, hi, -⟩ := hel k hk
  exact ⟨b, off, rfl, hi, fun w' e => e.cell hc⟩

set_option maxRecDepth 20000 in
set_option maxHeartbeats 1000000 in
theorem opens_c (w : World) (v : Value) (z : Zone) (l : List (List Int)) (h : RowsR z w v l) (u : Value) (y : Zone) (xs : List Int) (hx : IntsR y w u xs) (hl : xs.length ≤ l.length) :
    Calls Try.prog 102 #[.agg #[v], u] w (Ret w fun r _ => r = .bool (opensB l xs)) := by
  have H1 : Hid (∀ i, i < xs.length → has (l.getD i []) (xs.getD i 0) = false → opensB l xs = false) := fun i hi h => opensB_no i hi h
  have H2 : Hid ((∀ i, i < xs.length → has (l.getD i []) (xs.getD i 0) = true) → opensB l xs = true) := opensB_yes
  generalize opensB l xs = res at *
  obtain ⟨a, n, cap, rfl, hn, hmax, -⟩ := SliceR.shape h
  obtain ⟨a2, n2, cap2, rfl, hn2, hmax2, -⟩ := SliceR.shape hx
  have HT := Lib.hid (fun (k : Nat) (hk : k < n) => rows_at h hk)
  have HX := Lib.hid (fun (k : Nat) (hk : k < n2) => ints_at hx hk)
  rw [← hn, ← hn2] at hl
  have Hn2 := Lib.hid hn2
  clear hn hn2 h hx
  go_enter Try.func102, Try.ntmps102
  go_wp2_with fail
  generalize hw0 : World.alloc _ _ = w0
  obtain ⟨e0, c0⟩ : Ext w w0 ∧ w0.cell? ⟨w.heap.size, 0, none⟩ = some (.slice a n cap) := by subst hw0; exact ⟨Ext.alloc _ _, by simp⟩
  clear hw0
  go_loopw [5, 6, 9] (fun _ _ s wr => ∃ k : Nat, k ≤ n2 ∧ s = .int .i64 k ∧ (∀ j, j < k → has (l.getD j []) (xs.getD j 0) = true) ∧ Drew w0 wr) (fun _ _ s _ => n2 - (intOf s).toNat)
  case atStart => exact ⟨0, Nat.zero_le _, rfl, by simp, Drew.refl _⟩
  case round =>
    obtain ⟨k, hk, rfl, hall, hd⟩ := hrel
    have Hall := Lib.hid hall
    clear hall
    have c0' := (hd.cell _).trans c0
    have et := e0.trans (Ext.ofDrew hd)
    by_cases hlt : k < n2
    · obtain ⟨b, off, rfl, hi, hc⟩ := HX.out k hlt
      obtain ⟨b1, o1, rfl, a1, n1, k1, hn1, hm1, -, hc1, ⟨y1, -, hy1⟩, -⟩ := HT.out k (by omega)
      replace hc := hc wr et
      replace hc1 := hc1 wr et
      have hcall := Contains_c wr _ y1 _ (xs.getD k 0) (hy1 wr et) hi
      have hkl : k < n := by omega
      have Hno : Hid (has (l.getD k []) (xs.getD k 0) = false → res = false) := fun h => H1.out k (by rw [← Hn2.out]; exact hlt) h
      have Hgo : Hid (has (l.getD k []) (xs.getD k 0) = true → ∀ j, j < k + 1 → has (l.getD j []) (xs.getD j 0) = true) := fun h j hj => by
        by_cases e : j = k
        · rw [e]; exact h
        · exact Hall.out j (by omega)
      generalize has (l.getD k []) (xs.getD k 0) = q at *
      generalize xs.getD k 0 = x at *
      clear hy1 hn1
      cases q with
      | true =>
        have HH := Lib.hid (Hgo.out rfl)
        go_wp2_with fail
        refine Calls.mono hcall ?_
        rintro e w2 ⟨rfl, hd2⟩
        clear hcall
        go_wp2_with fail
        go_roundw
        case rel => exact ⟨k+1, by omega, by go_num, HH.out, hd.trans hd2⟩
        case measure => simp [intOf]; omega
      | false =>
        have HH := Lib.hid (Hno.out rfl)
        go_wp2_with fail
        refine Calls.mono hcall ?_
        rintro e w2 ⟨rfl, hd2⟩
        clear hcall
        go_wp2_with fail
        go_ret
        exact ⟨.bool false, rfl, congrArg Value.bool HH.out.symm, et.trans (Ext.ofDrew hd2)⟩
    · have HH : Hid (res = true) := H2.out (fun j hj => Hall.out j (by have := Hn2.out; omega))
      go_wp2_with fail
      go_ret
      exact ⟨.bool true, rfl, congrArg Value.bool HH.out.symm, et⟩

set_option maxRecDepth 20000 in
set_option maxHeartbeats 1000000 in
theorem l04Opens_c (w : World) (v : Value) (z : Zone) (l : List (List Int)) (h : RowsR z w v l) (u : Value) (y : Zone) (xs : List Int) (hx : IntsR y w u xs) (hl : xs.length ≤ l.length) :
    Calls Try.prog 99 #[.agg #[v], u] w (Ret w fun r _ => r = .bool (opensB l xs)) := by
  have H1 : Hid (∀ i, i < xs.length → has (l.getD i []) (xs.getD i 0) = false → opensB l xs = false) := fun i hi h => opensB_no i hi h
  have H2 : Hid ((∀ i, i < xs.length → has (l.getD i []) (xs.getD i 0) = true) → opensB l xs = true) := opensB_yes
  generalize opensB l xs = res at *
  obtain ⟨a, n, cap, rfl, hn, hmax, -⟩ := SliceR.shape h
  obtain ⟨a2, n2, cap2, rfl, hn2, hmax2, -⟩ := SliceR.shape hx
  have HT := Lib.hid (fun (k : Nat) (hk : k < n) => rows_at h hk)
  have HX := Lib.hid (fun (k : Nat) (hk : k < n2) => ints_at hx hk)
  rw [← hn, ← hn2] at hl
  have Hn2 := Lib.hid hn2
  clear hn hn2 h hx
  go_enter Try.func99, Try.ntmps99
  go_wp2_with fail
  generalize hw0 : World.alloc _ _ = w0
  obtain ⟨e0, c0⟩ : Ext w w0 ∧ w0.cell? ⟨w.heap.size, 0, none⟩ = some (.slice a n cap) := by subst hw0; exact ⟨Ext.alloc _ _, by simp⟩
  clear hw0
  go_loopw [5] (fun s wr => ∃ k : Nat, k ≤ n2 ∧ s = .int .i64 k ∧ (∀ j, j < k → has (l.getD j []) (xs.getD j 0) = true) ∧ Drew w0 wr) (fun s _ => n2 - (intOf s).toNat)
  case atStart => exact ⟨0, Nat.zero_le _, rfl, by simp, Drew.refl _⟩
  case round =>
    obtain ⟨k, hk, rfl, hall, hd⟩ := hrel
    have Hall := Lib.hid hall
    clear hall
    have c0' := (hd.cell _).trans c0
    have et := e0.trans (Ext.ofDrew hd)
    by_cases hlt : k < n2
    · obtain ⟨b, off, rfl, hi, hc⟩ := HX.out k hlt
      obtain ⟨b1, o1, rfl, a1, n1, k1, hn1, hm1, -, hc1, ⟨y1, -, hy1⟩, -⟩ := HT.out k (by omega)
      replace hc := hc wr et
      replace hc1 := hc1 wr et
      have HC := Lib.hid (fun (m : Nat) => Has_c (wr.drewN m) _ y1 _ (xs.getD k 0) (hy1 _ (et.trans (Ext.drewN wr m))) hi)
      have hkl : k < n := by omega
      have Hno : Hid (has (l.getD k []) (xs.getD k 0) = false → res = false) := fun h => H1.out k (by rw [← Hn2.out]; exact hlt) h
      have Hgo : Hid (has (l.getD k []) (xs.getD k 0) = true → ∀ j, j < k + 1 → has (l.getD j []) (xs.getD j 0) = true) := fun h j hj => by
        by_cases e : j = k
        · rw [e]; exact h
        · exact Hall.out j (by omega)
      generalize has (l.getD k []) (xs.getD k 0) = q at *
      generalize xs.getD k 0 = x at *
      clear hy1 hn1
      cases q with
      | true =>
        have HH := Lib.hid (Hgo.out rfl)
        go_wp2_with fail
        go_quiet ((go_at_call 133; exact RetQ.quiet (HC.out _)))
        go_wp2_with fail
        go_roundw
        case rel => exact ⟨k+1, by omega, by go_num, HH.out, hd.drewN _⟩
        case measure => simp [intOf]; omega
      | false =>
        have HH := Lib.hid (Hno.out rfl)
        go_wp2_with fail
        go_quiet ((go_at_call 133; exact RetQ.quiet (HC.out _)))
        go_wp2_with fail
        go_ret
        exact ⟨.bool false, rfl, congrArg Value.bool HH.out.symm, et.trans (Ext.ofDrew ((Drew.refl _).drewN _))⟩
    · have HH : Hid (res = true) := H2.out (fun j hj => Hall.out j (by have := Hn2.out; omega))
      go_wp2_with fail
      go_ret
      exact ⟨.bool true, rfl, congrArg Value.bool HH.out.symm, et⟩
end Go.Proofs.Ytgagjibjnaappaa
