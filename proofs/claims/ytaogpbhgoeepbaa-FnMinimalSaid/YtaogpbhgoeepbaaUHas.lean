/- Proved: slices.Index, slices.Contains and spec.l01Has for lists of integers; two lists with a common element (impl.meets, spec.l26Common). -/
import Derived.Test.YtaogpbhgoeepbaaChecked
import Derived.Test.YtaogpbhgoeepbaaUFuncs
namespace Go.Proofs.Ytaogpbhgoeepbaa
open Go.ChangeShapes Go.WideShapes Go.ChangeAt Go.RowKit
set_option linter.unusedVariables false

def has (xs : List Int) (x : Int) : Bool := xs.any fun y => y == x
theorem has_at {xs : List Int} {x : Int} (k : Nat) (h : k < xs.length) (hx : xs.getD k 0 = x) : has xs x = true := by
  unfold has; rw [List.any_eq_true]; exact ⟨xs[k], List.getElem_mem h, by have : xs[k] = x := by simpa [h] using hx
                                                                          simp [this]⟩
theorem has_no {xs : List Int} {x : Int} (h : ∀ k, k < xs.length → xs.getD k 0 ≠ x) : has xs x = false := by
  unfold has; rw [List.any_eq_false]; intro y hy
  obtain ⟨i, hi, rfl⟩ := List.getElem_of_mem hy
  have := h i hi
  simpa [hi] using this
theorem has_iff {xs : List Int} {x : Int} : has xs x = true ↔ x ∈ xs := by simp [has]

set_option maxHeartbeats 400000 in
theorem Has_c (w : World) (v : Value) (z : Zone) (xs : List Int) (x : Int) (h : IntsR z w v xs) (hx : I64 x) :
    Calls Try.prog 63 #[v, .int .i64 x] w (RetQ w (.bool (has xs x))) := by
  obtain ⟨a, len, cap, rfl, hlen, hmax, -, -, -, hel⟩ := IntsR.shape h
  have Hlen := Lib.hid hlen; clear hlen h
  have Hel := Lib.hid hel; clear hel
  unfold I64 at hx
  obtain ⟨n1, n2⟩ := hx
  go_enter Try.func63, Try.ntmps63
  go_wp2
  go_loop [5] (fun t => ∃ i : Nat, i ≤ len ∧ t = .int .i64 i ∧ ∀ j, j < i → xs.getD j 0 ≠ x) (fun t => len - (intOf t).toNat)
  case atStart => exact ⟨0, Nat.zero_le _, rfl, by simp⟩
  case round =>
    obtain ⟨i, hi, rfl, hall⟩ := hrel
    have Hall := Lib.hid hall; clear hall
    by_cases hlt : i < len
    · obtain ⟨b, off, rfl, hc, ⟨hx1, hx2⟩, -⟩ := Hel.out i hlt
      have Hgo : Hid (xs.getD i 0 ≠ x → ∀ j, j < i + 1 → xs.getD j 0 ≠ x) := fun h j hj => by
        by_cases e : j = i
        · rw [e]; exact h
        · exact Hall.out j (by omega)
      have Hyes : Hid (xs.getD i 0 = x → has xs x = true) := fun h => has_at i (by have := Hlen.out; omega) h
      generalize xs.getD i 0 = y at *
      by_cases hyx : y = x
      · have HH := Lib.hid (Hyes.out hyx)
        have hb : (y == x) = true := by simpa using hyx
        clear Hyes hyx
        go_wp2
        go_ret
        exact ⟨ret_bool' HH.out, Drew.refl _⟩
      · have HH := Lib.hid (Hgo.out hyx)
        have hb : (y == x) = false := by simpa using hyx
        clear Hgo hyx
        go_wp2
        go_round
        case rel => exact ⟨i + 1, by omega, by go_num, HH.out⟩
        case measure => simp [intOf]; omega
    · go_wp2
      go_ret
      exact ⟨ret_bool' (has_no (fun j hj => Hall.out j (by have := Hlen.out; omega))), Drew.refl _⟩

set_option maxHeartbeats 400000 in
theorem Index_c (w : World) (v : Value) (z : Zone) (xs : List Int) (x : Int) (h : IntsR z w v xs) (hx : I64 x) :
    Calls Try.prog 68 #[v, .int .i64 x] w (RetQ w (.int .i64 (idxR (fun y => y == x) xs))) := by
  obtain ⟨a, len, cap, rfl, hlen, hmax, -, -, -, hel⟩ := IntsR.shape h
  have Hlen := Lib.hid hlen; clear hlen h
  have Hel := Lib.hid hel; clear hel
  unfold I64 at hx
  obtain ⟨n1, n2⟩ := hx
  go_enter Try.func68, Try.ntmps68
  go_wp2
  go_loop [8] (fun t => ∃ i : Nat, i ≤ len ∧ t = .int .i64 i ∧ (∀ j, j < i → xs.getD j 0 ≠ x)) (fun t => len - (intOf t).toNat)
  case atStart => exact ⟨0, Nat.zero_le _, rfl, by simp⟩
  case round =>
    obtain ⟨i, hi, rfl, hall⟩ := hrel
    have Hall := Lib.hid hall; clear hall
    by_cases hlt : i < len
    · obtain ⟨b, off, rfl, hc, ⟨hx1, hx2⟩, -⟩ := Hel.out i hlt
      have Hgo : Hid (xs.getD i 0 ≠ x → ∀ j, j < i + 1 → xs.getD j 0 ≠ x) := fun h j hj => by
        by_cases e : j = i
        · rw [e]; exact h
        · exact Hall.out j (by omega)
      have Hyes : Hid (xs.getD i 0 = x → idxR (fun y => y == x) xs = i) := fun h => by
        have hl := Hlen.out
        refine idxR_at _ xs i (by omega) ?_ (fun j hj hji => ?_)
        · have : xs[i]'(by omega) = x := by simpa [show i < xs.length by omega] using h
          simpa using this
        · have := Hall.out j hji
          simpa [hj] using this
      generalize xs.getD i 0 = y at *
      by_cases hyx : y = x
      · have HH := Lib.hid (Hyes.out hyx)
        have hb : (x == y) = true := by simpa using Eq.symm hyx
        clear Hyes hyx
        go_wp2
        go_ret
        exact ⟨ret_int HH.out.symm, Drew.refl _⟩
      · have HH := Lib.hid (Hgo.out hyx)
        have hb : (x == y) = false := by simpa using fun h => hyx (Eq.symm h)
        clear Hgo hyx
        go_wp2
        go_round
        case rel => exact ⟨i + 1, by omega, by go_num, HH.out⟩
        case measure => simp [intOf]; omega
    · go_wp2
      go_ret
      refine ⟨ret_int (idxR_none _ xs (fun j hj => ?_)).symm, Drew.refl _⟩
      have := Hall.out j (by have := Hlen.out; omega)
      simpa [hj] using this

theorem Contains_c (w : World) (v : Value) (z : Zone) (xs : List Int) (x : Int) (h : IntsR z w v xs) (hx : I64 x) :
    Calls Try.prog 101 #[v, .int .i64 x] w (RetQ w (.bool (has xs x))) := by
  have hc := Index_c w v z xs x h hx
  have H : Hid (decide (0 ≤ idxR (fun y => y == x) xs) = has xs x) := idxR_any _ xs
  clear h hx
  generalize idxR (fun y => y == x) xs = k at *
  go_enter Try.func101, Try.ntmps101
  go_wp2_with fail
  refine Calls.mono hc ?_
  rintro e w2 ⟨rfl, hd⟩
  clear hc
  go_wp2_with fail
  go_ret
  exact ⟨ret_bool H.out, hd⟩

/-! ### a common element -/
def common (a b : List Int) : Bool := a.any fun x => has b x
theorem common_at {xs ys : List Int} (k : Nat) (h : k < xs.length) (hx : has ys (xs.getD k 0) = true) : common xs ys = true := by
  unfold common; rw [List.any_eq_true]; exact ⟨xs[k], List.getElem_mem h, by simpa [h] using hx⟩
theorem common_no {xs ys : List Int} (h : ∀ k, k < xs.length → has ys (xs.getD k 0) = false) : common xs ys = false := by
  unfold common; rw [List.any_eq_false]; intro y hy
  obtain ⟨i, hi, rfl⟩ := List.getElem_of_mem hy
  have := h i hi
  simpa [hi] using this

set_option maxHeartbeats 400000 in
theorem Common_c (w : World) (u v : Value) (y z : Zone) (xs ys : List Int) (h : IntsR y w u xs) (h' : IntsR z w v ys) :
    Calls Try.prog 62 #[u, v] w (RetQ w (.bool (common xs ys))) := by
  obtain ⟨a, len, cap, rfl, hlen, hmax, -, -, -, hel⟩ := IntsR.shape h
  have Hlen := Lib.hid hlen; clear hlen h
  have Hel := Lib.hid hel; clear hel
  go_enter Try.func62, Try.ntmps62
  go_wp2
  go_loopw [5] (fun t wr => ∃ i : Nat, i ≤ len ∧ t = .int .i64 i ∧ (∀ j, j < i → has ys (xs.getD j 0) = false) ∧ Drew w wr) (fun t _ => len - (intOf t).toNat)
  case atStart => exact ⟨0, Nat.zero_le _, rfl, by simp, Drew.refl _⟩
  case round =>
    obtain ⟨i, hi, rfl, hall, hd⟩ := hrel
    have Hall := Lib.hid hall; clear hall
    by_cases hlt : i < len
    · obtain ⟨b, off, rfl, hc, hx, -⟩ := Hel.out i hlt
      replace hc := (hd.cell _).trans hc
      have Hgo : Hid (has ys (xs.getD i 0) = false → ∀ j, j < i + 1 → has ys (xs.getD j 0) = false) := fun h j hj => by
        by_cases e : j = i
        · rw [e]; exact h
        · exact Hall.out j (by omega)
      have Hyes : Hid (has ys (xs.getD i 0) = true → common xs ys = true) := fun h => common_at i (by have := Hlen.out; omega) h
      generalize xs.getD i 0 = x at *
      have hcall := Has_c wr v z ys x (stable_ints.drew h' hd) hx
      generalize has ys x = q at *
      go_wp2_with fail
      refine Calls.mono hcall ?_
      rintro e w2 ⟨rfl, hd2⟩
      clear hcall
      cases q with
      | true =>
        go_wp2
        go_ret
        exact ⟨ret_bool' (Hyes.out (by simp)), hd.trans hd2⟩
      | false =>
        go_wp2
        go_roundw
        case rel => exact ⟨i + 1, by omega, by go_num, Hgo.out (by simp), hd.trans hd2⟩
        case measure => simp [intOf]; omega
    · go_wp2
      go_ret
      exact ⟨ret_bool' (common_no (fun j hj => Hall.out j (by have := Hlen.out; omega))), hd⟩

theorem Try.goesMeets1 : Goes Try.prog 112 := goes_of Try.func112 (by kernel_rfl) (by kernel_rfl)

theorem meets1_c (w : World) (x : Int) (hx : I64 x) (a : Addr) (v : Value) (z : Zone) (ys : List Int) (hc : w.cell? a = some v) (h' : IntsR z w v ys) :
    Calls Try.prog 112 #[.int .i64 x, .pointer (some a)] w (RetQ w (.bool (has ys x))) := by
  have hcall := Contains_c w v z ys x h' hx
  generalize has ys x = q at *
  go_enter Try.func112, Try.ntmps112
  go_wp2_with fail
  refine Calls.mono hcall ?_
  rintro e w2 ⟨rfl, hd⟩
  clear hcall
  go_wp2_with fail
  go_ret
  exact ⟨rfl, hd⟩

theorem meets_c (w : World) (u v : Value) (y z : Zone) (xs ys : List Int) (h : IntsR y w u xs) (h' : IntsR z w v ys) :
    Calls Try.prog 67 #[u, v] w (Ret w fun r _ => r = .bool (common xs ys)) := by
  obtain ⟨a, n, cap, rfl, -⟩ := IntsR.shape h'
  have hcall : Calls Try.prog 95 #[u, .func (.func 112) #[] #[.pointer (some ⟨w.heap.size, 0, none⟩)]] (w.alloc (.cells #[.slice a n cap] 25)) _ :=
    ContainsFuncInts_c (w.alloc (.cells #[.slice a n cap] 25)) u y xs (stable_ints.below h ((Below.refl _ _).alloc (Nat.le_refl _) _)) _ Try.goesMeets1 #[.pointer (some ⟨w.heap.size, 0, none⟩)] (has ys) (fun i hi w1 u hb hu => by
      obtain ⟨rfl, hx⟩ := hu
      refine (meets1_c w1 _ hx ⟨w.heap.size, 0, none⟩ (.slice a n cap) z ys ?_ (stable_ints.below (stable_ints.below h' ((Below.refl _ _).alloc (Nat.le_refl _) _)) hb)).mono (fun _ _ hq => hq.ret)
      rw [hb.cell (by simp)]; simp)
  go_enter Try.func67, Try.ntmps67
  go_wp2_with fail
  refine Calls.mono hcall ?_
  rintro e w2 ⟨r, rfl, rfl, hb⟩
  clear hcall
  go_wp2_with fail
  go_ret
  exact ⟨_, rfl, rfl, ((Below.refl _ _).alloc (Nat.le_refl _) _).trans (hb.mono (by simp))⟩
end Go.Proofs.Ytaogpbhgoeepbaa
