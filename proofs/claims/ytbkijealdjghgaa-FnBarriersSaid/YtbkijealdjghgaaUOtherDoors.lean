/- Proved: all doors but some: program and reference. -/
import Derived.Test.YtbkijealdjghgaaChecked
import Derived.Test.YtbkijealdjghgaaURoomsCode
import Derived.Test.YtbkijealdjghgaaUHas
import Derived.Test.YtbkijealdjghgaaUReachSpec
namespace Go.Proofs.Ytbkijealdjghgaa
open Go.ChangeShapes Go.WideShapes Go.ChangeAt Go.RowKit
set_option linter.unusedVariables false

/-- all doors but some -/
def otherDoors (n : Nat) (shut : List Int) : List Int := upto (fun i => !has shut i) n

set_option maxRecDepth 20000 in
set_option maxHeartbeats 1000000 in
theorem otherDoors_c (w : World) (v vs : Value) (z y : Zone) (x : Int × List (List Int)) (shut : List Int) (h : RoomsR z w v x) (hs : IntsR y w vs shut) (hn12 : x.2.length ≤ 12) :
    Calls Try.prog 30 #[v, vs] w (Ret w fun r w' => IntsR (.new w w') w' r (otherDoors x.2.length shut)) := by
  obtain ⟨c, ds⟩ := x
  obtain ⟨u, rfl, hc, hrr⟩ := h
  obtain ⟨a, n, cap, rfl, hn, hm, -⟩ := SliceR.shape hrr
  simp only at hn12 ⊢
  rw [← hn] at hn12 ⊢
  clear hn hrr hc
  have HO : Hid (otherDoors n shut = upto (fun i => !has shut i) n) := rfl
  generalize otherDoors n shut = out at *
  go_enter Try.func30, Try.ntmps30
  go_wp2_with fail
  generalize hw0 : World.alloc (World.alloc w _) _ = w0
  have b0 : Below w.heap.size w w0 := by rw [← hw0]; exact ((Below.refl _ _).alloc (Nat.le_refl _) _).alloc (by simp) _
  have q1 : w0.cell? ⟨w.heap.size, 1, none⟩ = some (.slice a n cap) := by rw [← hw0]; clear hw0; go_simp
  have hsz : w0.heap.size = w.heap.size + 2 := by rw [← hw0]; simp
  have o0 : OwnP (Value.int .i64) 2 (w.heap.size + 1) w0 (.slice (some ⟨w.heap.size + 1, 0, none⟩) 0 0) [] := by
    rw [← hw0]
    have := OwnP.empty (f := Value.int .i64) (e := 2) (w := w.alloc (Obj.cells #[Value.int .i64 c, Value.slice a n cap] 26)) (B := w.heap.size + 1) (by simp)
    simpa using this
  clear hw0
  go_wp2_with fail
  go_loopw [5, 11] (fun o s wr => ∃ k : Nat, k ≤ n ∧ s = .int .i64 k ∧ OwnP (Value.int .i64) 2 (w.heap.size + 1) wr o (upto (fun i => !has shut i) k) ∧ Below (w.heap.size + 1) w0 wr ∧ w0.heap.size ≤ wr.heap.size) (fun _ s _ => n - (intOf s).toNat)
  case atStart => exact ⟨0, Nat.zero_le _, rfl, o0, Below.refl _ _, Nat.le_refl _⟩
  case round =>
    obtain ⟨k, hk, rfl, hown, hbk, hzz⟩ := hrel
    have q1' := (hbk.cell (p := ⟨w.heap.size, 1, none⟩) (by show w.heap.size < w.heap.size + 1; omega)).trans q1
    by_cases hlt : k < n
    · have hbw : Below w.heap.size w wr := b0.trans (hbk.mono (by omega))
      have hcall := Contains_c wr vs y shut (k : Int) (stable_ints.below hs hbw) (by unfold I64; omega)
      have HY := Lib.hid (upto_yes (p := fun i : Int => !has shut i) (k := k))
      have HN := Lib.hid (upto_no (p := fun i : Int => !has shut i) (k := k))
      have HL := Lib.hid (upto_length (fun i : Int => !has shut i) k)
      generalize has shut (k : Int) = q at *
      generalize upto (fun i : Int => !has shut i) k = up at *
      go_wp2_with fail
      refine Calls.mono hcall ?_
      rintro e w5 ⟨rfl, hd5⟩
      clear hcall
      have hown5 : OwnP (Value.int .i64) 2 (w.heap.size + 1) w5 u5 up := hown.below (hd5.below _)
      have hb5 := hbk.trans (hd5.below (w.heap.size + 1))
      have hz5 : w0.heap.size ≤ w5.heap.size := by rw [hd5.size]; exact hzz
      cases q with
      | false =>
        go_wp2_with (at_builtin; (refine wpList_append1 (f := Value.int .i64) (e := 2) (B := w.heap.size + 1) (xs := up) rfl _ _ 29 rfl 0 8 Try.underlying29 Try.infoI64 rfl (fun _ => rfl) rfl hown5 (k : Int) rfl (by have := HL.out; omega) (by omega) (by omega) ?_); intro v6 w6 hown6 hg6 hb6)
        go_roundw
        case rel => exact ⟨k + 1, by omega, by go_num, by rw [HY.out rfl]; exact hown6, hb5.trans hb6, Nat.le_trans hz5 hb6.size⟩
        case measure => simp [intOf]; omega
      | true =>
        go_wp2_with fail
        go_roundw
        case rel => exact ⟨k + 1, by omega, by go_num, by rw [HN.out rfl]; exact hown5, hb5, hz5⟩
        case measure => simp [intOf]; omega
    · obtain rfl : k = n := by omega
      have hm : ∀ x ∈ out, I64 x := by rw [HO.out]; exact upto_i64 (by omega)
      rw [← HO.out] at hown
      clear HO
      go_wp2_with fail
      go_ret
      exact ⟨_, rfl, OwnP.ints hown hm (by omega), b0.trans (hbk.mono (by omega))⟩

set_option maxRecDepth 20000 in
set_option maxHeartbeats 1000000 in
theorem l25But_c (w : World) (v vs : Value) (z y : Zone) (x : Int × List (List Int)) (shut : List Int) (h : RoomsR z w v x) (hs : IntsR y w vs shut) (hn12 : x.2.length ≤ 12) :
    Calls Try.prog 34 #[v, vs] w (Ret w fun r w' => IntsR (.new w w') w' r (otherDoors x.2.length shut)) := by
  obtain ⟨c, ds⟩ := x
  obtain ⟨u, rfl, hc, hrr⟩ := h
  obtain ⟨a, n, cap, rfl, hn, hm, -⟩ := SliceR.shape hrr
  simp only at hn12 ⊢
  rw [← hn] at hn12 ⊢
  clear hn hrr hc
  have HO : Hid (otherDoors n shut = upto (fun i => !has shut i) n) := rfl
  generalize otherDoors n shut = out at *
  go_enter Try.func34, Try.ntmps34
  go_wp2_with fail
  generalize hw0 : World.alloc (World.alloc w _) _ = w0
  have b0 : Below w.heap.size w w0 := by rw [← hw0]; exact ((Below.refl _ _).alloc (Nat.le_refl _) _).alloc (by simp) _
  have q1 : w0.cell? ⟨w.heap.size, 1, none⟩ = some (.slice a n cap) := by rw [← hw0]; clear hw0; go_simp
  have hsz : w0.heap.size = w.heap.size + 2 := by rw [← hw0]; simp
  have o0 : OwnP (Value.int .i64) 2 (w.heap.size + 1) w0 (.slice (some ⟨w.heap.size + 1, 0, none⟩) 0 0) [] := by
    rw [← hw0]
    have := OwnP.empty (f := Value.int .i64) (e := 2) (w := w.alloc (Obj.cells #[Value.int .i64 c, Value.slice a n cap] 26)) (B := w.heap.size + 1) (by simp)
    simpa using this
  clear hw0
  go_loopw [5, 6] (fun o s wr => ∃ k : Nat, k ≤ n ∧ s = .int .i64 k ∧ OwnP (Value.int .i64) 2 (w.heap.size + 1) wr o (upto (fun i => !has shut i) k) ∧ Below (w.heap.size + 1) w0 wr ∧ w0.heap.size ≤ wr.heap.size) (fun _ s _ => n - (intOf s).toNat)
  case atStart => exact ⟨0, Nat.zero_le _, rfl, o0, Below.refl _ _, Nat.le_refl _⟩
  case round =>
    obtain ⟨k, hk, rfl, hown, hbk, hzz⟩ := hrel
    have q1' := (hbk.cell (p := ⟨w.heap.size, 1, none⟩) (by show w.heap.size < w.heap.size + 1; omega)).trans q1
    by_cases hlt : k < n
    · have hbw : Below w.heap.size w wr := b0.trans (hbk.mono (by omega))
      have hcall := Has_c wr vs y shut (k : Int) (stable_ints.below hs hbw) (by unfold I64; omega)
      have HY := Lib.hid (upto_yes (p := fun i : Int => !has shut i) (k := k))
      have HN := Lib.hid (upto_no (p := fun i : Int => !has shut i) (k := k))
      have HL := Lib.hid (upto_length (fun i : Int => !has shut i) k)
      generalize has shut (k : Int) = q at *
      generalize upto (fun i : Int => !has shut i) k = up at *
      go_wp2_with fail
      refine Calls.mono hcall ?_
      rintro e w5 ⟨rfl, hd5⟩
      clear hcall
      have hown5 : OwnP (Value.int .i64) 2 (w.heap.size + 1) w5 u5 up := hown.below (hd5.below _)
      have hb5 := hbk.trans (hd5.below (w.heap.size + 1))
      have hz5 : w0.heap.size ≤ w5.heap.size := by rw [hd5.size]; exact hzz
      cases q with
      | false =>
        go_wp2_with (at_builtin; (refine wpList_append1 (f := Value.int .i64) (e := 2) (B := w.heap.size + 1) (xs := up) rfl _ _ 29 rfl 0 8 Try.underlying29 Try.infoI64 rfl (fun _ => rfl) rfl hown5 (k : Int) rfl (by have := HL.out; omega) (by omega) (by omega) ?_); intro v6 w6 hown6 hg6 hb6)
        go_roundw
        case rel => exact ⟨k + 1, by omega, by go_num, by rw [HY.out rfl]; exact hown6, hb5.trans hb6, Nat.le_trans hz5 hb6.size⟩
        case measure => simp [intOf]; omega
      | true =>
        go_wp2_with fail
        go_roundw
        case rel => exact ⟨k + 1, by omega, by go_num, by rw [HN.out rfl]; exact hown5, hb5, hz5⟩
        case measure => simp [intOf]; omega
    · obtain rfl : k = n := by omega
      have hm : ∀ x ∈ out, I64 x := by rw [HO.out]; exact upto_i64 (by omega)
      rw [← HO.out] at hown
      clear HO
      go_wp2_with fail
      go_ret
      exact ⟨_, rfl, OwnP.ints hown hm (by omega), b0.trans (hbk.mono (by omega))⟩

theorem upto_getElem_lt {p : Int → Bool} : ∀ {k i j : Nat} (hij : i < j) (hj : j < (upto p k).length), (upto p k)[i] < (upto p k)[j] := by
  intro k i j hij hj
  have h : (upto p k).Pairwise (· < ·) := by
    unfold upto
    rw [List.pairwise_map]
    refine List.Pairwise.imp (fun h => by omega) ((List.pairwise_lt_range).filter _)
  exact List.pairwise_iff_getElem.1 h i j (by omega) hj hij
theorem otherDoors_rising (n : Nat) (shut : List Int) : rising (otherDoors n shut) n = true := by
  unfold rising
  rw [List.all_eq_true]
  intro i hi
  have hil : i < (otherDoors n shut).length := List.mem_range.1 hi
  have hm := upto_mem.1 (List.getElem_mem (l := otherDoors n shut) hil)
  unfold risingAt
  rw [decide_eq_true_iff]
  have e : (otherDoors n shut).getD i 0 = (otherDoors n shut)[i] := by simp [hil]
  refine ⟨by rw [e]; exact hm.1, by rw [e]; exact hm.2.1, fun h0 => ?_⟩
  have e2 : (otherDoors n shut).getD (i - 1) 0 = (otherDoors n shut)[i - 1] := by
    have : i - 1 < (otherDoors n shut).length := by omega
    simp [this]
  rw [e, e2]
  exact upto_getElem_lt (by omega) hil
theorem has_upto (p : Int → Bool) (k : Nat) (t : Int) (h : 0 ≤ t) (h' : t < k) : has (upto p k) t = p t := by
  rw [Bool.eq_iff_iff]
  have : has (upto p k) t = true ↔ t ∈ upto p k := by simp [has]
  rw [this, upto_mem]
  exact ⟨fun ⟨_, _, h⟩ => h, fun hp => ⟨h, h', hp⟩⟩
theorem has_reach {c : Int} {ds : List (List Int)} {f t : Int} {op : List Int} (h : 0 ≤ t) (h' : t < c) : has (reachInts c ds f op) t = (reachL c ds f op).getD t.toNat false :=
  has_upto _ _ _ h (by omega)
end Go.Proofs.Ytbkijealdjghgaa
