/- Proved: the elements of a set that is told by its bits; how lists are compared. -/
import Derived.Test.YtbkijealdjghgaaChecked
import Derived.Lib.Hide
import Derived.Test.YtbkijealdjghgaaULeastLaw
import Derived.Test.YtbkijealdjghgaaUPkA
namespace Go.Proofs.Ytbkijealdjghgaa
open Go.ChangeShapes Go.WideShapes Go.ChangeAt Go.RowKit
set_option linter.unusedVariables false

theorem cmpInt_c (w : World) (x y : Int) : Calls Try.prog 70 #[.int .i64 x, .int .i64 y] w (RetQ w (.int .i64 (if x < y then -1 else if y < x then 1 else 0))) := by
  by_cases h1 : x < y
  · have HH : Hid ((if x < y then -1 else if y < x then 1 else 0 : Int) = -1) := by show _ = _; rw [if_pos h1]
    generalize (if x < y then -1 else if y < x then 1 else 0 : Int) = res at *
    go_enter Try.func70, Try.ntmps70
    go_wp2
    go_ret
    exact ⟨congrArg _ (congrArg _ HH.out.symm), Drew.refl _⟩
  · by_cases h2 : y < x
    · have HH : Hid ((if x < y then -1 else if y < x then 1 else 0 : Int) = 1) := by show _ = _; rw [if_neg h1, if_pos h2]
      generalize (if x < y then -1 else if y < x then 1 else 0 : Int) = res at *
      go_enter Try.func70, Try.ntmps70
      go_wp2
      go_ret
      exact ⟨congrArg _ (congrArg _ HH.out.symm), Drew.refl _⟩
    · have HH : Hid ((if x < y then -1 else if y < x then 1 else 0 : Int) = 0) := by show _ = _; rw [if_neg h1, if_neg h2]
      generalize (if x < y then -1 else if y < x then 1 else 0 : Int) = res at *
      go_enter Try.func70, Try.ntmps70
      go_wp2
      go_ret
      exact ⟨congrArg _ (congrArg _ HH.out.symm), Drew.refl _⟩

theorem bits_and_one (q : Nat) (h : q < 9223372036854775808) : bits .and .i64 (q : Int) 1 = ((q % 2 : Nat) : Int) := by
  have h1 : (BitVec.ofInt 64 (q : Int)).toNat = q := by
    rw [BitVec.ofInt_natCast, BitVec.toNat_ofNat]; exact Nat.mod_eq_of_lt (by omega)
  show IntKind.i64.wrap ((BitVec.ofInt 64 (q : Int) &&& BitVec.ofInt 64 1).toNat : Int) = _
  have h2 : (BitVec.ofInt 64 1).toNat = 1 := by decide
  rw [BitVec.toNat_and, h1, h2, Nat.and_one_is_mod, IntKind.wrap_i64]
  omega
theorem bit_test (s i : Nat) (h : s < 9223372036854775808) : (bits .and .i64 ((s / 2 ^ i : Nat) : Int) 1 == 1) = s.testBit i := by
  have hd : s / 2 ^ i ≤ s := Nat.div_le_self _ _
  rw [bits_and_one _ (by omega), Nat.testBit_eq_decide_div_mod_eq, Bool.eq_iff_iff, beq_iff_eq, decide_eq_true_iff]
  omega
theorem OwnP.some_of_ne {α : Type} {f : α → Value} {e : TypeId} {B : Nat} {w : World} {v : Value} {xs : List α} (h : OwnP f e B w v xs) (hx : 0 < xs.length) : ∃ g m c, v = .slice (some ⟨g, 0, Option.none⟩) m c := by
  obtain ⟨a, n, cap, rfl, hn, -, hel⟩ := h.shape
  obtain ⟨b, rfl, -⟩ := hel 0 hx
  exact ⟨b, n, cap, rfl⟩

set_option maxRecDepth 20000 in
set_option maxHeartbeats 400000 in
theorem members_c (w : World) (n s : Nat) (hn : n ≤ 40) (hs : s < 2 ^ n) :
    Calls Try.prog 48 #[.int .i64 s] w (Ret w fun r w' => OwnP (Value.int .i64) 2 w.heap.size w' r (bitsL n s) ∧ ∃ g m c, r = .slice (some ⟨g, 0, none⟩) m c) := by
  have hs40 : s < 1099511627776 := Nat.lt_of_lt_of_le hs (Nat.le_trans (Nat.pow_le_pow_right (by omega) hn) (by decide))
  have HS := Lib.hid hs; clear hs
  go_enter Try.func48, Try.ntmps48
  go_wp2_with fail
  generalize hw0 : World.alloc w _ = w0
  have b0 : Ext w w0 := by rw [← hw0]; exact Ext.alloc _ _
  have o0 : OwnP (Value.int .i64) 2 w.heap.size w0 (.slice (some ⟨w.heap.size, 0, none⟩) 0 0) [] := by rw [← hw0]; exact OwnP.empty (Nat.le_refl _)
  clear hw0
  go_loopw [3, 0, 4] (fun o t k wr => ∃ i q : Nat, k = .int .i64 i ∧ t = .int .i64 q ∧ i ≤ 41 ∧ q = s / 2 ^ i ∧ OwnP (Value.int .i64) 2 w.heap.size wr o (bitsL i s) ∧ (∃ g m c, o = .slice (some ⟨g, 0, none⟩) m c) ∧ Ext w wr) (fun _ t _ _ => (intOf t).toNat)
  case atStart => exact ⟨0, s, rfl, rfl, by omega, by simp, o0, ⟨_, _, _, rfl⟩, b0⟩
  case round =>
    obtain ⟨i, q, rfl, rfl, hi, hq, hown, hg, hb⟩ := hrel
    have hbs := hb.size
    have hqs : q < 1099511627776 := by have : s / 2 ^ i ≤ s := Nat.div_le_self _ _; omega
    by_cases h0 : 0 < q
    · have hi40 : i < n := by
        refine Nat.lt_of_not_le (fun hni => ?_)
        have : s < 2 ^ i := Nat.lt_of_lt_of_le HS.out (Nat.pow_le_pow_right (by omega) hni)
        rw [Nat.div_eq_of_lt this] at hq; omega
      have hbit : (bits .and .i64 (q : Int) 1 == 1) = s.testBit i := by rw [hq]; exact bit_test s i (by omega)
      have Hq2 : Hid (q / 2 = s / 2 ^ (i + 1)) := by show _ = _; rw [hq, Nat.pow_succ, Nat.div_div_eq_div_mul]
      have HB := Lib.hid (bitsL_succ i s)
      have HL := Lib.hid (upto_length (fun j => s.testBit j.toNat) i)
      have HL2 : Hid ((bitsL i s).length ≤ i) := Lib.hid HL.out
      clear HL hq
      generalize bitsL i s = up at *
      cases hbb : s.testBit i with
      | true =>
        rw [hbb] at hbit HB
        have HB' := Lib.hid (HB.out.trans rfl)
        clear HB hbb
        go_wp2_with (at_builtin; (refine wpList_append1 (f := Value.int .i64) (e := 2) (B := w.heap.size) (xs := up) rfl _ _ 29 rfl 0 8 Try.underlying29 Try.infoI64 rfl (fun _ => rfl) rfl hown (i : Int) rfl (by have := HL2.out; omega) (by omega) hbs ?_); intro v6 w6 hown6 hg6 hb6)
        have hsome := hown6.some_of_ne (by simp)
        go_roundw
        case rel => exact ⟨i + 1, q / 2, by go_num, by go_num, by omega, Hq2.out, by rw [HB'.out]; exact hown6, hsome, Below.trans hb hb6⟩
        case measure => simp [intOf]; omega
      | false =>
        rw [hbb] at hbit HB
        have HB' : Hid (bitsL (i + 1) s = up) := Lib.hid (HB.out.trans (by simp))
        clear HB hbb
        go_wp2_with fail
        go_roundw
        case rel => exact ⟨i + 1, q / 2, by go_num, by go_num, by omega, Hq2.out, by rw [HB'.out]; exact hown, hg, hb⟩
        case measure => simp [intOf]; omega
    · obtain rfl : q = 0 := by omega
      have hlt : s < 2 ^ i := by
        refine Nat.lt_of_not_le (fun h => ?_)
        have := Nat.div_pos h (Nat.two_pow_pos i); omega
      have he := bitsL_stop HS.out hlt
      rw [he] at hown
      clear he hq
      go_wp2_with fail
      go_ret
      exact ⟨_, rfl, ⟨hown, hg⟩, hb⟩

set_option maxRecDepth 20000 in
set_option maxHeartbeats 400000 in
theorem CompareInts_c (w : World) (u v : Value) (y z : Zone) (xs ys : List Int) (h : IntsR y w u xs) (h' : IntsR z w v ys) :
    Calls Try.prog 64 #[u, v] w (RetQ w (.int .i64 (cmpL xs ys))) := by
  obtain ⟨a, n, cap, rfl, hn, hm, -, -, -, hel⟩ := IntsR.shape h
  obtain ⟨a', n', cap', rfl, hn', hm', -, -, -, hel'⟩ := IntsR.shape h'
  have Hn := Lib.hid hn; clear hn
  have Hn' := Lib.hid hn'; clear hn'
  have Hel := Lib.hid hel; clear hel
  have Hel' := Lib.hid hel'; clear hel' h h'
  go_enter Try.func64, Try.ntmps64
  go_wp2_with fail
  go_loopw [11] (fun t wr => ∃ k : Nat, k ≤ n ∧ k ≤ n' ∧ t = .int .i64 k ∧ cmpL xs ys = cmpL (xs.drop k) (ys.drop k) ∧ Drew w wr) (fun t _ => n - (intOf t).toNat)
  case atStart => exact ⟨0, Nat.zero_le _, Nat.zero_le _, rfl, rfl, Drew.refl _⟩
  case round =>
    obtain ⟨k, hk, hk', rfl, hc, hd⟩ := hrel
    have HC := Lib.hid hc; clear hc
    by_cases hlt : k < n
    · have l1 : k < xs.length := by rw [← Hn.out]; exact hlt
      obtain ⟨b, off, rfl, hcc, -, -⟩ := Hel.out k hlt
      replace hcc := (hd.cell _).trans hcc
      by_cases hlt' : k < n'
      · have l2 : k < ys.length := by rw [← Hn'.out]; exact hlt'
        obtain ⟨b', off', rfl, hcc', -, -⟩ := Hel'.out k hlt'
        replace hcc' := (hd.cell _).trans hcc'
        have e1 : xs.getD k 0 = xs[k] := by simp [l1]
        have e2 : ys.getD k 0 = ys[k] := by simp [l2]
        have HS : Hid (cmpL (xs.drop k) (ys.drop k) = if xs[k] < ys[k] then -1 else if ys[k] < xs[k] then 1 else cmpL (xs.drop (k+1)) (ys.drop (k+1))) := by
          show _ = _
          rw [List.drop_eq_getElem_cons l1, List.drop_eq_getElem_cons l2]; rfl
        rw [e1] at hcc
        rw [e2] at hcc'
        have hcall := cmpInt_c wr xs[k] ys[k]
        generalize xs[k] = p at *
        generalize ys[k] = q at *
        by_cases h1 : p < q
        · rw [if_pos h1] at hcall
          have HH : Hid (cmpL xs ys = -1) := by show _ = _; rw [HC.out, HS.out, if_pos h1]
          clear HC HS e1 e2
          go_wp2_with fail
          refine Calls.mono hcall ?_
          rintro e w5 ⟨rfl, hd5⟩
          go_wp2_with fail
          go_ret
          exact ⟨congrArg _ (congrArg _ HH.out.symm), hd.trans hd5⟩
        · rw [if_neg h1] at hcall
          by_cases h2 : q < p
          · rw [if_pos h2] at hcall
            have HH : Hid (cmpL xs ys = 1) := by show _ = _; rw [HC.out, HS.out, if_neg h1, if_pos h2]
            clear HC HS e1 e2
            go_wp2_with fail
            refine Calls.mono hcall ?_
            rintro e w5 ⟨rfl, hd5⟩
            go_wp2_with fail
            go_ret
            exact ⟨congrArg _ (congrArg _ HH.out.symm), hd.trans hd5⟩
          · rw [if_neg h2] at hcall
            have HH : Hid (cmpL xs ys = cmpL (xs.drop (k+1)) (ys.drop (k+1))) := by show _ = _; rw [HC.out, HS.out, if_neg h1, if_neg h2]
            clear HC HS e1 e2
            go_wp2_with fail
            refine Calls.mono hcall ?_
            rintro e w5 ⟨rfl, hd5⟩
            go_wp2_with fail
            go_roundw
            case rel => exact ⟨k + 1, by omega, by omega, by go_num, HH.out, hd.trans hd5⟩
            case measure => simp [intOf]; omega
      · have HH : Hid (cmpL xs ys = 1) := by
          show _ = _
          rw [HC.out, List.drop_eq_getElem_cons l1, (List.drop_eq_nil_iff.2 (by rw [← Hn'.out]; omega) : ys.drop k = [])]; rfl
        clear HC
        go_wp2_with fail
        go_ret
        exact ⟨congrArg _ (congrArg _ HH.out.symm), hd⟩
    · obtain rfl : k = n := by omega
      have e1 : xs.drop k = [] := List.drop_eq_nil_of_le (by rw [← Hn.out]; omega)
      by_cases hlt' : k < n'
      · have l2 : k < ys.length := by rw [← Hn'.out]; exact hlt'
        have HH : Hid (cmpL xs ys = -1) := by
          show _ = _
          rw [HC.out, e1, List.drop_eq_getElem_cons l2]; rfl
        clear HC e1
        go_wp2_with fail
        go_ret
        exact ⟨congrArg _ (congrArg _ HH.out.symm), hd⟩
      · have HH : Hid (cmpL xs ys = 0) := by
          show _ = _
          rw [HC.out, e1, (List.drop_eq_nil_iff.2 (by rw [← Hn'.out]; omega) : ys.drop k = [])]; rfl
        clear HC e1
        go_wp2_with fail
        go_ret
        exact ⟨congrArg _ (congrArg _ HH.out.symm), hd⟩

set_option maxHeartbeats 400000 in
theorem fewerOrLess_c (w : World) (u v : Value) (y z : Zone) (xs ys : List Int) (h : IntsR y w u xs) (h' : IntsR z w v ys) :
    Calls Try.prog 51 #[u, v] w (RetQ w (.bool (lessL xs ys))) := by
  have hcall := CompareInts_c w u v y z xs ys h h'
  obtain ⟨a, n, cap, rfl, hn, hm, -⟩ := SliceR.shape h
  obtain ⟨a', n', cap', rfl, hn', hm', -⟩ := SliceR.shape h'
  have HL : Hid (lessL xs ys = (decide (n < n') || (decide (n = n') && decide (cmpL xs ys < 0)))) := by show _ = _; rw [hn, hn']; rfl
  clear hn hn' h h'
  generalize lessL xs ys = res at *
  generalize cmpL xs ys = k at *
  by_cases h1 : n < n'
  · have HH : Hid (res = true) := by show _ = _; rw [HL.out]; simp [h1]
    clear HL hcall
    go_enter Try.func51, Try.ntmps51
    go_wp2_with fail
    go_ret
    exact ⟨ret_bool' HH.out, Drew.refl _⟩
  · by_cases h2 : n = n'
    · have HH : Hid (res = decide (k < 0)) := by show _ = _; rw [HL.out]; simp [h2]
      subst h2
      clear HL
      go_enter Try.func51, Try.ntmps51
      go_wp2_with fail
      refine Calls.mono hcall ?_
      rintro e w5 ⟨rfl, hd5⟩
      go_wp2_with fail
      go_ret
      exact ⟨ret_bool' HH.out, hd5⟩
    · have HH : Hid (res = false) := by show _ = _; rw [HL.out]; simp [h1, h2]
      have hb : ((n : Int) == (n' : Int)) = false := by rw [beq_eq_false_iff_ne]; omega
      have hb' : (n == n') = false := by rw [beq_eq_false_iff_ne]; omega
      clear HL hcall
      go_enter Try.func51, Try.ntmps51
      go_wp2_with fail
      go_ret
      exact ⟨ret_bool' HH.out, Drew.refl _⟩
end Go.Proofs.Ytbkijealdjghgaa
