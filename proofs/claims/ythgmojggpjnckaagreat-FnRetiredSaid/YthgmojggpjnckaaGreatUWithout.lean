/- Proved: lists without one of them, the reference. -/
import Derived.Test.YthgmojggpjnckaaGreatChecked
import Derived.Test.YthgmojggpjnckaaGreatUDeleteRows
import Derived.Test.YthgmojggpjnckaaGreatUPkE
namespace Go.Proofs.YthgmojggpjnckaaGreat
open Go.ChangeShapes Go.WideShapes Go.ChangeAt Go.RowKit
set_option linter.unusedVariables false

theorem rmAt_step {k i : Nat} {l : List (List Int)} (h : i < l.length) : rmAt k (l.take (i + 1)) = if i = k then rmAt k (l.take i) else rmAt k (l.take i) ++ [l.getD i []] := by
  have hl : (l.take i).length = i := by rw [List.length_take]; omega
  rw [take_next h]
  generalize l.take i = xs at *
  generalize l.getD i [] = x
  subst hl
  unfold rmAt
  rcases Nat.lt_trichotomy xs.length k with h1 | h1 | h1
  · rw [if_neg (by omega), List.take_of_length_le (by simp; omega), List.take_of_length_le (by omega), List.drop_of_length_le (by simp; omega), List.drop_of_length_le (by omega)]
    simp
  · rw [if_pos h1, ← h1, List.take_left, List.take_of_length_le (Nat.le_refl _), List.drop_of_length_le (by simp), List.drop_of_length_le (by omega)]
  · rw [if_neg (by omega), List.take_append_of_le_length (by omega), List.drop_append_of_le_length (by omega), List.append_assoc]

set_option maxRecDepth 20000 in
set_option maxHeartbeats 1000000 in
theorem l24Without_c (w : World) (v : Value) (z : Zone) (xss : List (List Int)) (h : RowsR z w v xss) (hl : xss.length ≤ 1000) (hr : ∀ k, k < xss.length → (xss.getD k []).length ≤ 1000) (q : Nat) :
    Calls Tryz.prog 73 #[v, .int .i64 q] w (Ret w fun r w' => OwnR true w.heap.size IntsR 41 w.heap.size w' r (rmAt q xss)) := by
  obtain ⟨a, n, cap, rfl, hn, hmax, -⟩ := SliceR.shape h
  have HT := Lib.hid (fun (k : Nat) (hk : k < n) => rows_at h hk)
  rw [← hn] at hl
  have HR : Hid (∀ k, k < n → (xss.getD k []).length ≤ 1000) := fun k hk => hr k (by omega)
  have HK : Hid (∀ k, k < n → rmAt q (xss.take (k+1)) = if k = q then rmAt q (xss.take k) else rmAt q (xss.take k) ++ [xss.getD k []]) := fun k hk => rmAt_step (by omega)
  have HL : Hid (∀ k, (rmAt q (xss.take k)).length ≤ k) := fun k => by show _ ≤ _; unfold rmAt; rw [List.length_append, List.length_take, List.length_drop, List.length_take]; omega
  have Hn : Hid (rmAt q (xss.take n) = rmAt q xss) := by show _ = _; rw [hn, List.take_length]
  have H0 : Hid (rmAt q (xss.take 0) = []) := by show _ = _; simp [rmAt]
  clear hn h hr
  go_enter Tryz.func73, Tryz.ntmps73
  go_wp2_with fail
  generalize hw1 : World.alloc _ _ = w1
  obtain ⟨e1, o1⟩ : Ext w w1 ∧ OwnR true w.heap.size IntsR 41 w.heap.size w1 (.slice (some ⟨w.heap.size, 0, none⟩) 0 0) [] := by
    subst hw1
    exact ⟨Ext.alloc _ _, OwnR.empty (Nat.le_refl _)⟩
  clear hw1
  go_loopw [5, 6] (fun o s wr => ∃ k : Nat, k ≤ n ∧ s = .int .i64 k ∧ OwnR true w.heap.size IntsR 41 w.heap.size wr o (rmAt q (xss.take k)) ∧ Ext w wr) (fun _ s _ => n - (intOf s).toNat)
  case atStart => exact ⟨0, Nat.zero_le _, rfl, by rw [H0.out]; exact o1, e1⟩
  case round =>
    obtain ⟨k, hk, rfl, own, ew⟩ := hrel
    have hsz := ew.size
    by_cases hlt : k < n
    · obtain ⟨b, off, rfl, a1, n1, k1, hn1, hm1, -, hc, ⟨y, -, hy⟩, -⟩ := HT.out k hlt
      replace hc := hc wr ew
      have hy' := hy wr ew
      have HM := Lib.hid (IntsR.mem hy')
      have hcall := l01Own_c wr _ y _ hy' (Nat.le_trans (HR.out k hlt) (by decide))
      have hlen := HL.out k
      have HSk := Lib.hid (HK.out k hlt)
      generalize xss.getD k [] = row at *
      generalize rmAt q (xss.take k) = us at *
      clear hy hy' hn1
      by_cases hkq : k = q
      · have hb : ((k : Int) != (q : Int)) = false := by rw [hkq]; simp
        have HE : Hid (rmAt q (xss.take (k + 1)) = us) := by rw [if_pos hkq] at HSk; exact HSk
        clear hcall HSk hkq
        go_wp2_with fail
        go_roundw
        case rel => exact ⟨k + 1, by omega, by go_num, by rw [HE.out]; exact own, ew⟩
        case measure => simp [intOf]; omega
      · have hb : ((k : Int) != (q : Int)) = true := by rw [bne_iff_ne]; omega
        have HE : Hid (rmAt q (xss.take (k + 1)) = us ++ [row]) := by rw [if_neg hkq] at HSk; exact HSk
        clear HSk hkq
        go_wp2_with fail
        refine Calls.mono hcall ?_
        rintro e w2 hr
        obtain ⟨r, rfl, hx, e2⟩ := ret_ext hr
        clear hr hcall
        have hx' : IntsR (.new wr w2) w2 r row := hx.ints HM.out (Nat.le_refl _)
        obtain ⟨xa, xn, xc, rfl, -⟩ := SliceR.shape hx'
        clear hx
        go_wp2_with (at_builtin; (refine wpList_appendRow (E := IntsR) (L := w.heap.size) (B := w.heap.size) (xs := us) stable_ints slRepr_slice rfl _ _ 30 rfl Tryz.underlying30 Tryz.infoInts rfl own e2 (xa, xn, xc) row hx' rfl (by omega) (by omega) (by omega) ?_); intro v6 w6 hown6 hb6 hs6 hg6 hat6)
        go_roundw
        case rel => exact ⟨k + 1, by omega, by go_num, by rw [HE.out]; exact hown6, Below.trans ew hb6⟩
        case measure => simp [intOf]; omega
    · have hkn : k = n := by omega
      have HH : Hid (rmAt q (xss.take k) = rmAt q xss) := by show _ = _; rw [hkn]; exact Hn.out
      go_wp2_with fail
      go_ret
      exact ⟨_, rfl, by rw [← HH.out]; simpa using own, ew⟩
end Go.Proofs.YthgmojggpjnckaaGreat
