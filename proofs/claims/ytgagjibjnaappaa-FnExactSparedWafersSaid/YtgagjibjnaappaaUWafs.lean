/- Proved: the least number of wafers with enough openers, program and reference. -/
import Derived.Test.YtgagjibjnaappaaChecked
import Derived.Test.YtgagjibjnaappaaUMostLaw
import Derived.Test.YtgagjibjnaappaaUPkA
namespace Go.Proofs.Ytgagjibjnaappaa
open Go.ChangeShapes Go.WideShapes Go.ChangeAt Go.RowKit
set_option linter.unusedVariables false

theorem prodTo_le {c W : Nat} : ∀ k, prodTo c W k ≤ (2 + W / c) ^ k
  | 0 => by simp [prodTo]
  | k + 1 => by
    simp only [prodTo]
    rw [Nat.pow_succ]
    refine Nat.mul_le_mul (prodTo_le k) ?_
    split <;> omega
theorem prodTo_small {c W k : Nat} (hc : 2 ≤ c) (hW : W ≤ 42) (hk : k ≤ 6) : prodTo c W k ≤ 148035889 := by
  have h1 : W / c ≤ 21 := Nat.le_trans (Nat.div_le_div hW hc (by omega)) (by decide)
  have h2 : (2 + W / c) ^ k ≤ 23 ^ k := Nat.pow_le_pow_left (by omega) _
  have h3 : 23 ^ k ≤ 23 ^ 6 := Nat.pow_le_pow_right (by omega) hk
  have := prodTo_le (c := c) (W := W) k
  omega
theorem most_small {d c W : Nat} (hd : d ≤ 8) (hc : c ≤ 6) : most d c W ≤ 262144 := by
  have h1 := most_le d c W
  have h2 : d ^ c ≤ 8 ^ c := Nat.pow_le_pow_left hd _
  have h3 : 8 ^ c ≤ 8 ^ 6 := Nat.pow_le_pow_right (by omega) hc
  omega
theorem bestTo_small {d c W k : Nat} (hd : d ≤ 8) (hc : c ≤ 6) (hk : k ≤ 8) : bestTo (most d c) W k ≤ 2097152 := by
  have := bestTo_le (f := most d c) (W := W) (fun x => most_small (W := x) hd hc) k
  have h2 : k * 262144 ≤ 8 * 262144 := Nat.mul_le_mul_right _ hk
  omega

set_option maxRecDepth 20000 in
set_option maxHeartbeats 1000000 in
theorem l20Most_c (mk : MK) (hd : 1 ≤ mk.d ∧ mk.d ≤ 8) (c : Nat) : c ≤ 6 → ∀ (w : World) (W : Nat), W ≤ 1000 →
    Calls Try.prog 144 #[mk.v, .int .i64 c, .int .i64 W] w (Ret w fun r _ => r = .int .i64 (most mk.d.toNat c W : Nat)) := by
  obtain ⟨mc, md, ms, mm, ml⟩ := mk
  simp only at hd
  obtain ⟨D, rfl⟩ := Int.eq_ofNat_of_zero_le (by omega : 0 ≤ md)
  simp only [Int.toNat_natCast]
  unfold MK.v
  simp only
  induction c with
  | zero =>
    intro _ w W hW
    have HQ : Hid (most D 0 W = if 0 < W then 0 else 1) := rfl
    generalize most D 0 W = q at *
    by_cases h0 : 0 < W
    · have HH : Hid (q = 0) := by show _ = _; rw [HQ.out, if_pos h0]
      clear HQ
      go_enter Try.func144, Try.ntmps144
      go_wp2_with fail
      go_ret
      exact ⟨_, rfl, by rw [HH.out]; rfl, Ext.alloc _ _⟩
    · have HH : Hid (q = 1) := by show _ = _; rw [HQ.out, if_neg h0]
      clear HQ
      go_enter Try.func144, Try.ntmps144
      go_wp2_with fail
      go_ret
      exact ⟨_, rfl, by rw [HH.out]; rfl, Ext.alloc _ _⟩
  | succ c ih =>
    intro hc w W hW
    have HIH := Lib.hid (ih (by omega))
    clear ih
    have HQ : Hid (most D (c + 1) W = bestTo (most D c) W (min D (W + 1))) := rfl
    have HS : Hid (∀ k, k ≤ 8 → bestTo (most D c) W k ≤ 2097152) := fun k hk => bestTo_small (by omega) (by omega) hk
    have HM : Hid (∀ x, most D c x ≤ 262144) := fun x => most_small (by omega) (by omega)
    have HN : Hid (∀ k, bestTo (most D c) W (k + 1) = max (bestTo (most D c) W k) ((k + 1) * most D c (W - k))) := fun k => rfl
    generalize most D (c + 1) W = res at *
    generalize most D c = f at *
    go_enter Try.func144, Try.ntmps144
    go_wp2_with fail
    generalize hw0 : World.alloc _ _ = w0
    have e0 : Ext w w0 := by rw [← hw0]; exact Ext.alloc _ _
    have c0 : w0.cell? ⟨w.heap.size, 0, none⟩ = some (.int .i64 mc) := by rw [← hw0]; clear hw0; go_simp
    have c1 : w0.cell? ⟨w.heap.size, 1, none⟩ = some (.int .i64 (D : Int)) := by rw [← hw0]; clear hw0; go_simp
    have c2 : w0.cell? ⟨w.heap.size, 2, none⟩ = some (.int .i64 ms) := by rw [← hw0]; clear hw0; go_simp
    have c3 : w0.cell? ⟨w.heap.size, 3, none⟩ = some (.int .i64 mm) := by rw [← hw0]; clear hw0; go_simp
    have c4 : w0.cell? ⟨w.heap.size, 4, none⟩ = some (.int .i64 ml) := by rw [← hw0]; clear hw0; go_simp
    clear hw0
    go_loopw [7, 8] (fun o s wr => ∃ k : Nat, k ≤ min D (W + 1) ∧ s = .int .i64 k ∧ o = .int .i64 (bestTo f W k : Nat) ∧ Ext w0 wr) (fun _ s _ => min D (W + 1) - (intOf s).toNat)
    case atStart => exact ⟨0, Nat.zero_le _, rfl, rfl, Ext.refl _⟩
    case round =>
      obtain ⟨k, hk, rfl, rfl, ew⟩ := hrel
      have hk' : k ≤ D ∧ k ≤ W + 1 := by omega
      clear hk
      obtain ⟨hk1, hk2⟩ := hk'
      have q1 := HS.out k (by omega)
      have HNk := Lib.hid (HN.out k)
      replace c0 := ew.cell c0
      replace c1 := ew.cell c1
      replace c2 := ew.cell c2
      replace c3 := ew.cell c3
      replace c4 := ew.cell c4
      by_cases hlt : k < D
      · by_cases hle : k ≤ W
        · have hcall := HIH.out wr (W - k) (by omega)
          have q2 := HM.out (W - k)
          have hwk : ((W - k : Nat) : Int) = (W : Int) - (k : Int) := by omega
          rw [hwk] at hcall
          generalize f (W - k) = x at *
          generalize bestTo f W k = y at *
          have hmul : (k + 1) * x ≤ 9 * 262144 := Nat.mul_le_mul (by omega) q2
          have hm : IntKind.i64.wrap (((k : Int) + 1) * (x : Int)) = (((k + 1) * x : Nat) : Int) := by
            have : ((k : Int) + 1) * (x : Int) = (((k + 1) * x : Nat) : Int) := by push_cast; rfl
            rw [this]; exact IntWalk.i64_in _ (by omega)
          clear hwk
          have hmx : IntKind.i64.wrap ((W : Int) - (k : Int)) = (W : Int) - (k : Int) := IntWalk.i64_in _ (by omega)
          have hxy : max (y : Int) (((k + 1) * x : Nat) : Int) = ((max y ((k + 1) * x) : Nat) : Int) := by omega
          generalize hz : (k + 1) * x = zz at *
          clear hz
          go_wp2_with fail
          refine Calls.mono hcall ?_
          rintro e w5 hr
          obtain ⟨r, rfl, rfl, e5⟩ := ret_ext hr
          clear hr hcall
          go_wp2_with fail
          all_goals
            go_roundw
            case rel => exact ⟨k + 1, by omega, by go_num, by rw [HNk.out]; omega, ew.trans e5⟩
            case measure => simp [intOf]; omega
        · have HH : Hid (res = bestTo f W k) := by show _ = _; rw [HQ.out, show min D (W + 1) = k by omega]
          clear HQ HS HM HN HNk HIH q1
          go_wp2_with fail
          go_ret
          exact ⟨_, rfl, by rw [HH.out]; rfl, e0.trans ew⟩
      · have HH : Hid (res = bestTo f W k) := by show _ = _; rw [HQ.out, show min D (W + 1) = k by omega]
        clear HQ HS HM HN HNk HIH q1
        go_wp2_with fail
        go_ret
        exact ⟨_, rfl, by rw [HH.out]; rfl, e0.trans ew⟩
end Go.Proofs.Ytgagjibjnaappaa
