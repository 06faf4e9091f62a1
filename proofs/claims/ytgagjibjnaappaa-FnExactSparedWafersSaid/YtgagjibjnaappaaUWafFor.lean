/- Proved: the least number of wafers for some openers, program and reference. -/
import Derived.Test.YtgagjibjnaappaaChecked
import Derived.Test.YtgagjibjnaappaaUWafs
import Derived.Test.YtgagjibjnaappaaUPkB
namespace Go.Proofs.Ytgagjibjnaappaa
open Go.ChangeShapes Go.WideShapes Go.ChangeAt Go.RowKit
set_option linter.unusedVariables false

theorem prodTo_next (c W k : Nat) : prodTo c W (k + 1) = prodTo c W k * (1 + W / c + if k < W % c then 1 else 0) := rfl

set_option maxRecDepth 20000 in
set_option maxHeartbeats 1000000 in
theorem mostOpeners_c (w : World) (mk : MK) (hc : 2 ≤ mk.c ∧ mk.c ≤ 6) (W : Nat) (hW : W ≤ 42) :
    Calls Try.prog 146 #[mk.v, .int .i64 W] w (Ret w fun r _ => r = .int .i64 (prodTo mk.c.toNat W mk.c.toNat : Nat)) := by
  obtain ⟨mc, md, ms, mm, ml⟩ := mk
  simp only at hc
  obtain ⟨C, rfl⟩ := Int.eq_ofNat_of_zero_le (by omega : 0 ≤ mc)
  simp only [Int.toNat_natCast]
  have HN := Lib.hid (fun k => prodTo_next C W k)
  have HB : Hid (∀ k, k ≤ 6 → prodTo C W k ≤ 148035889) := fun k hk => prodTo_small (by omega) hW hk
  have H0 : Hid (prodTo C W 0 = 1) := rfl
  have hC0 : ¬ ((C : Int) = 0) := by omega
  have hq : (W : Int).tdiv (C : Int) = ((W / C : Nat) : Int) := rfl
  have hm : (W : Int).tmod (C : Int) = ((W % C : Nat) : Int) := rfl
  have hqb : W / C ≤ 42 := Nat.le_trans (Nat.div_le_self _ _) hW
  generalize hP : prodTo C W = Pr at *
  clear hP
  generalize W / C = q at *
  generalize W % C = m at *
  unfold MK.v
  simp only
  go_enter Try.func146, Try.ntmps146
  go_wp2_with fail
  generalize hw0 : World.alloc _ _ = w0
  obtain ⟨e0, S0⟩ := mk_box (mk := ⟨C, md, ms, mm, ml⟩) hw0
  clear hw0
  have HS := Lib.hid S0
  obtain ⟨c0, c1, c2, c3, c4⟩ := S0
  go_wp2_with fail
  clear c0 c1 c2 c3 c4
  go_loopw [5, 6, 7, 10] (fun p _ _ s wr => ∃ k : Nat, k ≤ C ∧ s = .int .i64 k ∧ p = .int .i64 (Pr k : Nat) ∧ Ext w0 wr) (fun _ _ _ s _ => C - (intOf s).toNat)
  case atStart => exact ⟨0, Nat.zero_le _, rfl, by rw [H0.out]; rfl, Ext.refl _⟩
  case round =>
    obtain ⟨k, hk, rfl, rfl, ew⟩ := hrel
    obtain ⟨c0, c1, c2, c3, c4⟩ := HS.out.ext ew
    by_cases hlt : k < C
    · have HNk := Lib.hid (HN.out k)
      have q1 := HB.out (k + 1) (by omega)
      have q2 := HB.out k (by omega)
      by_cases hkm : k < m
      · have HE : Hid (Pr (k + 1) = Pr k * (1 + q + 1)) := by show _ = _; rw [HNk.out, if_pos hkm]
        have hmul : IntKind.i64.wrap (((Pr k : Nat) : Int) * (1 + (q : Int) + 1)) = ((Pr k * (1 + q + 1) : Nat) : Int) := by
          have : ((Pr k : Nat) : Int) * (1 + (q : Int) + 1) = ((Pr k * (1 + q + 1) : Nat) : Int) := by push_cast; rfl
          rw [this]; rw [HE.out] at q1; exact IntWalk.i64_in _ (by omega)
        clear HNk q1
        generalize Pr k = y at *
        go_wp2_with fail
        go_roundw
        case rel => exact ⟨k + 1, by omega, by go_num, by rw [HE.out]; push_cast; rfl, ew⟩
        case measure => simp [intOf]; omega
      · have HE : Hid (Pr (k + 1) = Pr k * (1 + q)) := by show _ = _; rw [HNk.out, if_neg hkm, Nat.add_zero]
        have hmul : IntKind.i64.wrap (((Pr k : Nat) : Int) * (1 + (q : Int))) = ((Pr k * (1 + q) : Nat) : Int) := by
          have : ((Pr k : Nat) : Int) * (1 + (q : Int)) = ((Pr k * (1 + q) : Nat) : Int) := by push_cast; rfl
          rw [this]; rw [HE.out] at q1; exact IntWalk.i64_in _ (by omega)
        clear HNk q1
        generalize Pr k = y at *
        go_wp2_with fail
        go_roundw
        case rel => exact ⟨k + 1, by omega, by go_num, by rw [HE.out]; push_cast; rfl, ew⟩
        case measure => simp [intOf]; omega
    · have hkC : k = C := by omega
      subst hkC
      go_wp2_with fail
      go_ret
      exact ⟨_, rfl, rfl, e0.trans ew⟩

/-- the first number of wafers with enough openers, or -1 -/
def forN (mk : MK) (n : Nat) : Int := if n ≤ mk.d.toNat ^ mk.c.toNat then (wafN mk.c.toNat mk.d.toNat n : Nat) else -1

set_option maxRecDepth 20000 in
set_option maxHeartbeats 1000000 in
theorem wafersFor_c (w : World) (mk : MK) (hc : 2 ≤ mk.c ∧ mk.c ≤ 6) (hd : 2 ≤ mk.d ∧ mk.d ≤ 8) (n : Nat) (hn : n ≤ mk.d.toNat ^ mk.c.toNat) :
    Calls Try.prog 125 #[mk.v, .int .i64 n] w (Ret w fun r _ => r = .int .i64 (wafN mk.c.toNat mk.d.toNat n : Nat)) := by
  obtain ⟨mc, md, ms, mm, ml⟩ := mk
  simp only at hc hd hn
  obtain ⟨C, rfl⟩ := Int.eq_ofNat_of_zero_le (by omega : 0 ≤ mc)
  obtain ⟨D, rfl⟩ := Int.eq_ofNat_of_zero_le (by omega : 0 ≤ md)
  simp only [Int.toNat_natCast] at hn ⊢
  have hCD : C * (D - 1) ≤ 42 := by
    have : C * (D - 1) ≤ 6 * 7 := Nat.mul_le_mul (by omega) (by omega)
    omega
  have HC := Lib.hid (fun (w' : World) (W : Nat) (h : W ≤ 42) => mostOpeners_c w' ⟨C, D, ms, mm, ml⟩ hc W h)
  have HW : Hid (∀ W, W ≤ C * (D - 1) → n ≤ prodTo C W C → (∀ j, j < W → ¬ n ≤ prodTo C j C) → wafN C D n = W) := fun W h1 h2 h3 => wafN_at h1 h2 h3
  have HT : Hid (n ≤ prodTo C (C * (D - 1)) C) := by
    show _ ≤ _
    rw [prod_top (by omega), show 1 + (D - 1) = D by omega]
    exact hn
  have hm1 : IntKind.i64.wrap ((D : Int) - 1) = ((D - 1 : Nat) : Int) := by rw [IntWalk.i64_in _ (by omega)]; omega
  have hm2 : IntKind.i64.wrap ((C : Int) * ((D - 1 : Nat) : Int)) = ((C * (D - 1) : Nat) : Int) := by
    have : (C : Int) * ((D - 1 : Nat) : Int) = ((C * (D - 1) : Nat) : Int) := by push_cast; rfl
    rw [this]; exact IntWalk.i64_in _ (by omega)
  generalize wafN C D n = res at *
  generalize hT : C * (D - 1) = T at *
  clear hT hn
  unfold MK.v at *
  simp only at HC ⊢
  simp only [Int.toNat_natCast] at HC
  go_enter Try.func125, Try.ntmps125
  go_wp2_with fail
  generalize hw0 : World.alloc _ _ = w0
  obtain ⟨e0, S0⟩ := mk_box (mk := ⟨C, D, ms, mm, ml⟩) hw0
  clear hw0
  have HS := Lib.hid S0
  obtain ⟨c0, c1, c2, c3, c4⟩ := S0
  go_wp2_with fail
  clear c0 c1 c2 c3 c4
  go_loopw [5, 13] (fun _ s wr => ∃ k : Nat, k ≤ T ∧ s = .int .i64 k ∧ (∀ j, j < k → ¬ n ≤ prodTo C j C) ∧ Ext w0 wr) (fun _ s _ => T + 1 - (intOf s).toNat)
  case atStart => exact ⟨0, Nat.zero_le _, rfl, fun j hj => absurd hj (Nat.not_lt_zero _), Ext.refl _⟩
  case round =>
    obtain ⟨k, hk, rfl, hall, ew⟩ := hrel
    have Hall := Lib.hid hall
    clear hall
    obtain ⟨c0, c1, c2, c3, c4⟩ := HS.out.ext ew
    have hcall := HC.out wr k (by omega)
    have HWk := Lib.hid (HW.out k hk)
    have HTk : Hid (k = T → n ≤ prodTo C k C) := fun h => by rw [h]; exact HT.out
    have HNx : Hid (¬ n ≤ prodTo C k C → ∀ j, j < k + 1 → ¬ n ≤ prodTo C j C) := fun h j hj => by
      by_cases e : j = k
      · rw [e]; exact h
      · exact Hall.out j (by omega)
    generalize prodTo C k C = y at *
    go_wp2_with fail
    refine Calls.mono hcall ?_
    rintro e w5 hr
    obtain ⟨r, rfl, rfl, e5⟩ := ret_ext hr
    clear hr hcall
    by_cases hny : n ≤ y
    · have HH := Lib.hid (HWk.out hny Hall.out)
      have hb : ((y : Int) ≥ (n : Int)) := by omega
      clear HWk HTk HNx Hall HW HT
      go_wp2_with fail
      go_ret
      exact ⟨_, rfl, by rw [HH.out]; rfl, (e0.trans ew).trans e5⟩
    · have hb : ¬ ((y : Int) ≥ (n : Int)) := by omega
      have HNy := Lib.hid (HNx.out hny)
      have hkT : k < T := by
        rcases Nat.lt_or_ge k T with h | h
        · exact h
        · exact absurd (HTk.out (by omega)) hny
      clear HWk HTk HNx HW HT
      go_wp2_with fail
      go_roundw
      case rel => exact ⟨k + 1, by omega, by go_num, HNy.out, ew.trans e5⟩
      case measure => simp [intOf]; omega

set_option maxRecDepth 20000 in
set_option maxHeartbeats 1000000 in
theorem l20For_c (w : World) (mk : MK) (hc : 2 ≤ mk.c ∧ mk.c ≤ 6) (hd : 2 ≤ mk.d ∧ mk.d ≤ 8) (n : Nat) (hn : n ≤ mk.d.toNat ^ mk.c.toNat) :
    Calls Try.prog 123 #[mk.v, .int .i64 n] w (Ret w fun r _ => r = .int .i64 (wafN mk.c.toNat mk.d.toNat n : Nat)) := by
  obtain ⟨mc, md, ms, mm, ml⟩ := mk
  simp only at hc hd hn
  obtain ⟨C, rfl⟩ := Int.eq_ofNat_of_zero_le (by omega : 0 ≤ mc)
  obtain ⟨D, rfl⟩ := Int.eq_ofNat_of_zero_le (by omega : 0 ≤ md)
  simp only [Int.toNat_natCast] at hn ⊢
  have hCD : C * (D - 1) ≤ 42 := by
    have : C * (D - 1) ≤ 6 * 7 := Nat.mul_le_mul (by omega) (by omega)
    omega
  have HC : Hid (∀ (w' : World) (W : Nat), W ≤ C * (D - 1) → Calls Try.prog 144 #[.agg #[.int .i64 C, .int .i64 D, .int .i64 ms, .int .i64 mm, .int .i64 ml], .int .i64 C, .int .i64 W] w' (Ret w' fun r _ => r = .int .i64 (prodTo C W C : Nat))) := fun w' W h => by
    have := l20Most_c ⟨C, D, ms, mm, ml⟩ ⟨by simp only; omega, by simp only; omega⟩ C (by omega) w' W (by omega)
    simp only [Int.toNat_natCast] at this
    rwa [most_prod (by omega) (by omega) (by omega) h] at this
  have HW : Hid (∀ W, W ≤ C * (D - 1) → n ≤ prodTo C W C → (∀ j, j < W → ¬ n ≤ prodTo C j C) → wafN C D n = W) := fun W h1 h2 h3 => wafN_at h1 h2 h3
  have HT : Hid (n ≤ prodTo C (C * (D - 1)) C) := by
    show _ ≤ _
    rw [prod_top (by omega), show 1 + (D - 1) = D by omega]
    exact hn
  have hm1 : IntKind.i64.wrap ((D : Int) - 1) = ((D - 1 : Nat) : Int) := by rw [IntWalk.i64_in _ (by omega)]; omega
  have hm2 : IntKind.i64.wrap ((C : Int) * ((D - 1 : Nat) : Int)) = ((C * (D - 1) : Nat) : Int) := by
    have : (C : Int) * ((D - 1 : Nat) : Int) = ((C * (D - 1) : Nat) : Int) := by push_cast; rfl
    rw [this]; exact IntWalk.i64_in _ (by omega)
  generalize wafN C D n = res at *
  generalize hT : C * (D - 1) = T at *
  clear hT hn
  unfold MK.v at *
  simp only
  go_enter Try.func123, Try.ntmps123
  go_wp2_with fail
  generalize hw0 : World.alloc _ _ = w0
  obtain ⟨e0, S0⟩ := mk_box (mk := ⟨C, D, ms, mm, ml⟩) hw0
  clear hw0
  have HS := Lib.hid S0
  obtain ⟨c0, c1, c2, c3, c4⟩ := S0
  go_wp2_with fail
  clear c0 c1 c2 c3 c4
  go_loopw [5] (fun s wr => ∃ k : Nat, k ≤ T ∧ s = .int .i64 k ∧ (∀ j, j < k → ¬ n ≤ prodTo C j C) ∧ Ext w0 wr) (fun s _ => T + 1 - (intOf s).toNat)
  case atStart => exact ⟨0, Nat.zero_le _, rfl, fun j hj => absurd hj (Nat.not_lt_zero _), Ext.refl _⟩
  case round =>
    obtain ⟨k, hk, rfl, hall, ew⟩ := hrel
    have Hall := Lib.hid hall
    clear hall
    obtain ⟨c0, c1, c2, c3, c4⟩ := HS.out.ext ew
    have hcall := HC.out wr k hk
    have HWk := Lib.hid (HW.out k hk)
    have HTk : Hid (k = T → n ≤ prodTo C k C) := fun h => by rw [h]; exact HT.out
    have HNx : Hid (¬ n ≤ prodTo C k C → ∀ j, j < k + 1 → ¬ n ≤ prodTo C j C) := fun h j hj => by
      by_cases e : j = k
      · rw [e]; exact h
      · exact Hall.out j (by omega)
    generalize prodTo C k C = y at *
    go_wp2_with fail
    refine Calls.mono hcall ?_
    rintro e w5 hr
    obtain ⟨r, rfl, rfl, e5⟩ := ret_ext hr
    clear hr hcall
    by_cases hny : n ≤ y
    · have HH := Lib.hid (HWk.out hny Hall.out)
      have hb : ((y : Int) ≥ (n : Int)) := by omega
      clear HWk HTk HNx Hall HW HT
      go_wp2_with fail
      go_ret
      exact ⟨_, rfl, by rw [HH.out]; rfl, (e0.trans ew).trans e5⟩
    · have hb : ¬ ((y : Int) ≥ (n : Int)) := by omega
      have HNy := Lib.hid (HNx.out hny)
      have hkT : k < T := by
        rcases Nat.lt_or_ge k T with h | h
        · exact h
        · exact absurd (HTk.out (by omega)) hny
      clear HWk HTk HNx HW HT
      go_wp2_with fail
      go_roundw
      case rel => exact ⟨k + 1, by omega, by go_num, HNy.out, ew.trans e5⟩
      case measure => simp [intOf]; omega
end Go.Proofs.Ytgagjibjnaappaa
