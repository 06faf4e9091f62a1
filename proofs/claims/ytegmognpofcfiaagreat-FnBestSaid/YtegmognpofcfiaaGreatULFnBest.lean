/- Proved: for every code, laws.FnBest returns true and changes nothing that was there; no condition. -/
import Derived.Test.YtegmognpofcfiaaGreatRows
import Derived.Deep.RegionLaw
import Derived.Deep.RegionHeld3
import Derived.Test.YtegmognpofcfiaaGreatUPkL
import Derived.Test.YtegmognpofcfiaaGreatUPkDd
import Derived.Test.YtegmognpofcfiaaGreatUPkBx
import Derived.Test.YtegmognpofcfiaaGreatUPkBi
import Derived.Test.YtegmognpofcfiaaGreatUPkLw
import Derived.Test.YtegmognpofcfiaaGreatUPkLk
namespace Go.Proofs.YtegmognpofcfiaaGreat
open Go.ChangeShapes Go.WideShapes Go.ChangeAt Go.RowKit
set_option linter.unusedVariables false
namespace fnBest

set_option maxRecDepth 20000 in
set_option maxHeartbeats 1500000 in
theorem walk (w : World) (v : Value) (x : List Int) (h : BytesR (.old w) w v x) : Calls Tryz.prog 9 #[v] w (Ret w fun r _ => r = .bool true) := by
  have hcall := big_c w v _ x h
  have H := Lib.hid (fun (w' : World) (e : Ext w w') => stable_bytes.ext h e)
  clear h
  cases hb : decide (4096 < x.length) with
  | true =>
    rw [hb] at hcall
    clear hb
    go_enter Tryz.func9, Tryz.ntmps9
    go_wp2_with fail
    refine Calls.mono hcall ?_
    rintro e w1 hr
    obtain ⟨rfl, hd, e1⟩ := retq_ext hr
    clear hr hcall
    go_wp2_with fail
    go_ret
    exact ⟨_, rfl, rfl, e1⟩
  | false =>
    rw [hb] at hcall
    clear hb
    go_enter Tryz.func9, Tryz.ntmps9
    go_wp2_with fail
    refine Calls.mono hcall ?_
    rintro e w1 hr
    obtain ⟨rfl, hd, e1⟩ := retq_ext hr
    clear hr hcall hd
    have hcall := DrawBestDesign_c w1 v _ x (H.out w1 e1)
    go_wp2_with fail
    refine Calls.mono hcall ?_
    rintro e w2 hr
    obtain ⟨_, rfl, ⟨mk, vt, t, limit, rfl, hlim, ht⟩, e2⟩ := ret_ext hr
    clear hr hcall
    have HE := Lib.hid (e1.trans e2)
    have HLim := Lib.hid hlim
    obtain ⟨a1, n1, k1, rfl, -⟩ := SliceR.shape ht
    clear e1 e2 hlim
    obtain ⟨⟨d, bad⟩, hbest⟩ : ∃ q, bestD mk t limit = q := ⟨_, rfl⟩
    have HF : Hid (bad = 0 → ∃ wd L, BF mk t limit d wd L) := fun h0 => best_facts (by rw [hbest, h0])
    unfold sysV
    go_wp2_with fail
    generalize hw3 : World.alloc w2 _ = w3
    obtain ⟨e3, S3⟩ := sys_box hw3
    clear hw3
    have HS := Lib.hid S3
    have HT := Lib.hid (fun (w' : World) (e : Ext w3 w') => stable_rows.ext ht (e3.trans e))
    replace HE := Lib.hid (HE.out.trans e3)
    have r3 := Ext.refl w3
    clear ht S3 e3
    have hcall := BestDesign_c w3 mk _ _ t (HT.out _ r3) limit HLim.out
    rw [hbest] at hcall
    unfold sysV at hcall
    refine Calls.mono hcall ?_
    rintro e w4 hr
    obtain ⟨_, rfl, ⟨u4, rfl, hd4⟩, e4⟩ := ret_ext hr
    clear hr hcall
    simp only at hd4 ⊢
    have hcall := BestDesignSpec_c w4 mk _ _ t (HT.out _ e4) limit HLim.out
    rw [hbest] at hcall
    unfold sysV at hcall
    obtain ⟨c0, c1, c2, c3, c4, c5⟩ := HS.out.ext e4
    obtain ⟨a4, n4, k4, rfl, -⟩ := SliceR.shape hd4
    have HD4 := Lib.hid (fun (w' : World) (e : Ext w4 w') => stable_rows.ext hd4 e)
    clear hd4 hbest r3
    go_wp2_with fail
    refine Calls.mono hcall ?_
    rintro e w5 hr
    obtain ⟨_, rfl, ⟨u5, rfl, hd5⟩, b5⟩ := ret_ext hr
    clear hr hcall c0 c1 c2 c3 c4 c5
    simp only at hd5 ⊢
    have e5 := e4.trans b5
    have HB5 := Lib.hid b5
    obtain ⟨a5, n5, k5, rfl, -⟩ := SliceR.shape hd5
    have HD5 := Lib.hid (fun (w' : World) (e : Ext w5 w') => stable_rows.ext hd5 e)
    clear hd5 e4 b5
    have hcall := DrawSparedWafers_c w5 v _ x (H.out w5 (HE.out.trans e5))
    go_wp2_with fail
    refine Calls.mono hcall ?_
    rintro e w6 hr
    obtain ⟨_, rfl, ⟨my, vy, ty, uy, cy, rfl, hty, hcy⟩, b6⟩ := ret_ext hr
    clear hr hcall
    obtain ⟨a6, n6, k6, rfl, -⟩ := SliceR.shape hty
    obtain ⟨a7, n7, k7, rfl, -⟩ := SliceR.shape hcy
    obtain ⟨⟨sn, one⟩, hsp⟩ : ∃ q, spared my ty cy = q := ⟨_, rfl⟩
    have HSp : Hid (one = 0 → 0 ≤ sn) := fun h0 => spared_pos (by rw [hsp, h0])
    unfold sysV
    go_wp2_with fail
    generalize hw7 : World.alloc w6 _ = w7
    obtain ⟨e7, S7⟩ := sys_box hw7
    clear hw7
    have HS7 := Lib.hid S7
    have HTY := Lib.hid (fun (w' : World) (e : Ext w7 w') => stable_rows.ext hty (e7.trans e))
    have HCY := Lib.hid (fun (w' : World) (e : Ext w7 w') => stable_rows.ext hcy (e7.trans e))
    have e57 := b6.trans e7
    have HE7 := Lib.hid (e5.trans e57)
    have HB7 := Lib.hid e57
    have r7 := Ext.refl w7
    clear hty hcy S7 e7 b6 e5 e57
    have hcall := SparedWafers_c w7 my _ _ ty (HTY.out _ r7) _ _ cy (HCY.out _ r7)
    rw [hsp] at hcall
    unfold sysV at hcall
    refine Calls.mono hcall ?_
    rintro e w8 hr
    obtain ⟨_, rfl, rfl, e8⟩ := ret_ext hr
    clear hr hcall
    have hcall := SparedWafersSpec_c w8 my _ _ ty (HTY.out _ e8) _ _ cy (HCY.out _ e8)
    rw [hsp] at hcall
    unfold sysV at hcall
    obtain ⟨c0, c1, c2, c3, c4, c5⟩ := HS7.out.ext e8
    unfold IntCode at hcall ⊢
    simp only at hcall ⊢
    clear hsp r7
    go_wp2_with fail
    refine Calls.mono hcall ?_
    rintro e w9 hr
    obtain ⟨_, rfl, rfl, b9⟩ := ret_ext hr
    clear hr hcall c0 c1 c2 c3 c4 c5
    have e9 := e8.trans b9
    have HE9 := Lib.hid (HE7.out.trans e9)
    have HB9 := Lib.hid (HB7.out.trans e9)
    have hcall := likeLists_c w9 _ _ _ _ d d (HD4.out _ (HB5.out.trans HB9.out)) (HD5.out _ HB9.out)
    rw [show decide (d = d) = true by simp] at hcall
    clear e8 b9 e9
    have hpos : ((one == 0) = true ∧ decide (sn < 0) = false) ∨ (one == 0) = false := by
      by_cases h0 : one = 0
      · have := HSp.out h0
        exact .inl ⟨by rw [h0]; rfl, decide_eq_false (by omega)⟩
      · exact .inr (by rw [beq_eq_false_iff_ne]; exact h0)
    clear HSp HTY HCY HS7 HE7 HB7
    rcases hpos with ⟨hb1, hb2⟩ | hb1
    all_goals
      go_wp2_with fail
      refine Calls.mono hcall ?_
      rintro e wa hr
      obtain ⟨rfl, -, ea⟩ := retq_ext hr
      clear hr hcall
      have HEa := Lib.hid (HE9.out.trans ea)
      have HBa := Lib.hid (HB9.out.trans ea)
      clear ea
      by_cases hbad : bad = 0
      · subst hbad
        obtain ⟨wd, L, F⟩ := HF.out rfl
        have HEach := Lib.hid F.each
        have hcall := SystemWafers_c wa mk _ _ t (HT.out _ HEa.out) _ _ d (HD4.out _ (HB5.out.trans HBa.out))
        rw [F.own] at hcall
        have hlist := F.list
        unfold sysV at hcall
        unfold IntCode at hcall
        simp only at hcall
        obtain ⟨c0, c1, c2, c3, c4, c5⟩ := HS.out.ext HEa.out
        clear F HF
        go_wp2_with fail
        refine Calls.mono hcall ?_
        rintro e wb hr
        obtain ⟨_, rfl, rfl, eb⟩ := ret_ext hr
        clear hr hcall c0 c1 c2 c3 c4 c5
        have HEb := Lib.hid (HEa.out.trans eb)
        obtain ⟨c0, c1, c2, c3, c4, c5⟩ := HS.out.ext HEb.out
        have hcall := DesignsOf_c wb mk _ _ t (HT.out _ HEb.out) limit HLim.out
        rw [hlist] at hcall
        unfold sysV at hcall
        clear eb hlist
        go_wp2_with fail
        refine Calls.mono hcall ?_
        rintro e wc hr
        obtain ⟨_, rfl, ⟨uL, yL, rfl, hL⟩, ec⟩ := ret_ext hr
        clear hr hcall c0 c1 c2 c3 c4 c5
        simp only at hL ⊢
        obtain ⟨aL, nL, kL, rfl, hnL, hmaxL, -⟩ := SliceR.shape hL
        have HL := Lib.hid (fun (k : Nat) (hk : k < nL) => locks_at hL hk)
        have HnL := Lib.hid hnL
        have HEc := Lib.hid (HEb.out.trans ec)
        clear hL hnL ec
        go_wp2_with fail
        go_loopw [19] (fun s wr => ∃ k : Nat, k ≤ nL ∧ s = .int .i64 k ∧ Ext wc wr) (fun s _ => nL - (intOf s).toNat)
        case atStart => exact ⟨0, Nat.zero_le _, rfl, Ext.refl _⟩
        case round =>
          obtain ⟨k, hk, rfl, ew⟩ := hrel
          by_cases hlt : k < nL
          · obtain ⟨bL, oL, rfl, aX, nX, cX, -, hcX, yX, -, hX⟩ := HL.out k hlt
            obtain ⟨yv, hyv, hle⟩ := HEach.out k (by rw [← HnL.out]; exact hlt)
            have HX := Lib.hid (fun (w' : World) (e : Ext wr w') => by
              have := SystemWafers_c w' mk _ _ t (HT.out _ (HEc.out.trans (ew.trans e))) _ _ _ (hX w' (ew.trans e))
              rw [hyv] at this
              unfold sysV at this
              unfold IntCode at this
              exact this)
            have HCel : Hid (∀ w', Ext wr w' → (w'.cell? ⟨w2.heap.size, 0, none⟩ = some (.int .i64 mk.c) ∧ w'.cell? ⟨w2.heap.size, 1, none⟩ = some (.int .i64 mk.d) ∧ w'.cell? ⟨w2.heap.size, 2, none⟩ = some (.int .i64 mk.s) ∧ w'.cell? ⟨w2.heap.size, 3, none⟩ = some (.int .i64 mk.m) ∧ w'.cell? ⟨w2.heap.size, 4, none⟩ = some (.int .i64 mk.l) ∧ w'.cell? ⟨w2.heap.size, 5, none⟩ = some (.slice a1 n1 k1)) ∧ w'.cell? ⟨bL, oL + k, none⟩ = some (.slice aX nX cX)) := fun w' e => ⟨HS.out.all (HEc.out.trans (ew.trans e)), hcX w' (ew.trans e)⟩
            have hlt2 : decide (yv < wd) = false := decide_eq_false (by omega)
            have hr0 := Ext.refl wr
            have Hew := Lib.hid ew
            clear hcX hX hyv hle ew
            go_wp2_with fail
            first | (go_region_held3 (fun w' => (w'.cell? ⟨w2.heap.size, 0, none⟩ = some (.int .i64 mk.c) ∧ w'.cell? ⟨w2.heap.size, 1, none⟩ = some (.int .i64 mk.d) ∧ w'.cell? ⟨w2.heap.size, 2, none⟩ = some (.int .i64 mk.s) ∧ w'.cell? ⟨w2.heap.size, 3, none⟩ = some (.int .i64 mk.m) ∧ w'.cell? ⟨w2.heap.size, 4, none⟩ = some (.int .i64 mk.l) ∧ w'.cell? ⟨w2.heap.size, 5, none⟩ = some (.slice a1 n1 k1)) ∧ w'.cell? ⟨bL, oL + k, none⟩ = some (.slice aX nX cX)) (exact HCel.out _ (by repeat (first | exact Ext.refl _ | assumption | (refine Ext.trans ?_ (Ext.alloc _ _)) | (refine Ext.trans ?_ (Ext.drew _)) | (refine Ext.trans ?_ (by assumption))))) (first | (go_at_call 16; (with_reducible refine (HX.out _ (by repeat (first | exact Ext.refl _ | assumption | (refine Ext.trans ?_ (Ext.alloc _ _)) | (refine Ext.trans ?_ (Ext.drew _)) | (refine Ext.trans ?_ (by assumption))))).mono ?_); rintro e wz hr7; obtain ⟨r7, rfl, rfl, e7⟩ := ret_ext hr7; clear hr7; have eZ : Ext wr wz := (by repeat (first | exact Ext.refl _ | assumption | (refine Ext.trans ?_ (Ext.alloc _ _)) | (refine Ext.trans ?_ (Ext.drew _)) | (refine Ext.trans ?_ (by assumption))))) | fail)) | fail
            all_goals
              go_wp2_with fail
              go_roundw
              case rel => exact ⟨k + 1, by omega, by go_num, Hew.out.trans eZ⟩
              case measure => simp [intOf]; omega
          · have HEw := Lib.hid (HE.out.trans (HEc.out.trans ew))
            clear HL HEach ew
            go_wp2_with fail
            go_ret
            exact ⟨_, rfl, rfl, HEw.out⟩
      · have hb3 : (bad != 0) = true := by rw [bne_iff_ne]; exact hbad
        clear hbad HF
        go_wp2_with fail
        go_ret
        exact ⟨_, rfl, rfl, HE.out.trans HEa.out⟩

/-! ### the row -/
theorem own : ownKnob Tryz.prog.godebug = none := by kernel_rfl
theorem laidOut : laidOutB Tryz.prog = true := by kernel_rfl
set_option maxRecDepth 100000 in
theorem lifted (os : Os) (started : os.Started) (H : Type) (enc : TypeId × Value → H) :
    ReturnsInHanded {} Tryz.checked os 9 .any (Rows.fnBestSpec.pre6 enc Tryz.prog Tryz.f9 Rows.fnBestRow.domain false) (Rows.fnBestSpec.post enc Tryz.prog Tryz.f9 false true false false) := by
  refine returnsInHanded_of_change (C := Tryz.checked) own started (by kernel_rfl) Tryz.func9
    (ChangeSpec.witness6 (enc := enc) (C := Tryz.checked) false ⟨#[], #[.slice none 0 0], []⟩ 8 (by kernel_rfl) (by kernel_rfl) (by kernel_rfl) (by kernel_rfl)) ?_
  intro W base args ds gs before hval0 hW hcnd _
  have hval : ∀ (j : Nat) t v, Tryz.f9.params[j]? = some t → args[j]? = some v → Value.okWide Tryz.prog W .any base t v := hval0
  have hW' := hW
  obtain ⟨p, q, hA0, hV, rfl, hfz, hnd⟩ := hW
  have hA : DataW.TrodAll enc Tryz.prog W 0 (fun _ => true) true Tryz.f9.params.toList args.toList ds p := hA0
  rw [Tryz.params9] at hA hval
  obtain ⟨v0, vs0, d0, ds0, p0, q0, hargs, rfl, rfl, h0, r0⟩ := trodAll_cons hA
  obtain ⟨rfl, rfl, rfl⟩ := trodAll_nil r0
  obtain rfl : args = #[v0] := by cases args; simp_all
  obtain ⟨rfl, rfl⟩ := trodVars_none hV
  have k0 := h0
  have lt0 : ∀ x ∈ p0, x.block < W.heap.size := by obtain ⟨m, hm⟩ := k0; exact DataW.trod_lt m _ _ _ hm
  obtain ⟨a0, len0, cap0, rfl⟩ := okWide_slice Tryz.underlying22 (hval 0 22 v0 rfl rfl)
  obtain ⟨x0, w0⟩ : ∃ xs, BytesR (.old W) W (.slice a0 len0 cap0) xs := by obtain ⟨fuel, hf⟩ := h0; exact open_BytesR Tryz.underlying22 Tryz.underlying5 (by kernel_rfl) hf
  clear hA0 hval0
  refine (walk W _ x0 w0).mono fun e W' hret => ?_
  obtain ⟨r, rfl, rfl, bel⟩ := hret
  exact ⟨_, rfl, _, _, _, [], _, [], hW', trodAll_mk1 (shut_bool Tryz.underlying4 _), (trodAll_cons_mk (Below.trod laidOut (by kernel_rfl) (of_decide_eq_true (by kernel_rfl)) k0 bel lt0) trodAll_mk0), rfl, bel.frame _, fun h => by cases h⟩

theorem over : Rows.fnBestRow.holds Tryz.pinned (OpenSpec.ofChange Rows.fnBestSpec) :=
  OpenClaim.holds_of_wide 9 Tryz.f9 rfl rfl rfl rfl rfl rfl rfl ⟨rfl, rfl, rfl, rfl, rfl⟩ rfl rfl rfl rfl rfl (by kernel_rfl) Tryz.func9 (by kernel_rfl)
    (of_decide_eq_true (by kernel_rfl)) (by unfold Func.isWrapper; first | (rw [if_pos (by decide +kernel)]; kernel_rfl) | (rw [if_neg (by decide +kernel)]; exact ⟨rfl, rfl⟩))
    (fun os started H enc _ => lifted os started H enc)

theorem proved : Rows.FnBestSaid := over

end fnBest
end Go.Proofs.YtegmognpofcfiaaGreat
