/- Proved: for every code, laws.FnCosts returns true and changes nothing that was there; no condition. -/
import Derived.Test.YtegmognpofcfiaaGreatRows
import Derived.Deep.RegionLaw
import Derived.Deep.RegionHeld3
import Derived.Test.YtegmognpofcfiaaGreatUPkL
import Derived.Test.YtegmognpofcfiaaGreatUDrawCost
import Derived.Test.YtegmognpofcfiaaGreatUCostLaw
import Derived.Test.YtegmognpofcfiaaGreatUSysWaf
import Derived.Test.YtegmognpofcfiaaGreatUSumInts
import Derived.Test.YtegmognpofcfiaaGreatULikeInts
import Derived.Test.YtegmognpofcfiaaGreatUBig
namespace Go.Proofs.YtegmognpofcfiaaGreat
open Go.ChangeShapes Go.WideShapes Go.ChangeAt Go.RowKit
set_option linter.unusedVariables false
namespace fnCosts

theorem tot_take {l : List Int} {s : Int} (h : Tot l s) (hs : s ≤ 1000000) : ∀ k, k ≤ l.length → I64 (l.take k).sum := fun k _ => by
  have h1 := sum_pos (l := l.take k) (fun x hx => h.pos x (List.mem_of_mem_take hx))
  have h2 := sum_pos (l := l.drop k) (fun x hx => h.pos x (List.mem_of_mem_drop hx))
  have h3 : l.sum = (l.take k).sum + (l.drop k).sum := by rw [← List.sum_append, List.take_append_drop]
  have := h.sum
  unfold I64; omega
/-- what is told where there is a cost -/
structure CF (mk : MK) (t cuts : List (List Int)) (ps : List Int) (n ca sw x1 x2 x3 x4 : Int) : Prop where
  code : designCode mk t cuts = 0
  len : ps.length = 3
  s0 : (systemStock mk t cuts).1.1.sum = ca
  s1 : (systemStock mk t cuts).1.2.1.sum = sw
  s2 : (systemStock mk t cuts).1.2.2.sum = ca
  b0 : ∀ k, k ≤ (systemStock mk t cuts).1.1.length → I64 ((systemStock mk t cuts).1.1.take k).sum
  b1 : ∀ k, k ≤ (systemStock mk t cuts).1.2.1.length → I64 ((systemStock mk t cuts).1.2.1.take k).sum
  b2 : ∀ k, k ≤ (systemStock mk t cuts).1.2.2.length → I64 ((systemStock mk t cuts).1.2.2.take k).sum
  w1 : IntKind.i64.wrap (ca * ps.getD 0 0) = x1
  w2 : IntKind.i64.wrap (sw * ps.getD 1 0) = x2
  w3 : IntKind.i64.wrap (x1 + x2) = x3
  w4 : IntKind.i64.wrap (ca * ps.getD 2 0) = x4
  w5 : IntKind.i64.wrap (x3 + x4) = n
  waf : sysWaf mk t cuts = (sw, 0)
  stk : (systemStock mk t cuts).2 = 0
  free : costOf mk t cuts [0, 0, 0] = (0, 0)
theorem cf {mk : MK} {t cuts : List (List Int)} {ps : List Int} {n : Int} (h : costOf mk t cuts ps = (n, 0)) : ∃ ca sw x1 x2 x3 x4, CF mk t cuts ps n ca sw x1 x2 x3 x4 := by
  by_cases hd : designCode mk t cuts = 0
  · cases hp : pricesOk ps with
    | false => rw [costOf_prices hd hp] at h; cases h
    | true =>
      rw [costOf_ok hd hp] at h
      obtain ⟨hl, hb⟩ := pricesOk_mem hp
      have ok := designCode_zero hd
      have hc := ok.mk1
      have hdo := ok.doors
      have T := stock_design hd
      have hsw := sysWafers_bound (cuts := cuts) ok.toSysOk
      have hn : n = costV mk t cuts ps := by injection h with h _; exact h.symm
      have q0 := hb 0 (by omega)
      have q1 := hb 1 (by omega)
      have q2 := hb 2 (by omega)
      have hca := mul_bound (a := mk.c) (b := (doorsOf t : Int)) (A := 6) (B := 12) (by omega) hc.2 (by omega) (by omega)
      have m0 := mul_bound (a := mk.c * (doorsOf t : Int)) (b := ps.getD 0 0) (A := 72) (B := 1000) (by omega) (by omega) q0.1 q0.2
      have m1 := mul_bound (a := sysWafers mk t cuts) (b := ps.getD 1 0) (A := 504) (B := 1000) (by omega) (by omega) q1.1 q1.2
      have m2 := mul_bound (a := mk.c * (doorsOf t : Int)) (b := ps.getD 2 0) (A := 72) (B := 1000) (by omega) (by omega) q2.1 q2.2
      have e := systemStock_ok hd
      refine ⟨mk.c * (doorsOf t : Int), sysWafers mk t cuts, mk.c * (doorsOf t : Int) * ps.getD 0 0, sysWafers mk t cuts * ps.getD 1 0, mk.c * (doorsOf t : Int) * ps.getD 0 0 + sysWafers mk t cuts * ps.getD 1 0, mk.c * (doorsOf t : Int) * ps.getD 2 0, ?_⟩
      refine ⟨hd, hl, ?_, ?_, ?_, ?_, ?_, ?_, IntWalk.i64_in _ (by omega), IntWalk.i64_in _ (by omega), IntWalk.i64_in _ (by omega), IntWalk.i64_in _ (by omega), ?_, sysWaf_ok hd, by rw [e], cost_free hd⟩
      · rw [e]; exact T.t0.sum
      · rw [e]; exact T.t1.sum
      · rw [e]; exact T.t2.sum
      · rw [e]; exact tot_take T.t0 (by omega)
      · rw [e]; exact tot_take T.t1 (by omega)
      · rw [e]; exact tot_take T.t2 (by omega)
      · rw [hn]
        unfold costV
        rw [Int.mul_add, IntWalk.i64_in _ (by omega)]
        omega
  · rw [costOf_bad hd] at h
    injection h with _ h
    exact absurd h hd

set_option maxRecDepth 20000 in
set_option maxHeartbeats 1500000 in
theorem walk (w : World) (v : Value) (x : List Int) (h : BytesR (.old w) w v x) : Calls Tryz.prog 3 #[v] w (Ret w fun r _ => r = .bool true) := by
  have hcall := big_c w v _ x h
  have H := Lib.hid (fun (w' : World) (e : Ext w w') => stable_bytes.ext h e)
  clear h
  cases hb : decide (4096 < x.length) with
  | true =>
    rw [hb] at hcall
    clear hb
    go_enter Tryz.func3, Tryz.ntmps3
    go_wp2_with fail
    refine Calls.mono hcall ?_
    rintro e w1 hr
    obtain ⟨rfl, hd, e1⟩ := retq_ext hr
    clear hr hcall
    go_wp2_with fail
    go_ret
    exact ⟨_, rfl, rfl, e1⟩
  | false =>
    rw [hb] at hcall
    clear hb
    go_enter Tryz.func3, Tryz.ntmps3
    go_wp2_with fail
    refine Calls.mono hcall ?_
    rintro e w1 hr
    obtain ⟨rfl, hd, e1⟩ := retq_ext hr
    clear hr hcall hd
    have hcall := DrawCostOf_c w1 v _ x (H.out w1 e1)
    go_wp2_with fail
    refine Calls.mono hcall ?_
    rintro e w2 hr
    obtain ⟨_, rfl, ⟨mk, vt, t, vc, cuts, vp, ps, rfl, ht, hc, hp⟩, e2⟩ := ret_ext hr
    clear hr hcall
    have HE := Lib.hid (e1.trans e2)
    obtain ⟨a1, n1, k1, rfl, -⟩ := SliceR.shape ht
    obtain ⟨a2, n2, k2, rfl, -⟩ := SliceR.shape hc
    obtain ⟨a3, n3, k3, rfl, -⟩ := SliceR.shape hp
    clear e1 e2
    obtain ⟨⟨nv, bad⟩, hcost⟩ : ∃ q, costOf mk t cuts ps = q := ⟨_, rfl⟩
    obtain ⟨⟨wv, one⟩, hwaf⟩ : ∃ q, sysWaf mk t cuts = q := ⟨_, rfl⟩
    obtain ⟨⟨⟨l0, l1, l2⟩, three⟩, hstk⟩ : ∃ q, systemStock mk t cuts = q := ⟨_, rfl⟩
    have HF : Hid (bad = 0 → ∃ ca sw x1 x2 x3 x4, CF mk t cuts ps nv ca sw x1 x2 x3 x4) := fun h0 => cf (by rw [hcost, h0])
    have HWf := Lib.hid hwaf
    have HSt := Lib.hid hstk
    unfold sysV
    go_wp2_with fail
    generalize hw3 : World.alloc w2 _ = w3
    obtain ⟨e3, S3⟩ := sys_box hw3
    clear hw3
    have HS := Lib.hid S3
    have HT := Lib.hid (fun (w' : World) (e : Ext w3 w') => stable_rows.ext ht (e3.trans e))
    have HC := Lib.hid (fun (w' : World) (e : Ext w3 w') => stable_rows.ext hc (e3.trans e))
    have HP := Lib.hid (fun (w' : World) (e : Ext w3 w') => stable_ints.ext hp (e3.trans e))
    replace HE := Lib.hid (HE.out.trans e3)
    have r3 := Ext.refl w3
    clear ht hc hp S3 e3
    have hcall := CostOf_c w3 mk _ _ t (HT.out _ r3) _ _ cuts (HC.out _ r3) _ _ ps (HP.out _ r3)
    rw [hcost] at hcall
    unfold sysV at hcall
    refine Calls.mono hcall ?_
    rintro e w4 hr
    obtain ⟨_, rfl, rfl, e4⟩ := ret_ext hr
    clear hr hcall
    have hcall := CostOfSpec_c w4 mk _ _ t (HT.out _ e4) _ _ cuts (HC.out _ e4) _ _ ps (HP.out _ e4)
    rw [hcost] at hcall
    unfold sysV at hcall
    clear hcost
    obtain ⟨c0, c1, c2, c3, c4, c5⟩ := HS.out.ext e4
    unfold IntCode at hcall ⊢
    simp only at hcall ⊢
    go_wp2_with fail
    refine Calls.mono hcall ?_
    rintro e w5 hr
    obtain ⟨_, rfl, rfl, b5⟩ := ret_ext hr
    clear hr hcall c0 c1 c2 c3 c4 c5
    have e5 := e4.trans b5
    clear e4 b5
    have hcall := SystemWafers_c w5 mk _ _ t (HT.out _ e5) _ _ cuts (HC.out _ e5)
    rw [hwaf] at hcall
    unfold sysV at hcall
    obtain ⟨c0, c1, c2, c3, c4, c5⟩ := HS.out.ext e5
    unfold IntCode at hcall
    simp only at hcall
    go_wp2_with fail
    refine Calls.mono hcall ?_
    rintro e w6 hr
    obtain ⟨_, rfl, rfl, b6⟩ := ret_ext hr
    clear hr hcall c0 c1 c2 c3 c4 c5
    have e6 := e5.trans b6
    clear e5 b6
    have hcall := SystemWafersSpec_c w6 mk _ _ t (HT.out _ e6) _ _ cuts (HC.out _ e6)
    rw [hwaf] at hcall
    unfold sysV at hcall
    obtain ⟨c0, c1, c2, c3, c4, c5⟩ := HS.out.ext e6
    unfold IntCode at hcall
    simp only at hcall
    clear hwaf
    go_wp2_with fail
    refine Calls.mono hcall ?_
    rintro e w7 hr
    obtain ⟨_, rfl, rfl, b7⟩ := ret_ext hr
    clear hr hcall c0 c1 c2 c3 c4 c5
    have e7 := e6.trans b7
    clear e6 b7
    have hcall := SystemStock_c w7 mk _ _ t (HT.out _ e7) _ _ cuts (HC.out _ e7)
    rw [hstk] at hcall
    unfold sysV at hcall
    obtain ⟨c0, c1, c2, c3, c4, c5⟩ := HS.out.ext e7
    go_wp2_with fail
    refine Calls.mono hcall ?_
    rintro e w8 hr
    obtain ⟨_, rfl, ⟨u0, u1, u2, z00, z01, z10, z11, z20, z21, rfl, -, i0, i1, i2⟩, b8⟩ := ret_ext hr
    clear hr hcall c0 c1 c2 c3 c4 c5
    simp only at i0 i1 i2
    have e8 := e7.trans b8
    clear e7 b8
    have hcall := SystemStockSpec_c w8 mk _ _ t (HT.out _ e8) _ _ cuts (HC.out _ e8)
    rw [hstk] at hcall
    unfold sysV at hcall
    obtain ⟨c0, c1, c2, c3, c4, c5⟩ := HS.out.ext e8
    obtain ⟨a4, n4, k4, rfl, -⟩ := SliceR.shape i0
    obtain ⟨a5, n5, k5, rfl, -⟩ := SliceR.shape i1
    obtain ⟨a6, n6, k6, rfl, -⟩ := SliceR.shape i2
    have HI0 := Lib.hid (fun (w' : World) (e : Ext w8 w') => stable_ints.ext i0 e)
    have HI1 := Lib.hid (fun (w' : World) (e : Ext w8 w') => stable_ints.ext i1 e)
    have HI2 := Lib.hid (fun (w' : World) (e : Ext w8 w') => stable_ints.ext i2 e)
    have HE8 := Lib.hid e8
    clear i0 i1 i2 hstk e8
    go_wp2_with fail
    refine Calls.mono hcall ?_
    rintro e w9 hr
    obtain ⟨_, rfl, ⟨v0, v1, v2, y00, y01, y10, y11, y20, y21, rfl, -, j0, j1, j2⟩, b9⟩ := ret_ext hr
    clear hr hcall c0 c1 c2 c3 c4 c5
    simp only at j0 j1 j2
    obtain ⟨a7, n7, k7, rfl, -⟩ := SliceR.shape j0
    obtain ⟨a8, n8, k8, rfl, -⟩ := SliceR.shape j1
    obtain ⟨a9, n9, k9, rfl, -⟩ := SliceR.shape j2
    have HJ1 := Lib.hid (fun (w' : World) (e : Ext w9 w') => stable_ints.ext j1 e)
    have HJ2 := Lib.hid (fun (w' : World) (e : Ext w9 w') => stable_ints.ext j2 e)
    have hcall := likeInts_c w9 _ _ _ _ l0 l0 (HI0.out _ b9) j0
    rw [show decide (l0 = l0) = true by simp] at hcall
    have HB9 := Lib.hid b9
    clear j0 j1 j2 b9
    go_wp2_with fail
    refine Calls.mono hcall ?_
    rintro e wa hr
    obtain ⟨rfl, -, ba⟩ := retq_ext hr
    clear hr hcall
    have hcall := likeInts_c wa _ _ _ _ l1 l1 (HI1.out _ (HB9.out.trans ba)) (HJ1.out _ ba)
    rw [show decide (l1 = l1) = true by simp] at hcall
    go_wp2_with fail
    refine Calls.mono hcall ?_
    rintro e wb hr
    obtain ⟨rfl, -, bb⟩ := retq_ext hr
    clear hr hcall
    replace bb := ba.trans bb
    clear ba
    have hcall := likeInts_c wb _ _ _ _ l2 l2 (HI2.out _ (HB9.out.trans bb)) (HJ2.out _ bb)
    rw [show decide (l2 = l2) = true by simp] at hcall
    go_wp2_with fail
    refine Calls.mono hcall ?_
    rintro e wc hr
    obtain ⟨rfl, -, bc⟩ := retq_ext hr
    clear hr hcall
    replace bc := bb.trans bc
    have eC := HE8.out.trans (HB9.out.trans bc)
    have HEC := Lib.hid eC
    clear bb eC
    by_cases hbad : bad = 0
    · subst hbad
      obtain ⟨ca, sw, x1, x2, x3, x4, F⟩ := HF.out rfl
      have HCF := Lib.hid F
      obtain ⟨wv', hwv⟩ : ∃ q, q = wv := ⟨_, rfl⟩
      have e1 : wv = sw ∧ one = 0 := by have h1 := HWf.out; rw [F.waf] at h1; injection h1 with h1 h2; exact ⟨h1.symm, h2.symm⟩
      have e2 : three = 0 := by have h1 := F.stk; rw [HSt.out] at h1; exact h1
      obtain ⟨rfl, rfl⟩ := e1
      subst e2
      clear hwv wv'
      have s0 := F.s0
      have s1 := F.s1
      have s2 := F.s2
      have b0 := F.b0
      have b1 := F.b1
      have b2 := F.b2
      rw [HSt.out] at s0 s1 s2 b0 b1 b2
      simp only at s0 s1 s2 b0 b1 b2
      have hu0 := HI0.out _ (HB9.out.trans bc)
      have hu1 := HI1.out _ (HB9.out.trans bc)
      have hu2 := HI2.out _ (HB9.out.trans bc)
      have HC0 := Lib.hid (fun m => (sum_c (wc.drewN m) _ _ l0 (stable_ints.drewN hu0 m) b0).vq (by rw [s0]))
      have HC1 := Lib.hid (fun m => (sum_c (wc.drewN m) _ _ l1 (stable_ints.drewN hu1 m) b1).vq (by rw [s1]))
      have HC2 := Lib.hid (fun m => (sum_c (wc.drewN m) _ _ l2 (stable_ints.drewN hu2 m) b2).vq (by rw [s2]))
      have m1 := F.w1
      have m2 := F.w2
      have m3 := F.w3
      have m4 := F.w4
      have m5 := F.w5
      have hl3 := F.len
      obtain ⟨a', n', c', he, hn, -, -, -, -, hel⟩ := IntsR.shape (HP.out wc HEC.out)
      injection he with q1 q2 q3
      subst q1; subst q2; subst q3
      have hn3 : n3 = 3 := by rw [hn]; exact hl3
      subst hn3
      obtain ⟨b, off, rfl, p0, -⟩ := hel 0 (by omega)
      obtain ⟨b', off', he', p1, -⟩ := hel 1 (by omega)
      obtain ⟨b'', off'', he'', p2, -⟩ := hel 2 (by omega)
      rw [Nat.add_zero] at p0
      injection he' with he'; injection he' with r1 r2
      injection he'' with he''; injection he'' with r3' r4
      subst r1; subst r2; subst r3'; subst r4
      generalize ps.getD 0 0 = g0 at *
      generalize ps.getD 1 0 = g1 at *
      generalize ps.getD 2 0 = g2 at *
      clear F s0 s1 s2 b0 b1 b2 hu0 hu1 hu2 hel hl3 hn bc
      go_wp2_with fail
      obtain ⟨c0, c1, c2, c3, c4, c5⟩ := HS.out.ext HEC.out
      go_quiet ((go_at_call 21; first | with_reducible exact RetQ.quiet (HC1.out _) | with_reducible exact RetQ.quiet (HC0.out _) | with_reducible exact RetQ.quiet (HC2.out _) | fail))
      have HZ := Lib.hid (fun (w' : World) (hw : w' = (wc.drewN nq).alloc (.cells #[.int .i64 0, .int .i64 0, .int .i64 0] 2)) => (show Ext w3 w' ∧ IntsR ⟨wc.heap.size, w'.heap.size, true⟩ w' (.slice (some ⟨wc.heap.size, 0, none⟩) 3 3) [0, 0, 0] by
        subst hw
        exact ⟨HEC.out.trans ((Ext.drewN _ _).trans (Ext.alloc _ _)), OwnP.ints (OwnP.lit (f := Value.int .i64) (e := 2) (B := wc.heap.size) (w := wc.drewN nq) (Nat.le_refl _) [0, 0, 0] #[.int .i64 0, .int .i64 0, .int .i64 0] rfl (by simp [maxLen])) (by simp [I64]) (Nat.le_refl _)⟩))
      clear m1 m2 m3 m4 m5 p0 p1 p2
      go_wp2_with fail
      generalize hwd : World.alloc (wc.drewN nq) _ = wd
      obtain ⟨eD, hz⟩ := HZ.out wd hwd.symm
      clear hwd HZ
      have hcall := CostOf_c wd mk _ _ t (HT.out _ eD) _ _ cuts (HC.out _ eD) _ _ [0, 0, 0] hz
      rw [HCF.out.free] at hcall
      unfold sysV at hcall
      unfold IntCode at hcall
      simp only at hcall
      clear hz
      refine Calls.mono hcall ?_
      rintro e we hr
      obtain ⟨_, rfl, rfl, bE⟩ := ret_ext hr
      clear hr hcall
      go_wp2_with fail
      go_ret
      exact ⟨_, rfl, rfl, HE.out.trans (eD.trans bE)⟩
    · have hne : (bad != 0) = true := by rw [bne_iff_ne]; exact hbad
      clear bc
      go_wp2_with fail
      go_ret
      exact ⟨_, rfl, rfl, HE.out.trans HEC.out⟩


/-! ### the row -/
theorem own : ownKnob Tryz.prog.godebug = none := by kernel_rfl
theorem laidOut : laidOutB Tryz.prog = true := by kernel_rfl
set_option maxRecDepth 100000 in
theorem lifted (os : Os) (started : os.Started) (H : Type) (enc : TypeId × Value → H) :
    ReturnsInHanded {} Tryz.checked os 3 .any (Rows.fnCostsSpec.pre6 enc Tryz.prog Tryz.f3 Rows.fnCostsRow.domain false) (Rows.fnCostsSpec.post enc Tryz.prog Tryz.f3 false true false false) := by
  refine returnsInHanded_of_change (C := Tryz.checked) own started (by kernel_rfl) Tryz.func3
    (ChangeSpec.witness6 (enc := enc) (C := Tryz.checked) false ⟨#[], #[.slice none 0 0], []⟩ 8 (by kernel_rfl) (by kernel_rfl) (by kernel_rfl) (by kernel_rfl)) ?_
  intro W base args ds gs before hval0 hW hcnd _
  have hval : ∀ (j : Nat) t v, Tryz.f3.params[j]? = some t → args[j]? = some v → Value.okWide Tryz.prog W .any base t v := hval0
  have hW' := hW
  obtain ⟨p, q, hA0, hV, rfl, hfz, hnd⟩ := hW
  have hA : DataW.TrodAll enc Tryz.prog W 0 (fun _ => true) true Tryz.f3.params.toList args.toList ds p := hA0
  rw [Tryz.params3] at hA hval
  obtain ⟨v0, vs0, d0, ds0, p0, q0, hargs, rfl, rfl, h0, r0⟩ := trodAll_cons hA
  obtain ⟨rfl, rfl, rfl⟩ := trodAll_nil r0
  obtain rfl : args = #[v0] := by cases args; simp_all
  obtain ⟨rfl, rfl⟩ := trodVars_none hV
  have k0 := h0
  have lt0 : ∀ x ∈ p0, x.block < W.heap.size := by obtain ⟨m, hm⟩ := k0; exact DataW.trod_lt m _ _ _ hm
  obtain ⟨a0, len0, cap0, rfl⟩ := okWide_slice Tryz.underlying22 (hval 0 22 v0 rfl rfl)
  obtain ⟨x0, w0⟩ : ∃ xs, BytesR (.old W) W (.slice a0 len0 cap0) xs := by obtain ⟨fuel, hf⟩ := h0; exact open_BytesR Tryz.underlying22 Tryz.underlying5 (by kernel_rfl) hf
  clear hA0 hval0
  refine (walk W _ x0 w0).mono fun e W' hret => ?_
  obtain ⟨r, rfl, rfl, bel⟩ := hret
  exact ⟨_, rfl, _, _, _, [], _, [], hW', trodAll_mk1 (shut_bool Tryz.underlying4 _), (trodAll_cons_mk (Below.trod laidOut (by kernel_rfl) (of_decide_eq_true (by kernel_rfl)) k0 bel lt0) trodAll_mk0), rfl, bel.frame _, fun h => by cases h⟩

theorem over : Rows.fnCostsRow.holds Tryz.pinned (OpenSpec.ofChange Rows.fnCostsSpec) :=
  OpenClaim.holds_of_wide 3 Tryz.f3 rfl rfl rfl rfl rfl rfl rfl ⟨rfl, rfl, rfl, rfl, rfl⟩ rfl rfl rfl rfl rfl (by kernel_rfl) Tryz.func3 (by kernel_rfl)
    (of_decide_eq_true (by kernel_rfl)) (by unfold Func.isWrapper; first | (rw [if_pos (by decide +kernel)]; kernel_rfl) | (rw [if_neg (by decide +kernel)]; exact ⟨rfl, rfl⟩))
    (fun os started H enc _ => lifted os started H enc)

theorem proved : Rows.FnCostsSaid := over

end fnCosts
end Go.Proofs.YtegmognpofcfiaaGreat
