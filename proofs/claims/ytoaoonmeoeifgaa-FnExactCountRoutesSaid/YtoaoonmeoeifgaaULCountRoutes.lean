/- Proved: for every plan of rooms, every two rooms and every list of doors, laws.FnExactCountRoutes returns true and changes nothing that was there; no condition. -/
import Derived.Test.YtoaoonmeoeifgaaRows
import Derived.Deep.RegionHeld3
import Derived.Test.YtoaoonmeoeifgaaUOpen
import Derived.Test.YtoaoonmeoeifgaaURoutes
import Derived.Test.YtoaoonmeoeifgaaUMarkRooms
namespace Go.Proofs.Ytoaoonmeoeifgaa
open Go.ChangeShapes Go.WideShapes Go.ChangeAt Go.RowKit
set_option linter.unusedVariables false
namespace fnExactCountRoutes

set_option maxRecDepth 20000 in
set_option maxHeartbeats 2000000 in
theorem walk (w : World) (CR : Int) (hCR : I64 CR) (vR : Value) (R : List (List Int)) (hR : RowsR (.old w) w vR R) (f : Int) (hf : I64 f) (t : Int) (ht : I64 t) (vop : Value) (op : List Int) (hop : IntsR (.old w) w vop op) :
    Calls Try.prog 7 #[.agg #[.int .i64 CR, vR], .int .i64 f, .int .i64 t, vop] w (Ret w fun r _ => r = .bool true) := by
  obtain ⟨aR, nR, cR, rfl, shR, -⟩ := SliceR.shape hR
  clear shR
  obtain ⟨aop, nop, cop, rfl, shop, -⟩ := SliceR.shape hop
  have Hnop := Lib.hid shop; clear shop
  rcases Nat.lt_or_ge 1048576 nop with hlop | hlop
  · go_enter Try.func7, Try.ntmps7
    go_wp2_with fail
    go_ret
    exact ⟨_, rfl, rfl, (Below.refl _ _).alloc (Nat.le_refl _) _⟩
  have hlop : op.length ≤ 1048576 := by rw [← Hnop.out]; exact hlop
  have cS : ∀ (wq : World) (yR : Value) (zR : Zone) (yop : Value) (zop : Zone) (gR : RowsR zR wq yR R) (gop : IntsR zop wq yop op), Calls Try.prog 35 #[.agg #[.int .i64 CR, yR], .int .i64 f, .int .i64 t, yop] wq (Ret wq fun r _ => r = .tuple #[.int .i64 (countRoutes (CR, R) f t op).1, .int .i64 (countRoutes (CR, R) f t op).2]) := fun wq yR zR yop zop gR gop => (fun w v z x h f hf t ht u y op h' => CountRoutesSpec_c w v u z y x f t hf op h h') wq (.agg #[.int .i64 CR, yR]) zR (CR, R) ⟨_, rfl, hCR, gR⟩ f hf t ht yop zop op gop
  have cI : ∀ (wq : World) (yR : Value) (zR : Zone) (yop : Value) (zop : Zone) (gR : RowsR zR wq yR R) (gop : IntsR zop wq yop op), Calls Try.prog 36 #[.agg #[.int .i64 CR, yR], .int .i64 f, .int .i64 t, yop] wq (Ret wq fun r _ => r = .tuple #[.int .i64 (countRoutes (CR, R) f t op).1, .int .i64 (countRoutes (CR, R) f t op).2]) := fun wq yR zR yop zop gR gop => (fun w v z x h f hf t ht u y op h' => CountRoutes_c w v u z y x f t hf ht op h h') wq (.agg #[.int .i64 CR, yR]) zR (CR, R) ⟨_, rfl, hCR, gR⟩ f hf t ht yop zop op gop
  generalize (countRoutes (CR, R) f t op).1 = res0 at cS cI
  generalize (countRoutes (CR, R) f t op).2 = res1 at cS cI
  have CS := Lib.hid cS; have CI := Lib.hid cI; clear cS cI
  go_enter Try.func7, Try.ntmps7
  go_wp2_with fail
  generalize hwb1 : World.alloc _ _ = w1
  have b1 : Below w.heap.size w w1 := by rw [← hwb1]; exact (Below.refl _ _).alloc (Nat.le_refl _) _
  have s1 : w.heap.size < w1.heap.size := by rw [← hwb1]; simp
  have q0R : w1.cell? ⟨w.heap.size, 0, none⟩ = some (.int .i64 CR) := by rw [← hwb1]; clear hwb1; go_simp
  have q1R : w1.cell? ⟨w.heap.size, 1, none⟩ = some (.slice aR nR cR) := by rw [← hwb1]; clear hwb1; go_simp
  clear hwb1
  have B1 : Below w.heap.size w w1 := b1
  have szR := szRoomsA_c w1 CR _ _ R 1048576 hCR (stable_rows.below hR B1) (by omega) (by omega)
  rcases Nat.lt_or_ge (1048576 : Int).toNat (bulk R) with hbR | hbR
  · rw [szLeft_neg (by omega)] at szR
    refine Calls.mono szR ?_
    rintro e wx ⟨r, rfl, rfl, bx⟩
    go_wp2_with fail
    go_ret
    exact ⟨_, rfl, rfl, B1.trans (bx.mono B1.size)⟩
  rw [szLeft_pos (by omega)] at szR
  have lbR : bulk R ≤ 1048576 := by omega
  have lgR : (0 : Int) ≤ 1048576 - (bulk R : Int) := by omega
  have lhR : 1048576 - (bulk R : Int) ≤ 1048576 := by omega
  generalize (1048576 : Int) - (bulk R : Int) = lR at *
  refine Calls.mono szR ?_
  rintro e w2 ⟨r, rfl, rfl, hd2⟩
  clear szR
  have b2 : Below w1.heap.size w1 w2 := hd2
  have B2 : Below w.heap.size w w2 := B1.trans (b2.mono B1.size)
  have s2 : w1.heap.size ≤ w2.heap.size := b2.size
  replace q0R := (b2.cell (p := ⟨w.heap.size, 0, none⟩) (by show w.heap.size < w1.heap.size; omega)).trans q0R
  replace q1R := (b2.cell (p := ⟨w.heap.size, 1, none⟩) (by show w.heap.size < w1.heap.size; omega)).trans q1R
  go_wp2_with fail
  refine Calls.mono (toRoomsA_c w2 CR _ _ R hCR (stable_rows.below hR B2) lbR) ?_
  rintro e w3 ⟨rvsR, rfl, ⟨usR, rfl, rsR⟩, bb3⟩
  have b3 : Below w2.heap.size w2 w3 := bb3
  have B3 : Below w.heap.size w w3 := B2.trans (b3.mono B2.size)
  have s3 : w2.heap.size ≤ w3.heap.size := b3.size
  replace q0R := (b3.cell (p := ⟨w.heap.size, 0, none⟩) (by show w.heap.size < w2.heap.size; omega)).trans q0R
  replace q1R := (b3.cell (p := ⟨w.heap.size, 1, none⟩) (by show w.heap.size < w2.heap.size; omega)).trans q1R
  obtain ⟨asR, nsR, ksR, rfl, -⟩ := SliceR.shape rsR
  go_wp2_with fail
  refine Calls.mono (toInt64S_c w3 _ _ op (stable_ints.below hop B3) hlop) ?_
  rintro e w4 ⟨usop, rfl, rsop, bb4⟩
  have b4 : Below w3.heap.size w3 w4 := bb4
  have B4 : Below w.heap.size w w4 := B3.trans (b4.mono B3.size)
  have s4 : w3.heap.size ≤ w4.heap.size := b4.size
  replace rsR := stable_rows.below rsR b4
  replace q0R := (b4.cell (p := ⟨w.heap.size, 0, none⟩) (by show w.heap.size < w3.heap.size; omega)).trans q0R
  replace q1R := (b4.cell (p := ⟨w.heap.size, 1, none⟩) (by show w.heap.size < w3.heap.size; omega)).trans q1R
  go_wp2_with fail
  refine Calls.mono (CS.out w4 _ _ _ _ rsR rsop) ?_
  rintro e w5 ⟨rr5, rfl, rfl, bb5⟩
  have b5 : Below w4.heap.size w4 w5 := bb5
  have B5 : Below w.heap.size w w5 := B4.trans (b5.mono B4.size)
  have s5 : w4.heap.size ≤ w5.heap.size := b5.size
  replace rsR := stable_rows.below rsR b5
  replace rsop := stable_ints.below rsop b5
  replace q0R := (b5.cell (p := ⟨w.heap.size, 0, none⟩) (by show w.heap.size < w4.heap.size; omega)).trans q0R
  replace q1R := (b5.cell (p := ⟨w.heap.size, 1, none⟩) (by show w.heap.size < w4.heap.size; omega)).trans q1R
  clear rsR
  clear rsop
  go_wp2_with fail
  refine Calls.mono (toRoomsA_c w5 CR _ _ R hCR (stable_rows.below hR B5) lbR) ?_
  rintro e w6 ⟨rvxR, rfl, ⟨uxR, rfl, rxR⟩, bb6⟩
  have b6 : Below w5.heap.size w5 w6 := bb6
  have B6 : Below w.heap.size w w6 := B5.trans (b6.mono B5.size)
  have s6 : w5.heap.size ≤ w6.heap.size := b6.size
  replace q0R := (b6.cell (p := ⟨w.heap.size, 0, none⟩) (by show w.heap.size < w5.heap.size; omega)).trans q0R
  replace q1R := (b6.cell (p := ⟨w.heap.size, 1, none⟩) (by show w.heap.size < w5.heap.size; omega)).trans q1R
  obtain ⟨axR, nxR, kxR, rfl, -⟩ := SliceR.shape rxR
  go_wp2_with fail
  generalize hwb7 : World.alloc _ _ = w7
  have b7 : Below w6.heap.size w6 w7 := by rw [← hwb7]; exact (Below.refl _ _).alloc (Nat.le_refl _) _
  have s7 : w6.heap.size < w7.heap.size := by rw [← hwb7]; simp
  have p0R : w7.cell? ⟨w6.heap.size, 0, none⟩ = some (.int .i64 CR) := by rw [← hwb7]; clear hwb7; go_simp
  have p1R : w7.cell? ⟨w6.heap.size, 1, none⟩ = some (.slice axR nxR kxR) := by rw [← hwb7]; clear hwb7; go_simp
  clear hwb7
  have B7 : Below w.heap.size w w7 := B6.trans (b7.mono B6.size)
  replace rxR := stable_rows.below rxR b7
  replace q0R := (b7.cell (p := ⟨w.heap.size, 0, none⟩) (by show w.heap.size < w6.heap.size; omega)).trans q0R
  replace q1R := (b7.cell (p := ⟨w.heap.size, 1, none⟩) (by show w.heap.size < w6.heap.size; omega)).trans q1R
  refine Calls.mono (toInt64S_c w7 _ _ op (stable_ints.below hop B7) hlop) ?_
  rintro e w8 ⟨uxop, rfl, rxop, bb8⟩
  have b8 : Below w7.heap.size w7 w8 := bb8
  have B8 : Below w.heap.size w w8 := B7.trans (b8.mono B7.size)
  have s8 : w7.heap.size ≤ w8.heap.size := b8.size
  replace rxR := stable_rows.below rxR b8
  replace q0R := (b8.cell (p := ⟨w.heap.size, 0, none⟩) (by show w.heap.size < w7.heap.size; omega)).trans q0R
  replace q1R := (b8.cell (p := ⟨w.heap.size, 1, none⟩) (by show w.heap.size < w7.heap.size; omega)).trans q1R
  replace p0R := (b8.cell (p := ⟨w6.heap.size, 0, none⟩) (by show w6.heap.size < w7.heap.size; omega)).trans p0R
  replace p1R := (b8.cell (p := ⟨w6.heap.size, 1, none⟩) (by show w6.heap.size < w7.heap.size; omega)).trans p1R
  go_wp2_with fail
  refine Calls.mono (CI.out w8 _ _ _ _ rxR rxop) ?_
  rintro e w9 ⟨rr9, rfl, rfl, bb9⟩
  have b9 : Below w8.heap.size w8 w9 := bb9
  have B9 : Below w.heap.size w w9 := B8.trans (b9.mono B8.size)
  have s9 : w8.heap.size ≤ w9.heap.size := b9.size
  replace rxR := stable_rows.below rxR b9
  replace rxop := stable_ints.below rxop b9
  replace q0R := (b9.cell (p := ⟨w.heap.size, 0, none⟩) (by show w.heap.size < w8.heap.size; omega)).trans q0R
  replace q1R := (b9.cell (p := ⟨w.heap.size, 1, none⟩) (by show w.heap.size < w8.heap.size; omega)).trans q1R
  replace p0R := (b9.cell (p := ⟨w6.heap.size, 0, none⟩) (by show w6.heap.size < w8.heap.size; omega)).trans p0R
  replace p1R := (b9.cell (p := ⟨w6.heap.size, 1, none⟩) (by show w6.heap.size < w8.heap.size; omega)).trans p1R
  have HK11 : Hid (∀ w', Below w9.heap.size w9 w' → w'.cell? ⟨w.heap.size, 0, none⟩ = some (.int .i64 CR) ∧ w'.cell? ⟨w.heap.size, 1, none⟩ = some (.slice aR nR cR) ∧ w'.cell? ⟨w6.heap.size, 0, none⟩ = some (.int .i64 CR) ∧ w'.cell? ⟨w6.heap.size, 1, none⟩ = some (.slice axR nxR kxR)) := fun w' hb => ⟨(hb.cell (by show w.heap.size < w9.heap.size; omega)).trans q0R, (hb.cell (by show w.heap.size < w9.heap.size; omega)).trans q1R, (hb.cell (by show w6.heap.size < w9.heap.size; omega)).trans p0R, (hb.cell (by show w6.heap.size < w9.heap.size; omega)).trans p1R⟩
  have HF11 := Lib.hid (stable_rows.below hR B9)
  have HX11 := Lib.hid rxR
  go_wp2_with fail
  go_region_held3 (fun w' => w'.cell? ⟨w.heap.size, 0, none⟩ = some (.int .i64 CR) ∧ w'.cell? ⟨w.heap.size, 1, none⟩ = some (.slice aR nR cR) ∧ w'.cell? ⟨w6.heap.size, 0, none⟩ = some (.int .i64 CR) ∧ w'.cell? ⟨w6.heap.size, 1, none⟩ = some (.slice axR nxR kxR)) (first | exact HK11.out _ (Below.refl _ _).drew | exact HK11.out _ ((Below.refl _ _).drew.trans bA11) | exact HK11.out _ (((Below.refl _ _).drew.trans bA11).trans (bB11.mono bA11.size)))
    (first | (go_at_call 29; refine (toRoomsA_c _ _ _ _ R hCR (stable_rows.below HF11.out (Below.refl _ _).drew) lbR).mono ?_; rintro e wA11 ⟨rv, rfl, ⟨uA11, rfl, rA11⟩, bA11⟩) | (go_at_call 31; refine (eqRoomsA_c _ _ _ _ _ _ R hCR (stable_rows.below HX11.out ((Below.refl _ _).drew.trans bA11)) rA11).mono ?_; rintro e w11 ⟨rv, rfl, rfl, bB11⟩))
  clear HK11 HF11 HX11
  have b11 : Below w9.heap.size w9 w11 := (((Below.refl _ _).drew.trans bA11).trans (bB11.mono bA11.size))
  have B11 : Below w.heap.size w w11 := B9.trans (b11.mono B9.size)
  have s11 : w9.heap.size ≤ w11.heap.size := b11.size
  replace rxR := stable_rows.below rxR b11
  replace rxop := stable_ints.below rxop b11
  replace q0R := (b11.cell (p := ⟨w.heap.size, 0, none⟩) (by show w.heap.size < w9.heap.size; omega)).trans q0R
  replace q1R := (b11.cell (p := ⟨w.heap.size, 1, none⟩) (by show w.heap.size < w9.heap.size; omega)).trans q1R
  replace p0R := (b11.cell (p := ⟨w6.heap.size, 0, none⟩) (by show w6.heap.size < w9.heap.size; omega)).trans p0R
  replace p1R := (b11.cell (p := ⟨w6.heap.size, 1, none⟩) (by show w6.heap.size < w9.heap.size; omega)).trans p1R
  go_wp2_with fail
  refine Calls.mono (toInt64S_c w11 _ _ op (stable_ints.below hop B11) hlop) ?_
  rintro e w12 ⟨ucop, rfl, rcop, bb12⟩
  have b12 : Below w11.heap.size w11 w12 := bb12
  have B12 : Below w.heap.size w w12 := B11.trans (b12.mono B11.size)
  have s12 : w11.heap.size ≤ w12.heap.size := b12.size
  replace rxR := stable_rows.below rxR b12
  replace rxop := stable_ints.below rxop b12
  replace q0R := (b12.cell (p := ⟨w.heap.size, 0, none⟩) (by show w.heap.size < w11.heap.size; omega)).trans q0R
  replace q1R := (b12.cell (p := ⟨w.heap.size, 1, none⟩) (by show w.heap.size < w11.heap.size; omega)).trans q1R
  replace p0R := (b12.cell (p := ⟨w6.heap.size, 0, none⟩) (by show w6.heap.size < w11.heap.size; omega)).trans p0R
  replace p1R := (b12.cell (p := ⟨w6.heap.size, 1, none⟩) (by show w6.heap.size < w11.heap.size; omega)).trans p1R
  go_wp2_with fail
  refine Calls.mono (Calls.vq (eqInt64S_c w12 _ _ _ _ op op rxop rcop) (congrArg Value.bool (decide_eq_true rfl))) ?_
  rintro e w13 ⟨rfl, hd13⟩
  have b13 : Below w12.heap.size w12 w13 := hd13.below _
  have B13 : Below w.heap.size w w13 := B12.trans (b13.mono B12.size)
  have s13 : w12.heap.size ≤ w13.heap.size := b13.size
  replace rxR := stable_rows.below rxR b13
  replace rxop := stable_ints.below rxop b13
  replace rcop := stable_ints.below rcop b13
  replace q0R := (b13.cell (p := ⟨w.heap.size, 0, none⟩) (by show w.heap.size < w12.heap.size; omega)).trans q0R
  replace q1R := (b13.cell (p := ⟨w.heap.size, 1, none⟩) (by show w.heap.size < w12.heap.size; omega)).trans q1R
  replace p0R := (b13.cell (p := ⟨w6.heap.size, 0, none⟩) (by show w6.heap.size < w12.heap.size; omega)).trans p0R
  replace p1R := (b13.cell (p := ⟨w6.heap.size, 1, none⟩) (by show w6.heap.size < w12.heap.size; omega)).trans p1R
  clear rcop
  go_wp2_with fail
  go_ret
  exact ⟨_, rfl, rfl, B13⟩


/-! ### the row -/
theorem own : ownKnob Try.prog.godebug = none := by kernel_rfl
theorem laidOut : laidOutB Try.prog = true := by kernel_rfl
set_option maxRecDepth 100000 in
theorem lifted (os : Os) (started : os.Started) (H : Type) (enc : TypeId × Value → H) :
    ReturnsInHanded {} Try.checked os 7 .any (Rows.fnExactCountRoutesSpec.pre6 enc Try.prog Try.f7 Rows.fnExactCountRoutesRow.domain false) (Rows.fnExactCountRoutesSpec.post enc Try.prog Try.f7 false true false false) := by
  refine returnsInHanded_of_change (C := Try.checked) own started (by kernel_rfl) Try.func7
    (ChangeSpec.witness6 (enc := enc) (C := Try.checked) false ⟨#[], #[.agg #[.int .i64 0, .slice none 0 0], .int .i64 0, .int .i64 0, .slice none 0 0], []⟩ 8 (by kernel_rfl) (by kernel_rfl) (by kernel_rfl) (by kernel_rfl)) ?_
  intro W base args ds gs before hval0 hW hcnd _
  have hval : ∀ (j : Nat) t v, Try.f7.params[j]? = some t → args[j]? = some v → Value.okWide Try.prog W .any base t v := hval0
  have hW' := hW
  obtain ⟨p, q, hA0, hV, rfl, hfz, hnd⟩ := hW
  have hA : DataW.TrodAll enc Try.prog W 0 (fun _ => true) true Try.f7.params.toList args.toList ds p := hA0
  rw [Try.params7] at hA hval
  obtain ⟨v0, vs0, d0, ds0, p0, q0, hargs, rfl, rfl, h0, r0⟩ := trodAll_cons hA
  obtain ⟨v1, vs1, d1, ds1, p1, q1, rfl, rfl, rfl, h1, r1⟩ := trodAll_cons r0
  obtain ⟨v2, vs2, d2, ds2, p2, q2, rfl, rfl, rfl, h2, r2⟩ := trodAll_cons r1
  obtain ⟨v3, vs3, d3, ds3, p3, q3, rfl, rfl, rfl, h3, r3⟩ := trodAll_cons r2
  obtain ⟨rfl, rfl, rfl⟩ := trodAll_nil r3
  obtain rfl : args = #[v0, v1, v2, v3] := by cases args; simp_all
  obtain ⟨rfl, rfl⟩ := trodVars_none hV
  have k0 := h0
  have lt0 : ∀ x ∈ p0, x.block < W.heap.size := by obtain ⟨m, hm⟩ := k0; exact DataW.trod_lt m _ _ _ hm
  obtain ⟨c0, u0, y0, z0, m0, rfl, -, -, hc0, hu0⟩ := Joins.open_agg2 Try.underlying37 (by kernel_rfl) (by kernel_rfl) (hval 0 37 v0 rfl rfl) h0
  obtain ⟨a0, rfl, w0⟩ := open_I64 Try.underlying2 hc0
  obtain ⟨x0, b0⟩ := open_RowsR Try.underlying22 Try.underlying23 Try.underlying2 (by kernel_rfl) (by kernel_rfl) hu0
  have k1 := h1
  have lt1 : ∀ x ∈ p1, x.block < W.heap.size := by obtain ⟨m, hm⟩ := k1; exact DataW.trod_lt m _ _ _ hm
  obtain ⟨a1, rfl, -, -, g1⟩ := open_int Try.underlying2 (hval 1 2 v1 rfl rfl) h1
  have w1 := wf_i64 g1
  have k2 := h2
  have lt2 : ∀ x ∈ p2, x.block < W.heap.size := by obtain ⟨m, hm⟩ := k2; exact DataW.trod_lt m _ _ _ hm
  obtain ⟨a2, rfl, -, -, g2⟩ := open_int Try.underlying2 (hval 2 2 v2 rfl rfl) h2
  have w2 := wf_i64 g2
  have k3 := h3
  have lt3 : ∀ x ∈ p3, x.block < W.heap.size := by obtain ⟨m, hm⟩ := k3; exact DataW.trod_lt m _ _ _ hm
  obtain ⟨a3, len3, cap3, rfl⟩ := okWide_slice Try.underlying23 (hval 3 23 v3 rfl rfl)
  obtain ⟨x3, w3⟩ : ∃ xs, IntsR (.old W) W (.slice a3 len3 cap3) xs := by obtain ⟨fuel, hf⟩ := h3; exact open_IntsR Try.underlying23 Try.underlying2 (by kernel_rfl) hf
  clear hA0 hval0
  refine (walk W a0 w0 _ x0 b0 a1 w1 a2 w2 _ x3 w3).mono fun e W' hret => ?_
  obtain ⟨r, rfl, rfl, bel⟩ := hret
  exact ⟨_, rfl, _, _, _, [], _, [], hW', trodAll_mk1 (shut_bool Try.underlying4 _), (trodAll_cons_mk (Below.trod laidOut (by kernel_rfl) (of_decide_eq_true (by kernel_rfl)) k0 bel lt0) (trodAll_cons_mk (Below.trod laidOut (by kernel_rfl) (of_decide_eq_true (by kernel_rfl)) k1 bel lt1) (trodAll_cons_mk (Below.trod laidOut (by kernel_rfl) (of_decide_eq_true (by kernel_rfl)) k2 bel lt2) (trodAll_cons_mk (Below.trod laidOut (by kernel_rfl) (of_decide_eq_true (by kernel_rfl)) k3 bel lt3) trodAll_mk0)))), rfl, bel.frame _, fun h => by cases h⟩

theorem over : Rows.fnExactCountRoutesRow.holds Try.pinned (OpenSpec.ofChange Rows.fnExactCountRoutesSpec) :=
  OpenClaim.holds_of_wide 7 Try.f7 rfl rfl rfl rfl rfl rfl rfl ⟨rfl, rfl, rfl, rfl, rfl⟩ rfl rfl rfl rfl rfl (by kernel_rfl) Try.func7 (by kernel_rfl)
    (of_decide_eq_true (by kernel_rfl)) (by unfold Func.isWrapper; first | (rw [if_pos (by decide +kernel)]; kernel_rfl) | (rw [if_neg (by decide +kernel)]; exact ⟨rfl, rfl⟩))
    (fun os started H enc _ => lifted os started H enc)

theorem proved : Rows.FnExactCountRoutesSaid := over


end fnExactCountRoutes
end Go.Proofs.Ytoaoonmeoeifgaa
