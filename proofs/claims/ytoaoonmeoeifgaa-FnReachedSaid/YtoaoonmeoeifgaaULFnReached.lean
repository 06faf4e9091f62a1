/- Proved: for every code, laws.FnReached returns true and changes nothing that was there; no condition. -/
import Derived.Test.YtoaoonmeoeifgaaRows
import Derived.Test.YtoaoonmeoeifgaaUOpen
import Derived.Test.YtoaoonmeoeifgaaUDrawShort
import Derived.Test.YtoaoonmeoeifgaaURouteLaws
import Derived.Test.YtoaoonmeoeifgaaULikeRows
import Derived.Test.YtoaoonmeoeifgaaUHasInt
import Derived.Test.YtoaoonmeoeifgaaUBig
namespace Go.Proofs.Ytoaoonmeoeifgaa
open Go.ChangeShapes Go.WideShapes Go.ChangeAt Go.RowKit
set_option linter.unusedVariables false
namespace fnReached

set_option maxRecDepth 20000 in
set_option maxHeartbeats 4000000 in
theorem walk (w : World) (v : Value) (x : List Int) (h : BytesR (.old w) w v x) : Calls Try.prog 13 #[v] w (Ret w fun r _ => r = .bool true) := by
  have hcall := big_c w v _ x h
  have H := Lib.hid (fun (w' : World) (e : Ext w w') => stable_bytes.ext h e)
  clear h
  cases hb : decide (4096 < x.length) with
  | true =>
    rw [hb] at hcall
    clear hb
    go_enter Try.func13, Try.ntmps13
    go_wp2_with fail
    refine Calls.mono hcall ?_
    rintro e w1 hr
    obtain ⟨rfl, hd, e1⟩ := retq_ext hr
    clear hr hcall
    go_wp2_with fail
    go_ret
    exact ⟨_, rfl, rfl, e1⟩
  | false =>
    rw [hb] at hcall
    clear hb
    go_enter Try.func13, Try.ntmps13
    go_wp2_with fail
    refine Calls.mono hcall ?_
    rintro e w1 hr
    obtain ⟨rfl, hd, e1⟩ := retq_ext hr
    clear hr hcall hd
    have hcall := DrawShortRoute_c w1 v _ x (H.out w1 e1)
    go_wp2_with fail
    refine Calls.mono hcall ?_
    rintro e w2 hr
    obtain ⟨_, rfl, ⟨c, u, ds, f, t, v2, op, z1, z2, rfl, hc, hf, ht, hrows, hints, -, -⟩, b2⟩ := ret_ext hr
    clear hr hcall
    have e2 := e1.trans b2
    obtain ⟨a, n, cap, rfl, hn, -⟩ := SliceR.shape hrows
    obtain ⟨a2, n2, cap2, rfl, hn2, -⟩ := SliceR.shape hints
    clear hn hn2 b2 e1
    have e3 : Ext w2 (w2.alloc (.cells #[.int .i64 c, .slice a n cap] 40)) := Ext.alloc _ _
    obtain ⟨x0, x1, -, -⟩ := Box2.new w2 (.int .i64 c) (.slice a n cap) 40
    have E3 := e2.trans e3
    replace hrows := stable_rows.ext hrows e3
    replace hints := stable_ints.ext hints e3
    have HI := Lib.hid (fun (w' : World) (e : Ext (w2.alloc (.cells #[.int .i64 c, .slice a n cap] 40)) w') => stable_ints.ext hints e)
    have HX : Hid (∀ w', Ext (w2.alloc (.cells #[.int .i64 c, .slice a n cap] 40)) w' → w'.cell? ⟨w2.heap.size, 0, none⟩ = some (.int .i64 c) ∧ w'.cell? ⟨w2.heap.size, 1, none⟩ = some (.slice a n cap)) := fun w' e => ⟨e.cell x0, e.cell x1⟩
    have HQ : Hid (∀ w', Ext (w2.alloc (.cells #[.int .i64 c, .slice a n cap] 40)) w' → RoomsR z1 w' (.agg #[.int .i64 c, .slice a n cap]) (c, ds)) := fun w' e => ⟨_, rfl, hc, stable_rows.ext hrows e⟩
    clear hrows hints e3
    obtain ⟨S, cs, hS⟩ : ∃ L c', shortRoute (c, ds) f t op = (L, c') := ⟨_, _, rfl⟩
    have hcall := ShortRoute_c _ _ _ z1 z2 (c, ds) f t hf ht op (HQ.out _ (Ext.refl _)) (HI.out _ (Ext.refl _))
    rw [hS] at hcall
    go_wp2_with fail
    generalize w2.alloc (.cells #[.int .i64 c, .slice a n cap] 40) = w3 at *
    refine Calls.mono hcall ?_
    rintro e w4 hr
    obtain ⟨_, rfl, ⟨b1, rfl, r1⟩, b4⟩ := ret_ext hr
    clear hr hcall x0 x1
    simp only at r1
    obtain ⟨x0, x1⟩ := HX.out w4 b4
    have hcall := ShortRouteSpec_c w4 _ _ z1 z2 (c, ds) f t hf op (HQ.out _ b4) (HI.out _ b4)
    rw [hS] at hcall
    go_wp2_with fail
    refine Calls.mono hcall ?_
    rintro e w5 hr
    obtain ⟨_, rfl, ⟨b3, rfl, r3⟩, b5⟩ := ret_ext hr
    clear hr hcall x0 x1
    simp only at r3
    have e5 := b4.trans b5
    replace r1 := stable_ints.ext r1 b5
    clear b4 b5
    have hcall := DrawReachWith_c w5 v _ x (H.out w5 (E3.trans e5))
    go_wp2_with fail
    refine Calls.mono hcall ?_
    rintro e w6 hr
    obtain ⟨_, rfl, ⟨c', u', ds', f', v2', op', z3, z4, rfl, hc', hf', hrows, hints, -, -⟩, b6⟩ := ret_ext hr
    clear hr hcall H
    have e6 := e5.trans b6
    replace r1 := stable_ints.ext r1 b6
    replace r3 := stable_ints.ext r3 b6
    obtain ⟨a5, n5, k5, rfl, hn, -⟩ := SliceR.shape hrows
    obtain ⟨a6, n6, k6, rfl, hn2, -⟩ := SliceR.shape hints
    clear hn hn2 b6 e5
    have e7 : Ext w6 (w6.alloc (.cells #[.int .i64 c', .slice a5 n5 k5] 40)) := Ext.alloc _ _
    obtain ⟨y0, y1, -, -⟩ := Box2.new w6 (.int .i64 c') (.slice a5 n5 k5) 40
    have E7 := e6.trans e7
    have E6X := Lib.hid E7
    replace hrows := stable_rows.ext hrows e7
    replace hints := stable_ints.ext hints e7
    replace r1 := stable_ints.ext r1 e7
    replace r3 := stable_ints.ext r3 e7
    have HIy := Lib.hid (fun (w' : World) (e : Ext (w6.alloc (.cells #[.int .i64 c', .slice a5 n5 k5] 40)) w') => stable_ints.ext hints e)
    have HY : Hid (∀ w', Ext (w6.alloc (.cells #[.int .i64 c', .slice a5 n5 k5] 40)) w' → w'.cell? ⟨w6.heap.size, 0, none⟩ = some (.int .i64 c') ∧ w'.cell? ⟨w6.heap.size, 1, none⟩ = some (.slice a5 n5 k5)) := fun w' e => ⟨e.cell y0, e.cell y1⟩
    have HQy : Hid (∀ w', Ext (w6.alloc (.cells #[.int .i64 c', .slice a5 n5 k5] 40)) w' → RoomsR z3 w' (.agg #[.int .i64 c', .slice a5 n5 k5]) (c', ds')) := fun w' e => ⟨_, rfl, hc', stable_rows.ext hrows e⟩
    clear hrows hints e7
    obtain ⟨G, cg, hG⟩ : ∃ L c'', reachWith (c', ds') f' op' = (L, c'') := ⟨_, _, rfl⟩
    have hcall := ReachWith_c _ _ _ z3 z4 (c', ds') f' hf' op' (HQy.out _ (Ext.refl _)) (HIy.out _ (Ext.refl _))
    rw [hG] at hcall
    go_wp2_with fail
    generalize w6.alloc (.cells #[.int .i64 c', .slice a5 n5 k5] 40) = w7 at *
    refine Calls.mono hcall ?_
    rintro e w8 hr
    obtain ⟨_, rfl, ⟨d1, rfl, s1⟩, b8⟩ := ret_ext hr
    clear hr hcall y0 y1
    simp only at s1
    obtain ⟨y0, y1⟩ := HY.out w8 b8
    have hcall := ReachWithSpec_c w8 _ _ z3 z4 (c', ds') f' op' (HQy.out _ b8) (HIy.out _ b8)
    rw [hG] at hcall
    go_wp2_with fail
    refine Calls.mono hcall ?_
    rintro e w9 hr
    obtain ⟨_, rfl, ⟨d3, rfl, s3⟩, b9⟩ := ret_ext hr
    clear hr hcall y0 y1
    simp only at s3
    have e9 := b8.trans b9
    replace s1 := stable_ints.ext s1 b9
    replace r1 := stable_ints.ext r1 e9
    replace r3 := stable_ints.ext r3 e9
    obtain ⟨y0, y1⟩ := HY.out w9 e9
    have HK : Hid (∀ w', Ext w9 w' → w'.cell? ⟨w6.heap.size, 0, none⟩ = some (.int .i64 c') ∧ w'.cell? ⟨w6.heap.size, 1, none⟩ = some (.slice a5 n5 k5)) := fun w' e => HY.out _ (e9.trans e)
    have HL1 : Hid (∀ w', Ext w9 w' → Calls Try.prog 51 #[b1, b3] w' (RetQ w' (.bool true))) := fun w' e => by
      have := likeInts_c w' _ _ _ _ S S (stable_ints.ext r1 e) (stable_ints.ext r3 e)
      rwa [show decide (S = S) = true by simp] at this
    have HL2 : Hid (∀ w', Ext w9 w' → Calls Try.prog 51 #[d1, d3] w' (RetQ w' (.bool true))) := fun w' e => by
      have := likeInts_c w' _ _ _ _ G G (stable_ints.ext s1 e) (stable_ints.ext s3 e)
      rwa [show decide (G = G) = true by simp] at this
    obtain ⟨ok, hok⟩ : ∃ ok, roomsOk c' ds' = ok := ⟨_, rfl⟩
    have HJ1 : Hid (∀ w', Ext w9 w' → Calls Try.prog 52 #[.agg #[.int .i64 c', .slice a5 n5 k5]] w' (Ret w' fun r _ => r = .bool ok)) := fun w' e => by
      have := IsRooms_c w' _ z3 (c', ds') (HQy.out _ (e9.trans e))
      simp only at this
      rwa [hok] at this
    have HJ2 : Hid (∀ w', Ext w9 w' → Calls Try.prog 53 #[.agg #[.int .i64 c', .slice a5 n5 k5]] w' (Ret w' fun r _ => r = .bool ok)) := fun w' e => by
      have := IsRoomsSpec_c w' _ z3 (c', ds') (HQy.out _ (e9.trans e))
      simp only at this
      rwa [hok] at this
    have hr9 : Ext w9 w9 := Ext.refl _
    clear hG hok
    go_wp2_with fail
    go_region_held3 (fun w' => w'.cell? ⟨w6.heap.size, 0, none⟩ = some (.int .i64 c') ∧ w'.cell? ⟨w6.heap.size, 1, none⟩ = some (.slice a5 n5 k5)) (exact HK.out _ (by repeat (first | exact Ext.refl _ | assumption | (refine Ext.trans ?_ (Ext.alloc _ _)) | (refine Ext.trans ?_ (Ext.drew _)) | (refine Ext.trans ?_ (by assumption))))) (first | (go_at_call 51; (with_reducible refine Calls.mono (HL1.out _ ?_) ?_); exact (by repeat (first | exact Ext.refl _ | assumption | (refine Ext.trans ?_ (Ext.alloc _ _)) | (refine Ext.trans ?_ (Ext.drew _)) | (refine Ext.trans ?_ (by assumption)))); rintro e wA ⟨rfl, hdA⟩; have hA := Ext.ofDrew hdA) | (go_at_call 51; (with_reducible refine Calls.mono (HL2.out _ ?_) ?_); exact (by repeat (first | exact Ext.refl _ | assumption | (refine Ext.trans ?_ (Ext.alloc _ _)) | (refine Ext.trans ?_ (Ext.drew _)) | (refine Ext.trans ?_ (by assumption)))); rintro e wB ⟨rfl, hdB⟩; have hB := Ext.ofDrew hdB) | (go_at_call 52; (with_reducible refine Calls.mono (HJ1.out _ ?_) ?_); exact (by repeat (first | exact Ext.refl _ | assumption | (refine Ext.trans ?_ (Ext.alloc _ _)) | (refine Ext.trans ?_ (Ext.drew _)) | (refine Ext.trans ?_ (by assumption)))); rintro e wC ⟨_, rfl, rfl, hC⟩) | (go_at_call 53; (with_reducible refine Calls.mono (HJ2.out _ ?_) ?_); exact (by repeat (first | exact Ext.refl _ | assumption | (refine Ext.trans ?_ (Ext.alloc _ _)) | (refine Ext.trans ?_ (Ext.drew _)) | (refine Ext.trans ?_ (by assumption)))); rintro e wD ⟨_, rfl, rfl, hD⟩))
    have e10 : Ext w3 wD := ((E6X.out.trans e9).trans (((((Ext.drew w9).trans hA).trans hB).trans (Ext.of hC)).trans (Ext.of hD)))
    have eE : Ext w wD := E3.trans e10
    replace r1 := stable_ints.ext r1 (((((Ext.drew w9).trans hA).trans hB).trans (Ext.of hC)).trans (Ext.of hD))
    obtain ⟨x0, x1⟩ := HX.out wD e10
    obtain ⟨sb, nb, cb, rfl, hnb, -⟩ := IntsR.shape r1
    have HNB := Lib.hid hnb
    have EE := Lib.hid eE
    clear hnb eE r3 s1 s3 HL1 HL2 HJ1 HJ2 HK HY HQy HIy hA hB hC hD e9 b8 b9 y0 y1 E7 e6 E3 e2
    by_cases hcs : cs = 0 ∨ cs = 4
    · have hT := short_reached (x := (c, ds)) (f := f) (t := t) (op := op) (by rw [hS]; exact hcs)
      rw [hS] at hT
      simp only at hT
      obtain ⟨t1, t2⟩ := hT
      obtain ⟨R, cr, hRw⟩ : ∃ L c'', reachWith (c, ds) f op = (L, c'') := ⟨_, _, rfl⟩
      rw [hRw] at t1 t2
      simp only at t1 t2
      subst t1
      have hcall := ReachWith_c wD _ _ z1 z2 (c, ds) f hf op (HQ.out _ e10) (HI.out _ e10)
      rw [hRw] at hcall
      have T2 := Lib.hid t2
      clear t2 hRw
      have hne : (decide (¬cs = 0) && decide (¬cs = 4)) = false := by rcases hcs with rfl | rfl <;> rfl
      rcases hcs with rfl | rfl
      · have hB := short_best (x := (c, ds)) (f := f) (t := t) (op := op) (by rw [hS])
        obtain ⟨LL, cl, hLL⟩ : ∃ L c'', routesRes (c, ds) f t op 60 = (L, c'') := ⟨_, _, rfl⟩
        rw [hS, hLL] at hB
        simp only at hB
        obtain ⟨p1, p2, p3⟩ := hB
        subst p1
        have P3 := Lib.hid p3
        have P2 := Lib.hid p2
        clear p2 p3
        go_wp2_with fail
        refine Calls.mono hcall ?_
        rintro e w11 hr
        obtain ⟨_, rfl, ⟨g1, rfl, q1⟩, b11⟩ := ret_ext hr
        clear hr hcall x0 x1
        simp only at q1
        have hcall := hasInt_c w11 _ _ R t q1 ht
        rw [T2.out] at hcall
        go_wp2_with fail
        refine Calls.mono hcall ?_
        rintro e w12 hr
        obtain ⟨rfl, -, b12⟩ := retq_ext hr
        clear hr hcall q1
        have e12 := (e10.trans b11).trans b12
        obtain ⟨x0, x1⟩ := HX.out w12 e12
        have hcall := RoutesTo_c w12 _ _ z1 z2 (c, ds) f t 60 hf ht op (HQ.out _ e12) (HI.out _ e12)
        rw [hLL] at hcall
        go_wp2_with fail
        refine Calls.mono hcall ?_
        rintro e w13 hr
        obtain ⟨_, rfl, ⟨g2, rfl, q2⟩, b13⟩ := ret_ext hr
        clear hr hcall x0 x1
        simp only at q2
        have e13 := e12.trans b13
        obtain ⟨x0, x1⟩ := HX.out w13 e13
        have hcall := RoutesToSpec_c w13 _ _ z1 z2 (c, ds) f t 60 hf ht op (HQ.out _ e13) (HI.out _ e13)
        rw [hLL] at hcall
        go_wp2_with fail
        refine Calls.mono hcall ?_
        rintro e w14 hr
        obtain ⟨_, rfl, ⟨g3, rfl, q3⟩, b14⟩ := ret_ext hr
        clear hr hcall x0 x1
        simp only at q3
        replace q2 := stable_rows.ext q2 b14
        have hcall := likeRows_c w14 _ _ _ _ LL LL q2 q3
        rw [show decide (LL = LL) = true by simp] at hcall
        go_wp2_with fail
        refine Calls.mono hcall ?_
        rintro e w15 hr
        obtain ⟨rfl, -, b15⟩ := retq_ext hr
        clear hr hcall q3
        replace q2 := stable_rows.ext q2 b15
        have EF := Lib.hid ((EE.out.trans (b11.trans b12)).trans ((b13.trans b14).trans b15))
        obtain ⟨s3, n3, k3, rfl, hn3, hm3, hel3⟩ := SliceR.elem stable_ints q2
        have HN3 := Lib.hid hn3
        have HEL3 := Lib.hid hel3
        clear q2 hn3 hel3 b11 b12 b13 b14 b15 e12 e13 EE HX HQ HI T2 hne
        go_wp2_with fail
        go_loopw [24] (fun s24 wr => ∃ i : Nat, i ≤ n3 ∧ s24 = .int .i64 i ∧ Drew w15 wr) (fun s24 _ => n3 - (intOf s24).toNat)
        case atStart => exact ⟨0, Nat.zero_le _, rfl, Drew.refl _⟩
        case round =>
          obtain ⟨i, hi, rfl, hd⟩ := hrel
          by_cases hin : i < n3
          · have hil : i < LL.length := by rw [← HN3.out]; exact hin
            obtain ⟨b3, o3, rfl, -, u3, hc3, hu3⟩ := HEL3.out i hil
            have hlen := P3.out LL[i] (List.getElem_mem hil)
            obtain ⟨a4, n4, c4, rfl, hn4, hm4, -⟩ := IntsR.shape hu3
            replace hc3 := (hd.cell _).trans hc3
            have hnn : nb ≤ n4 := by rw [HNB.out, hn4]; exact hlen
            clear hu3 hn4 hlen
            go_wp2_with fail
            exact ⟨⟨i + 1, by omega, by go_num, hd⟩, by simp [intOf]; omega⟩
          · have hpos : 0 < n3 := by rw [HN3.out]; exact P2.out
            go_wp2_with fail
            go_ret
            exact ⟨_, rfl, rfl, EF.out.trans (Ext.ofDrew hd)⟩
      · go_wp2_with fail
        refine Calls.mono hcall ?_
        rintro e w11 hr
        obtain ⟨_, rfl, ⟨g1, rfl, q1⟩, b11⟩ := ret_ext hr
        clear hr hcall
        simp only at q1
        have hcall := hasInt_c w11 _ _ R t q1 ht
        rw [T2.out] at hcall
        go_wp2_with fail
        refine Calls.mono hcall ?_
        rintro e w12 hr
        obtain ⟨rfl, -, b12⟩ := retq_ext hr
        clear hr hcall
        go_wp2_with fail
        go_ret
        exact ⟨_, rfl, rfl, EE.out.trans (b11.trans b12)⟩
    · have h0 : (cs != 0) = true := by simp; omega
      have h4 : (cs != 4) = true := by simp; omega
      go_wp2_with fail
      go_ret
      exact ⟨_, rfl, rfl, EE.out⟩


/-! ### the row -/
theorem own : ownKnob Try.prog.godebug = none := by kernel_rfl
theorem laidOut : laidOutB Try.prog = true := by kernel_rfl
set_option maxRecDepth 100000 in
theorem lifted (os : Os) (started : os.Started) (H : Type) (enc : TypeId × Value → H) :
    ReturnsInHanded {} Try.checked os 13 .any (Rows.fnReachedSpec.pre6 enc Try.prog Try.f13 Rows.fnReachedRow.domain false) (Rows.fnReachedSpec.post enc Try.prog Try.f13 false true false false) := by
  refine returnsInHanded_of_change (C := Try.checked) own started (by kernel_rfl) Try.func13
    (ChangeSpec.witness6 (enc := enc) (C := Try.checked) false ⟨#[], #[.slice none 0 0], []⟩ 8 (by kernel_rfl) (by kernel_rfl) (by kernel_rfl) (by kernel_rfl)) ?_
  intro W base args ds gs before hval0 hW hcnd _
  have hval : ∀ (j : Nat) t v, Try.f13.params[j]? = some t → args[j]? = some v → Value.okWide Try.prog W .any base t v := hval0
  have hW' := hW
  obtain ⟨p, q, hA0, hV, rfl, hfz, hnd⟩ := hW
  have hA : DataW.TrodAll enc Try.prog W 0 (fun _ => true) true Try.f13.params.toList args.toList ds p := hA0
  rw [Try.params13] at hA hval
  obtain ⟨v0, vs0, d0, ds0, p0, q0, hargs, rfl, rfl, h0, r0⟩ := trodAll_cons hA
  obtain ⟨rfl, rfl, rfl⟩ := trodAll_nil r0
  obtain rfl : args = #[v0] := by cases args; simp_all
  obtain ⟨rfl, rfl⟩ := trodVars_none hV
  have k0 := h0
  have lt0 : ∀ x ∈ p0, x.block < W.heap.size := by obtain ⟨m, hm⟩ := k0; exact DataW.trod_lt m _ _ _ hm
  obtain ⟨a0, len0, cap0, rfl⟩ := okWide_slice Try.underlying57 (hval 0 57 v0 rfl rfl)
  obtain ⟨x0, w0⟩ : ∃ xs, BytesR (.old W) W (.slice a0 len0 cap0) xs := by obtain ⟨fuel, hf⟩ := h0; exact open_BytesR Try.underlying57 Try.underlying5 (by kernel_rfl) hf
  clear hA0 hval0
  refine (walk W _ x0 w0).mono fun e W' hret => ?_
  obtain ⟨r, rfl, rfl, bel⟩ := hret
  exact ⟨_, rfl, _, _, _, [], _, [], hW', trodAll_mk1 (shut_bool Try.underlying4 _), (trodAll_cons_mk (Below.trod laidOut (by kernel_rfl) (of_decide_eq_true (by kernel_rfl)) k0 bel lt0) trodAll_mk0), rfl, bel.frame _, fun h => by cases h⟩

theorem over : Rows.fnReachedRow.holds Try.pinned (OpenSpec.ofChange Rows.fnReachedSpec) :=
  OpenClaim.holds_of_wide 13 Try.f13 rfl rfl rfl rfl rfl rfl rfl ⟨rfl, rfl, rfl, rfl, rfl⟩ rfl rfl rfl rfl rfl (by kernel_rfl) Try.func13 (by kernel_rfl)
    (of_decide_eq_true (by kernel_rfl)) (by unfold Func.isWrapper; first | (rw [if_pos (by decide +kernel)]; kernel_rfl) | (rw [if_neg (by decide +kernel)]; exact ⟨rfl, rfl⟩))
    (fun os started H enc _ => lifted os started H enc)

theorem proved : Rows.FnReachedSaid := over

end fnReached
end Go.Proofs.Ytoaoonmeoeifgaa
