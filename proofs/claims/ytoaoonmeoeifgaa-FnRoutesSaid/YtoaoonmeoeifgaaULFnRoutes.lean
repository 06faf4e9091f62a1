/- Proved: for every code, laws.FnRoutes returns true and changes nothing that was there; no condition. -/
import Derived.Test.YtoaoonmeoeifgaaRows
import Derived.Test.YtoaoonmeoeifgaaUOpen
import Derived.Test.YtoaoonmeoeifgaaUDrawRoutes
import Derived.Test.YtoaoonmeoeifgaaURouteLaws
import Derived.Test.YtoaoonmeoeifgaaULikeLists
import Derived.Test.YtoaoonmeoeifgaaUBig
namespace Go.Proofs.Ytoaoonmeoeifgaa
open Go.ChangeShapes Go.WideShapes Go.ChangeAt Go.RowKit
set_option linter.unusedVariables false
namespace fnRoutes

set_option maxRecDepth 20000 in
set_option maxHeartbeats 4000000 in
theorem walk (w : World) (v : Value) (x : List Int) (h : BytesR (.old w) w v x) : Calls Try.prog 12 #[v] w (Ret w fun r _ => r = .bool true) := by
  have hcall := big_c w v _ x h
  have H := Lib.hid (fun (w' : World) (e : Ext w w') => stable_bytes.ext h e)
  clear h
  cases hb : decide (4096 < x.length) with
  | true =>
    rw [hb] at hcall
    clear hb
    go_enter Try.func12, Try.ntmps12
    go_wp2_with fail
    refine Calls.mono hcall ?_
    rintro e w1 hr
    obtain ⟨rfl, hd, e1⟩ := retq_ext hr
    clear hr hcall
    go_wp2_with fail
    go_ret
    exact ⟨_, rfl, rfl, e1⟩
  | false =>
    rw [hb] at hcall
    clear hb
    go_enter Try.func12, Try.ntmps12
    go_wp2_with fail
    refine Calls.mono hcall ?_
    rintro e w1 hr
    obtain ⟨rfl, hd, e1⟩ := retq_ext hr
    clear hr hcall hd
    have hcall := DrawRoutesTo_c w1 v _ x (H.out w1 e1)
    go_wp2_with fail
    refine Calls.mono hcall ?_
    rintro e w2 hr
    obtain ⟨_, rfl, ⟨c, u, ds, f, t, v2, op, most, z1, z2, rfl, hc, hf, ht, hm, hrows, hints, -, -⟩, b2⟩ := ret_ext hr
    clear hr hcall H
    have e2 := e1.trans b2
    obtain ⟨a, n, cap, rfl, hn, -⟩ := SliceR.shape hrows
    obtain ⟨a2, n2, cap2, rfl, hn2, -⟩ := SliceR.shape hints
    clear hn hn2 b2 e1
    have e3 : Ext w2 (w2.alloc (.cells #[.int .i64 c, .slice a n cap] 40)) := Ext.alloc _ _
    obtain ⟨x0, x1, -, -⟩ := Box2.new w2 (.int .i64 c) (.slice a n cap) 40
    have E3 := e2.trans e3
    replace hrows := stable_rows.ext hrows e3
    replace hints := stable_ints.ext hints e3
    have hsz : w2.heap.size < (w2.alloc (.cells #[.int .i64 c, .slice a n cap] 40)).heap.size := by simp
    have HR := Lib.hid (fun (w' : World) (e : Ext (w2.alloc (.cells #[.int .i64 c, .slice a n cap] 40)) w') => stable_rows.ext hrows e)
    have HI := Lib.hid (fun (w' : World) (e : Ext (w2.alloc (.cells #[.int .i64 c, .slice a n cap] 40)) w') => stable_ints.ext hints e)
    have HX : Hid (∀ w', Ext (w2.alloc (.cells #[.int .i64 c, .slice a n cap] 40)) w' → w'.cell? ⟨w2.heap.size, 0, none⟩ = some (.int .i64 c) ∧ w'.cell? ⟨w2.heap.size, 1, none⟩ = some (.slice a n cap)) := fun w' e => ⟨e.cell x0, e.cell x1⟩
    have HQ : Hid (∀ w', Ext (w2.alloc (.cells #[.int .i64 c, .slice a n cap] 40)) w' → RoomsR z1 w' (.agg #[.int .i64 c, .slice a n cap]) (c, ds)) := fun w' e => ⟨_, rfl, hc, HR.out w' e⟩
    clear hrows hints e3
    obtain ⟨LL, cd, hL⟩ : ∃ L c', routesRes (c, ds) f t op most = (L, c') := ⟨_, _, rfl⟩
    obtain ⟨nn, cc, hC⟩ : ∃ L c', countRoutes (c, ds) f t op = (L, c') := ⟨_, _, rfl⟩
    have hcall := RoutesTo_c _ _ _ z1 z2 (c, ds) f t most hf ht op (HQ.out _ (Ext.refl _)) (HI.out _ (Ext.refl _))
    rw [hL] at hcall
    go_wp2_with fail
    generalize w2.alloc (.cells #[.int .i64 c, .slice a n cap] 40) = w3 at *
    refine Calls.mono hcall ?_
    rintro e w4 hr
    obtain ⟨_, rfl, ⟨a1, rfl, r1⟩, b4⟩ := ret_ext hr
    clear hr hcall x0 x1
    simp only at r1
    obtain ⟨x0, x1⟩ := HX.out w4 b4
    have hcall := RoutesToSpec_c w4 _ _ z1 z2 (c, ds) f t most hf ht op (HQ.out _ b4) (HI.out _ b4)
    rw [hL] at hcall
    go_wp2_with fail
    refine Calls.mono hcall ?_
    rintro e w5 hr
    obtain ⟨_, rfl, ⟨a3, rfl, r3⟩, b5⟩ := ret_ext hr
    clear hr hcall x0 x1
    simp only at r3
    have e5 := b4.trans b5
    replace r1 := stable_rows.ext r1 b5
    obtain ⟨x0, x1⟩ := HX.out w5 e5
    have hcall := CountRoutes_c w5 _ _ z1 z2 (c, ds) f t hf ht op (HQ.out _ e5) (HI.out _ e5)
    rw [hC] at hcall
    go_wp2_with fail
    refine Calls.mono hcall ?_
    rintro e w6 hr
    obtain ⟨_, rfl, rfl, b6⟩ := ret_ext hr
    clear hr hcall x0 x1
    unfold IntCode
    have e6 := e5.trans b6
    obtain ⟨x0, x1⟩ := HX.out w6 e6
    have hcall := CountRoutesSpec_c w6 _ _ z1 z2 (c, ds) f t hf op (HQ.out _ e6) (HI.out _ e6)
    rw [hC] at hcall
    go_wp2_with fail
    refine Calls.mono hcall ?_
    rintro e w7 hr
    obtain ⟨_, rfl, rfl, b7⟩ := ret_ext hr
    clear hr hcall x0 x1
    unfold IntCode
    have e7 := e6.trans b7
    replace r1 := stable_rows.ext (stable_rows.ext r1 b6) b7
    replace r3 := stable_rows.ext (stable_rows.ext r3 b6) b7
    have hcall := likeLists_c w7 _ _ _ _ LL LL r1 r3
    rw [show decide (LL = LL) = true by simp] at hcall
    clear b4 b5 b6 b7 e5 e6
    go_wp2_with fail
    refine Calls.mono hcall ?_
    rintro e w8 hr
    obtain ⟨rfl, -, b8⟩ := retq_ext hr
    clear hr hcall
    have e8 := e7.trans b8
    replace r1 := stable_rows.ext r1 b8
    replace r3 := stable_rows.ext r3 b8
    obtain ⟨x0, x1⟩ := HX.out w8 e8
    have hR8 := HR.out w8 e8
    have E8 := Lib.hid (E3.trans e8)
    clear b8 e7 HQ HI HX HR E3 e2
    by_cases hcd : cd = 0
    · subst hcd
      have hT := routes_told (x := (c, ds)) (f := f) (t := t) (op := op) (most := most) (by rw [hL])
      rw [hL, hC] at hT
      simp only at hT
      obtain ⟨t1, t2, t3, t4, t5⟩ := hT
      have T1 := Lib.hid t1
      have T3 := Lib.hid t3
      have T5 := Lib.hid t5
      clear t1 t2 t3 t5 hL hC
      obtain ⟨s1, n1, k1, rfl, hn1, -⟩ := SliceR.shape r1
      obtain ⟨s3, n3, k3, rfl, hn3, hm3, hel3⟩ := SliceR.elem stable_ints r3
      obtain ⟨s0, n0, k0, he0, hn0, -, hel0⟩ := SliceR.elem stable_ints hR8
      injection he0 with he1 he2 he3
      subst he1; subst he2; subst he3
      have h13 : n3 = n1 := by omega
      subst h13
      have HN1 := Lib.hid hn1
      have HN0 := Lib.hid hn0
      have HEL3 := Lib.hid hel3
      have HEL0 := Lib.hid hel0
      have hc8 : 2 ≤ c ∧ c ≤ 8 := (roomsOk_sides T3.out).1
      clear r1 r3 hR8 hn1 hn3 hn0 hel3 hel0
      go_wp2_with fail
      go_loopw [16, 17, 18, 19] (fun s16 _ _ _ wr => ∃ i : Nat, i ≤ n3 ∧ s16 = .int .i64 i ∧ Drew w8 wr) (fun s16 _ _ _ _ => n3 - (intOf s16).toNat)
      case atStart => exact ⟨0, Nat.zero_le _, rfl, Drew.refl _⟩
      case round =>
        obtain ⟨i, hi, rfl, hd⟩ := hrel
        by_cases hin : i < n3
        · have hil : i < LL.length := by rw [← HN1.out]; exact hin
          obtain ⟨b3, o3, rfl, -, u3, hc3, hu3⟩ := HEL3.out i hil
          obtain ⟨h1, h2⟩ := T1.out LL[i] (List.getElem_mem hil)
          generalize LL[i] = r at hu3 h1 h2
          obtain ⟨a4, n4, c4, rfl, hn4, hm4, -, -, -, hel4⟩ := IntsR.shape hu3
          replace hc3 := (hd.cell _).trans hc3
          have HEL4 := Lib.hid hel4
          have HN4 := Lib.hid hn4
          have H2 := Lib.hid h2
          have HC3 := Lib.hid hc3
          clear hu3 hel4 hn4 h2
          go_wp2_with fail
          obtain ⟨wo, rfl⟩ : ∃ wo, wo = wr := ⟨_, rfl⟩
          go_loopw [17, 18, 19] (fun s17 s18 _ wx => ∃ (k : Nat) (at' : Int), k ≤ n4 ∧ s17 = .int .i64 at' ∧ s18 = .int .i64 k ∧ (0 ≤ at' ∧ at' < c) ∧ Leads ds t at' (r.drop k) ∧ Drew w8 wx) (fun _ s18 _ _ => n4 - (intOf s18).toNat)
          case atStart => exact ⟨0, f, Nat.zero_le _, rfl, rfl, t4, by simpa using h1, hd⟩
          case round =>
            obtain ⟨k, p, hk, rfl, rfl, hp, hlead, hdx⟩ := hrel
            have x1' := (hdx.cell _).trans x1
            have hc3' : wr.cell? ⟨b3, o3 + i, none⟩ = some (.slice a4 n4 c4) := (hdx.cell _).trans ((hd.cell _).symm.trans HC3.out)
            by_cases hkn : k < n4
            · have hkl : k < r.length := by rw [← HN4.out]; exact hkn
              obtain ⟨b4, o4, rfl, hc4, -, -⟩ := HEL4.out k hkn
              replace hc4 := (hdx.cell _).trans hc4
              rw [List.drop_eq_getElem_cons hkl] at hlead
              have hrk : r.getD k 0 = r[k] := by simp [hkl]
              obtain ⟨g0, g1⟩ := H2.out r[k] (List.getElem_mem hkl)
              rw [hrk] at hc4
              clear hrk
              generalize r[k] = d at hlead g0 g1 hc4
              obtain ⟨m, rfl⟩ : ∃ m : Nat, d = m := ⟨d.toNat, by omega⟩
              obtain ⟨q1, q2, q3, q4, q5⟩ := leads_step T3.out hlead g0 g1 hp
              obtain ⟨A, B, -, hAB, hBc, eA, eB, -, -⟩ := door_sides T3.out g0 g1
              rw [eA, eB] at q1 q3
              rw [Int.toNat_natCast] at eA eB q2
              have hml : m < ds.length := by omega
              obtain ⟨bd, od, rfl, -, ud, hcd', hud⟩ := HEL0.out m hml
              rw [show ds.getD m [] = ds[m] by simp [hml]] at eA eB q2
              obtain ⟨a6, n6, c6, rfl, hn6, -, -, -, -, hel6⟩ := IntsR.shape hud
              replace hcd' := (hdx.cell _).trans hcd'
              have hn62 : n6 = 2 := by omega
              subst hn62
              obtain ⟨b6, o6, rfl, hc6, -, -⟩ := hel6 0 (by omega)
              obtain ⟨b6', o6', he6, hc7, -, -⟩ := hel6 1 (by omega)
              injection he6 with he6
              injection he6 with e1 e2 _
              subst e1; subst e2
              rw [eA] at hc6
              rw [eB] at hc7
              rw [Nat.add_zero] at hc6
              replace hc6 := (hdx.cell _).trans hc6
              replace hc7 := (hdx.cell _).trans hc7
              have hmn : m < n := by rw [HN0.out]; exact hml
              have Q3 := Lib.hid q3
              have Q5 := Lib.hid q5
              have Q4 := Lib.hid q4
              clear q2 q3 q4 q5 hlead hud hel6 eA eB hn6 HEL3 HEL4 HEL0 hc3 g0 g1
              have hA0 : (0 : Int) ≤ A := by omega
              have HEnd : Hid ((0 ≤ (A : Int) + B - p ∧ (A : Int) + B - p < c) ∧ Leads ds t ((A : Int) + B - p) (r.drop (k + 1))) := by
                have h3 := Q3.out; have h4 := Q4.out; have h5 := Q5.out
                rw [h3] at h4 h5
                exact ⟨h4, h5⟩
              have hrng := HEnd.out.1
              have HD := Lib.hid hdx
              by_cases hpa : p = A
              · have hb1 : ((A : Int) != p) = false := by simp [hpa]
                go_wp2_with fail
                go_quiet (fail)
                go_wp2_with fail
                go_quiet (fail)
                go_wp2_with fail
                exact ⟨⟨k + 1, _, by omega, rfl, by go_num, by omega, by have h := HEnd.out.2; rw [hpa] at h; exact h, HD.out.drewN _⟩, by simp [intOf]; omega⟩
              · have hpb : p = B := by omega
                have hb1 : ((A : Int) != p) = true := by simp; omega
                have hb2 : ((B : Int) != p) = false := by simp [hpb]
                go_wp2_with fail
                go_quiet (fail)
                go_wp2_with fail
                go_quiet (fail)
                go_wp2_with fail
                exact ⟨⟨k + 1, _, by omega, rfl, by go_num, by omega, by have h := HEnd.out.2; rw [show (A : Int) + B - p = A by omega] at h; exact h, HD.out.drewN _⟩, by simp [intOf]; omega⟩
            · have hpt : p = t := by
                rw [List.drop_eq_nil_of_le (by have := HN4.out; omega)] at hlead
                exact hlead
              subst hpt
              go_wp2_with fail
              exact ⟨⟨i + 1, by omega, by go_num, hdx⟩, by simp [intOf]; omega⟩
        · rcases T5.out with ⟨h5, h6⟩ | ⟨h5, h6⟩
          · obtain rfl : most = n3 := by have := HN1.out; omega
            subst h5
            go_wp2_with fail
            go_ret
            exact ⟨_, rfl, rfl, E8.out.trans (Ext.ofDrew hd)⟩
          · subst h5
            rcases Int.le_total most nn with hle | hle
            · obtain rfl : most = n3 := by have := HN1.out; omega
              go_wp2_with fail
              all_goals go_ret
              all_goals exact ⟨_, rfl, rfl, E8.out.trans (Ext.ofDrew hd)⟩
            · obtain rfl : nn = n3 := by have := HN1.out; omega
              go_wp2_with fail
              all_goals go_ret
              all_goals exact ⟨.bool true, ret_bool (by first | rfl | (rw [beq_iff_eq]; omega)), rfl, E8.out.trans (Ext.ofDrew hd)⟩
    · have hcb : (cd != 0) = true := by simpa using hcd
      clear hL hC r1 r3 hR8
      go_wp2_with fail
      go_ret
      exact ⟨_, rfl, rfl, E8.out⟩

/-! ### the row -/
theorem own : ownKnob Try.prog.godebug = none := by kernel_rfl
theorem laidOut : laidOutB Try.prog = true := by kernel_rfl
set_option maxRecDepth 100000 in
theorem lifted (os : Os) (started : os.Started) (H : Type) (enc : TypeId × Value → H) :
    ReturnsInHanded {} Try.checked os 12 .any (Rows.fnRoutesSpec.pre6 enc Try.prog Try.f12 Rows.fnRoutesRow.domain false) (Rows.fnRoutesSpec.post enc Try.prog Try.f12 false true false false) := by
  refine returnsInHanded_of_change (C := Try.checked) own started (by kernel_rfl) Try.func12
    (ChangeSpec.witness6 (enc := enc) (C := Try.checked) false ⟨#[], #[.slice none 0 0], []⟩ 8 (by kernel_rfl) (by kernel_rfl) (by kernel_rfl) (by kernel_rfl)) ?_
  intro W base args ds gs before hval0 hW hcnd _
  have hval : ∀ (j : Nat) t v, Try.f12.params[j]? = some t → args[j]? = some v → Value.okWide Try.prog W .any base t v := hval0
  have hW' := hW
  obtain ⟨p, q, hA0, hV, rfl, hfz, hnd⟩ := hW
  have hA : DataW.TrodAll enc Try.prog W 0 (fun _ => true) true Try.f12.params.toList args.toList ds p := hA0
  rw [Try.params12] at hA hval
  obtain ⟨v0, vs0, d0, ds0, p0, q0, hargs, rfl, rfl, h0, r0⟩ := trodAll_cons hA
  obtain ⟨rfl, rfl, rfl⟩ := trodAll_nil r0
  obtain rfl : args = #[v0] := by cases args; simp_all
  obtain ⟨rfl, rfl⟩ := trodVars_none hV
  have k0 := h0
  have lt0 : ∀ x ∈ p0, x.block < W.heap.size := by obtain ⟨m, hm⟩ := k0; exact DataW.trod_lt m _ _ _ hm
  obtain ⟨a0, len0, cap0, rfl⟩ := okWide_slice Try.underlying57 (hval 0 57 v0 rfl rfl)
  obtain ⟨x0, w0⟩ : ∃ xs, BytesR (.old W) W (.slice a0 len0 cap0) xs := by obtain ⟨fuel, hf⟩ := h0; exact open_BytesR Try.underlying57 Try.underlying5 (by kernel_rfl) hf
  clear hA0 hval0
  refine (walk W _ x0 w0).mono fun e W' hret => ?_
  obtain ⟨r, rfl, rfl, bel⟩ := hret
  exact ⟨_, rfl, _, _, _, [], _, [], hW', trodAll_mk1 (shut_bool Try.underlying4 _), (trodAll_cons_mk (Below.trod laidOut (by kernel_rfl) (of_decide_eq_true (by kernel_rfl)) k0 bel lt0) trodAll_mk0), rfl, bel.frame _, fun h => by cases h⟩

theorem over : Rows.fnRoutesRow.holds Try.pinned (OpenSpec.ofChange Rows.fnRoutesSpec) :=
  OpenClaim.holds_of_wide 12 Try.f12 rfl rfl rfl rfl rfl rfl rfl ⟨rfl, rfl, rfl, rfl, rfl⟩ rfl rfl rfl rfl rfl (by kernel_rfl) Try.func12 (by kernel_rfl)
    (of_decide_eq_true (by kernel_rfl)) (by unfold Func.isWrapper; first | (rw [if_pos (by decide +kernel)]; kernel_rfl) | (rw [if_neg (by decide +kernel)]; exact ⟨rfl, rfl⟩))
    (fun os started H enc _ => lifted os started H enc)

theorem proved : Rows.FnRoutesSaid := over

end fnRoutes
end Go.Proofs.Ytoaoonmeoeifgaa
