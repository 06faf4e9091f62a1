/- Proved: DropDoor of the program. -/
import Derived.Test.YthgmojggpjnckaaGreatChecked
import Derived.Deep.RegionHeld3
import Derived.Test.YthgmojggpjnckaaGreatUDropLaw
import Derived.Test.YthgmojggpjnckaaGreatUPkE
namespace Go.Proofs.YthgmojggpjnckaaGreat
open Go.ChangeShapes Go.WideShapes Go.ChangeAt Go.RowKit
set_option linter.unusedVariables false

theorem Within.drew1 (z : Zone) (w : World) : Within z w w.drew := ⟨rfl, rfl, rfl, rfl, fun _ _ => rfl⟩
theorem Within.ofDrew {z : Zone} {w w' : World} (h : Drew w w') : Within z w w' := by obtain ⟨n, rfl⟩ := h; exact (Within.refl _ _).drewN n
theorem Within.cellE {z : Zone} {w w' : World} (h : Within z w w') {p : Addr} {u : Value} (hp : ¬ z.Has p.block) (hc : w.cell? p = some u) : w'.cell? p = some u := (World.cell?_of_block (h.block _ hp)).trans hc

set_option maxRecDepth 20000 in
set_option maxHeartbeats 2000000 in
theorem DropDoor_c (w : World) (mk : MK) (v : Value) (z : Zone) (t : List (List Int)) (h : RowsR z w v t) (u : Value) (y : Zone) (cuts : List (List Int)) (hc : RowsR y w u cuts) (d : Int) (hd : I64 d) :
    Calls Tryz.prog 25 #[sysV mk v, u, .int .i64 d] w (Ret w (SysRes w (dropDoor mk t cuts d))) := by
  have H1 : Hid (designCode mk t cuts ≠ 0 → dropDoor mk t cuts d = ((noSys, []), designCode mk t cuts)) := dropDoor_bad
  have H2 : Hid (designCode mk t cuts = 0 → inB d 0 ((doorsOf t : Int) - 1) = false → dropDoor mk t cuts d = ((noSys, []), 2)) := dropDoor_range
  have H3 : Hid (designCode mk t cuts = 0 → inB d 0 ((doorsOf t : Int) - 1) = true → doorsOf t = 1 → dropDoor mk t cuts d = ((noSys, []), 5)) := dropDoor_one
  have H4 : Hid (designCode mk t cuts = 0 → inB d 0 ((doorsOf t : Int) - 1) = true → doorsOf t ≠ 1 → dropDoor mk t cuts d = ((mk, mapI (fun _ r => delAt d.toNat r) t t.length), 0)) := dropDoor_ok
  have HOK : Hid (designCode mk t cuts = 0 → DesignOk mk t cuts) := designCode_zero
  have HC1 := Lib.hid (fun (w' : World) (e : Ext w w') => designCode_c w' mk v z t (stable_rows.ext h e) u y cuts (stable_rows.ext hc e))
  have HC2 : Hid (DesignOk mk t cuts → ∀ w', Ext w w' → Calls Tryz.prog 70 #[v] w' (Ret w' fun r w'' => OwnR true w'.heap.size IntsO 41 w'.heap.size w'' r t)) := fun ok w' e => copyListsO_c w' v z t (stable_rows.ext h e) (by have := ok.len; omega) (fun k hk => by rw [ok.row k hk]; have := ok.doors; omega)
  have HR0 : Hid (DesignOk mk t cuts → ∃ a n cap b off a0 c0, v = .slice a n cap ∧ n = t.length ∧ a = some ⟨b, off, none⟩ ∧ 0 < n ∧ ∀ w', Ext w w' → w'.cell? ⟨b, off, none⟩ = some (.slice a0 (doorsOf t) c0)) := fun ok => by
    obtain ⟨a, n, cap, rfl, hn, -⟩ := SliceR.shape h
    have hl := ok.len
    obtain ⟨b, off, rfl, a0, m, cp, hmE, hmm, -, hcr, -⟩ := rows_at h (k := 0) (by omega)
    have hm : m = doorsOf t := hmE
    subst hm
    exact ⟨_, n, cap, b, off, a0, cp, rfl, hn, rfl, by omega, fun w' e => by have := hcr w' e; rwa [Nat.add_zero] at this⟩
  generalize hrc : designCode mk t cuts = rc at *
  generalize dropDoor mk t cuts d = res at *
  obtain ⟨a, n, cap, rfl, hn, -⟩ := SliceR.shape h
  obtain ⟨a2, n2, cap2, rfl, -⟩ := SliceR.shape hc
  clear h hc hrc
  have Hn := Lib.hid hn
  clear hn
  unfold sysV at *
  go_enter Tryz.func25, Tryz.ntmps25
  go_wp2_with fail
  generalize hw1 : World.alloc _ _ = w1
  obtain ⟨e1, S0, R0, hz1⟩ := two_box hw1
  clear hw1
  refine Calls.mono (HC1.out w1 e1) ?_
  rintro e w2 hr
  obtain ⟨r, rfl, rfl, e2⟩ := ret_ext hr
  clear hr
  have et := e1.trans e2
  replace S0 := S0.ext e2
  replace R0 := R0.ext e2
  by_cases hd0 : rc = 0
  · have ok := HOK.out hd0
    obtain ⟨av, nv, cv, b, off, a0, c0, hv, hnt, ha, hn0, hcr⟩ := HR0.out ok
    injection hv with hv1 hv2 hv3
    subst hv1; subst hv2; subst hv3; subst ha
    have hdo := ok.doors
    have hrow := hcr w2 et
    have HG := Lib.hid (HC2.out ok)
    have HL := Lib.hid ok.row
    have hn10 : n ≤ 10 := by have := ok.len; omega
    clear HC2 HR0 HC1 HOK hnt hcr
    have S00 := S0
    obtain ⟨c0', c1', c2', c3', c4', c5'⟩ := S0
    have hb0 : (rc != 0) = false := by rw [hd0]; rfl
    have HW := Lib.hid (fun w' => within_c w' d 0 ((doorsOf t : Int) - 1))
    replace H2 := Lib.hid (H2.out hd0)
    replace H3 := Lib.hid (H3.out hd0)
    replace H4 := Lib.hid (H4.out hd0)
    have hdm : doorsOf t ≤ 12 := hdo.2
    have hdm1 : 1 ≤ doorsOf t := hdo.1
    clear H1 hd0 hdo ok
    generalize doorsOf t = m at *
    cases hq : inB d 0 ((m : Int) - 1) with
    | false =>
      have HH := Lib.hid (H2.out hq)
      rw [hq] at HW
      clear H2 H3 H4 hq HL HG S00
      have R := R0
      obtain ⟨d0, d1, d2, d3, d4, d5, f0, f1, f2, f3, f4, f5⟩ := R0
      go_wp2_with fail
      refine Calls.mono (HW.out w2) ?_
      rintro e w3 ⟨rfl, hdw⟩
      obtain ⟨nd, rfl⟩ := hdw
      replace R := R.drewN nd
      replace et := et.trans (Ext.drewN _ nd)
      go_wp2_with fail
      generalize hwF : World.setCell _ _ _ = wF
      obtain ⟨wi, y0, y1, y2, y3, y4, y5⟩ := ResAt.fill R hwF
      have eF : Ext w wF := wi.above (Nat.le_succ _) et
      clear hwF
      refine bodyPost_ret (v := .tuple #[sysV noSys (.slice none 0 0), .int .i64 2]) (by simp [results, Tryz.results25, go_sem, y0, y1, y2, y3, y4, y5, sysV, noSys]) rfl ⟨_, rfl, SysRes.bad HH.out, eF⟩
    | true =>
      replace H3 := Lib.hid (H3.out hq)
      replace H4 := Lib.hid (H4.out hq)
      rw [hq] at HW
      obtain ⟨g1, g2⟩ := inB_iff.1 hq
      obtain ⟨dn, rfl⟩ := Int.eq_ofNat_of_zero_le g1
      have hdn : dn < m := by omega
      clear H2 hq g1 g2
      by_cases h1 : m = 1
      · have HH := Lib.hid (H3.out h1)
        have hb1 : ((m : Int) == 1) = true := by rw [h1]; rfl
        clear H3 H4 h1 HL HG S00
        have R := R0
        obtain ⟨d0, d1, d2, d3, d4, d5, f0, f1, f2, f3, f4, f5⟩ := R0
        go_wp2_with fail
        refine Calls.mono (HW.out w2) ?_
        rintro e w3 ⟨rfl, hdw⟩
        obtain ⟨nd, rfl⟩ := hdw
        replace R := R.drewN nd
        replace et := et.trans (Ext.drewN _ nd)
        go_wp2_with fail
        generalize hwF : World.setCell _ _ _ = wF
        obtain ⟨wi, y0, y1, y2, y3, y4, y5⟩ := ResAt.fill R hwF
        have eF : Ext w wF := wi.above (Nat.le_succ _) et
        clear hwF
        refine bodyPost_ret (v := .tuple #[sysV noSys (.slice none 0 0), .int .i64 5]) (by simp [results, Tryz.results25, go_sem, y0, y1, y2, y3, y4, y5, sysV, noSys]) rfl ⟨_, rfl, SysRes.bad HH.out, eF⟩
      · have HH := Lib.hid (H4.out h1)
        have hb1 : ((m : Int) == 1) = false := by rw [beq_eq_false_iff_ne]; omega
        clear H3 H4 h1
        go_wp2_with fail
        refine Calls.mono (HW.out w2) ?_
        rintro e w3 ⟨rfl, hdw⟩
        have e3 := Ext.ofDrew hdw
        clear hdw
        replace et := et.trans e3
        replace S00 := S00.ext e3
        have R := R0.ext e3
        replace hrow := e3.cell hrow
        clear c0' c1' c2' c3' c4' c5' R0
        obtain ⟨c0', c1', c2', c3', c4', c5'⟩ := S00
        have HA : Hid (∀ w', Ext w3 w' → w'.cell? ⟨w.heap.size, 0, none⟩ = some (.int .i64 mk.c) ∧ w'.cell? ⟨w.heap.size, 1, none⟩ = some (.int .i64 mk.d) ∧ w'.cell? ⟨w.heap.size, 2, none⟩ = some (.int .i64 mk.s) ∧ w'.cell? ⟨w.heap.size, 3, none⟩ = some (.int .i64 mk.m) ∧ w'.cell? ⟨w.heap.size, 4, none⟩ = some (.int .i64 mk.l) ∧ w'.cell? ⟨w.heap.size, 5, none⟩ = some (.slice (some ⟨b, off, none⟩) n cap)) := fun w' e => SysAt.all ⟨c0', c1', c2', c3', c4', c5'⟩ e
        replace HG := Lib.hid (fun (w' : World) (e : Ext w3 w') => HG.out w' (et.trans e))
        have HR := Lib.hid (fun (w' : World) (e : Ext w3 w') => R.ext e)
        have HE := Lib.hid (fun (w' : World) (e : Ext w3 w') => et.trans e)
        clear R et e1 e2 e3
        go_wp2_with fail
        go_region_held3 (fun w' => w'.cell? ⟨w.heap.size, 0, none⟩ = some (.int .i64 mk.c) ∧ w'.cell? ⟨w.heap.size, 1, none⟩ = some (.int .i64 mk.d) ∧ w'.cell? ⟨w.heap.size, 2, none⟩ = some (.int .i64 mk.s) ∧ w'.cell? ⟨w.heap.size, 3, none⟩ = some (.int .i64 mk.m) ∧ w'.cell? ⟨w.heap.size, 4, none⟩ = some (.int .i64 mk.l) ∧ w'.cell? ⟨w.heap.size, 5, none⟩ = some (.slice (some ⟨b, off, none⟩) n cap)) (exact HA.out _ (by repeat (first | with_reducible exact Ext.refl _ | with_reducible assumption | (with_reducible refine keep_storeR ?_ (Nat.le_refl _)) | (with_reducible refine keep_storeR ?_ (Nat.le_succ _)) | (with_reducible refine keep_storeR ?_ zX) | (with_reducible refine keep_storeR ?_ (Nat.le_succ_of_le zX)) | (with_reducible refine Ext.trans ?_ (Ext.drew _)) | (with_reducible refine Ext.trans ?_ (Ext.alloc _ _))))) (first | (go_at_call 70; (with_reducible refine (HG.out _ (by repeat (first | exact Ext.refl _ | assumption | (refine Ext.trans ?_ (Ext.alloc _ _)) | (refine Ext.trans ?_ (Ext.drew _)) | (refine Ext.trans ?_ (by assumption))))).mono ?_); rintro e w7 hr7; obtain ⟨r7, rfl, o7, e7⟩ := ret_ext hr7; clear hr7; have e37 : Ext w3 w7 := (by repeat (first | exact Ext.refl _ | assumption | (refine Ext.trans ?_ (Ext.alloc _ _)) | (refine Ext.trans ?_ (Ext.drew _)) | (refine Ext.trans ?_ (by assumption)))); have zX := Ext.size e37; obtain ⟨a7, n7, k7, rfl, -⟩ := OwnA.shape o7; (first | (with_reducible have q := afterR e7; have z5 := ResAt.lt q; have z5' := Nat.ne_of_lt z5; have z5'' := Nat.ne_of_gt z5; obtain ⟨q0, q1, q2, q3, q4, q5, f0, f1, f2, f3, f4, f5⟩ := q) | skip); clear c0' c1' c2' c3' c4' c5') | fail)
        all_goals
          rename_i hHeld
          have hn7 := o7.len
          (first | (generalize hwB : World.setCell _ _ _ = wB; have hB := boxA stable_into e7 o7 hwB; clear q0 q1 q2 q3 q4 q5 f0 f1 f2 f3 f4 f5 z5 z5' z5''; clear o7 e7 e37 zX hwB; generalize w3.heap.size = X at *) | (generalize hwB : World.alloc _ _ = wB; have hB := boxB stable_into e7 o7 hwB; clear o7 e7 e37 zX hwB; generalize w7.heap.size = X at *))
          clear hHeld
          obtain ⟨L, H, hL, hH, hX, hX0, hrows, hS, eB⟩ := hB
          have hz3 : w.heap.size + 1 < w3.heap.size := (HR.out w3 (Ext.refl _)).lt
          have hnn : n7 = n := by rw [hn7, Hn.out]
          subst hnn
          have hmix := mix_start (f := fun _ r => delAt dn r) hrows
          obtain ⟨bb, oo, rfl⟩ : ∃ bb oo, a7 = some ⟨bb, oo, none⟩ := by
            obtain ⟨a', n', c', he, -, -, -, -, -, hel⟩ := SliceR.shape hrows
            obtain ⟨b1, o1, he2, -⟩ := hel 0 (by omega)
            injection he with he1 _ _
            exact ⟨b1, o1, by rw [he1, he2]⟩
          have hc5 := hS.c5
          have hl7 : n7 = t.length := Hn.out
          clear hrows HA HG hn7 hrow
          have Hl7 := Lib.hid hl7
          clear hl7 Hn
          go_wp2_with fail
          go_loopw [10, 44] (fun _ s wr => ∃ k : Nat, k ≤ n7 ∧ s = .int .i64 k ∧ SliceR MixR ⟨L, H, true⟩ wr (.slice (some ⟨bb, oo, none⟩) n7 k7) (mixL (fun _ r => delAt dn r) t k) ∧ Within ⟨L, H, true⟩ wB wr) (fun _ s _ => n7 - (intOf s).toNat)
          case atStart => exact ⟨0, Nat.zero_le _, rfl, hmix, Within.refl _ _⟩
          case round =>
            obtain ⟨k, hk, rfl, hm, hw⟩ := hrel
            have hc5' := hw.cellE (p := ⟨X, 5, none⟩) (fun h => by have q1 := h.1; have q2 := h.2; simp only at q1 q2; omega) hc5
            have hws := hw.size
            by_cases hlt : k < n7
            · obtain ⟨u, Y, hi', hcu, hfr, hzb, hEu, hYs, hYo, hYb, hrep⟩ := SliceR.replace stable_mix hm rfl (by simp only; omega) k hlt
              rw [mixL_at] at hEu
              have hO := hEu.2 rfl
              simp only at hO
              have hlr := HL.out k (by rw [← Hl7.out]; exact hlt)
              obtain ⟨ra, rn, rc', rfl, hrn, hrm, -⟩ := OwnP.shape hO.2.1
              have HD : Hid (∀ w', Drew wr w' → Calls Tryz.prog 80 #[.slice ra rn rc', .int .i64 dn, .int .i64 ((dn : Int) + 1)] w' (DelIn (.slice ra rn rc') w' (delAt dn (t.getD k [])))) := fun w' hd => by
                have := DeleteIn_c w' 0 _ _ (OwnP.below hO.2.1 (hd.below _)) hO.1 dn (dn + 1) (Nat.lt_succ_self _) (by omega)
                rw [show ((dn + 1 : Nat) : Int) = (dn : Int) + 1 by omega] at this
                exact this
              have HA1 : Hid (∀ w', Drew wr w' → w'.cell? ⟨X, 5, none⟩ = some (.slice (some ⟨bb, oo, none⟩) n7 k7) ∧ w'.cell? ⟨bb, oo + k, none⟩ = some (.slice ra rn rc')) := fun w' hd => ⟨(hd.cell _).trans hc5', (hd.cell _).trans hcu⟩
              have HY := Lib.hid hO.2.2
              have hXY : ¬ Y.Has X := fun h => by have q := hYs.1 X h; have q1 := q.1; have q2 := q.2; simp only at q1 q2; omega
              have HX := Lib.hid (fun w' (h : Within Y wr w') => (⟨⟨h.cellE (p := ⟨X, 5, none⟩) hXY hc5', h.cellE (p := ⟨bb, oo + k, none⟩) hYb hcu⟩, (World.frozen?_of_block (a := ⟨bb, oo + k, none⟩) (h.block _ hYb)).trans hfr⟩ : (w'.cell? ⟨X, 5, none⟩ = some (.slice (some ⟨bb, oo, none⟩) n7 k7) ∧ w'.cell? ⟨bb, oo + k, none⟩ = some (.slice ra rn rc')) ∧ w'.frozen? ⟨bb, oo + k, none⟩ = false))
              have Hrep := Lib.hid hrep
              have HYs := Lib.hid hYs
              have HYo : Hid (Y.own = true) := hYo
              have HE2 := Lib.hid hws
              clear hO hEu hrep hlr hYb hYo hXY hm hrn
              go_wp2_with fail
              have hwrp : IntKind.i64.wrap ((dn : Int) + 1) = (dn : Int) + 1 := IntWalk.i64_in _ (by omega)
              go_region_law (first | (go_simp; go_at_call 80; refine (HD.out _ (by first | exact ⟨_, rfl⟩ | exact Drew.of2)).mono ?_; rintro e w8 ⟨r8, g, rfl, hob, hi8, hw8⟩; have hY8 : Within Y wr w8 := Within.trans (Within.ofDrew (by first | exact ⟨_, rfl⟩ | exact Drew.of2)) (hw8.sub ⟨fun q hq => (by have q1 := hq.1; have q2 := hq.2; simp only at q1 q2; have : q = g := (by omega); rw [this]; exact HY.out g hob), fun _ => rfl⟩); have HA2 := Lib.hid (fun (w' : World) (hd : Drew w8 w') => (HX.out w' (hY8.trans (Within.ofDrew hd))).1); obtain ⟨⟨p1, p2⟩, p3⟩ := HX.out w8 hY8; obtain ⟨a8, n8, k8, rfl, -⟩ := SliceR.shape hi8) | fail)
              all_goals (first | clear HA2 | skip)
              all_goals (go_wp2_with fail; go_roundw)
              any_goals (simp [intOf]; omega)
              all_goals exact ⟨k + 1, by omega, by go_num, by
                rw [← mixL_set]
                exact Hrep.out w8 _ (true, delAt dn (t.getD k [])) ⟨g, g + 1, true⟩ H (Nat.le_refl _) (by rw [hY8.size]; exact Nat.le_refl _) (fun q _ hq => hY8.block q hq) ⟨fun _ => hi8, fun h => by cases h⟩ rfl (fun q hq => by
                  have q1 := hq.1; have q2 := hq.2; simp only at q1 q2
                  have : q = g := by omega
                  subst this
                  have q3 := HY.out q hob
                  have q4 := (HYs.out.1 q q3).2
                  exact ⟨q4, .inl q3⟩), (hw.trans (hY8.sub HYs.out)).setCell hzb _⟩
            · have hkn : k = t.length := by rw [← Hl7.out]; omega
              subst hkn
              have hr := mix_end hm
              have hS' : SysAt wr X mk (.slice (some ⟨bb, oo, none⟩) n7 k7) := hS.of (hw.block X (fun h => by have q1 := h.1; have q2 := h.2; simp only at q1 q2; omega))
              have R : ResAt wr (w.heap.size + 1) := (HR.out wB eB).of (hw.block _ (fun h => by have q1 := h.1; simp only at q1; omega))
              have eW : Ext w wr := Below.trans (HE.out wB eB) (hw.below (by simp only; omega))
              have hbr : wr.heap.size = wB.heap.size := hws
              obtain ⟨v0, v1, v2, v3, v4, v5⟩ := hS'
              have R' := R
              obtain ⟨d0, d1, d2, d3, d4, d5, f0, f1, f2, f3, f4, f5⟩ := R'
              clear hm hmix hc5 hc5' hS
              go_wp2_with fail
              generalize hwF : World.setCell _ _ _ = wF
              obtain ⟨wi, y0, y1, y2, y3, y4, y5⟩ := ResAt.fill R hwF
              have eF : Ext w wF := wi.above (Nat.le_succ _) eW
              clear hwF
              refine bodyPost_ret (v := .tuple #[sysV mk (.slice (some ⟨bb, oo, none⟩) n7 k7), .int .i64 0]) (by simp [results, Tryz.results25, go_sem, y0, y1, y2, y3, y4, y5, sysV]) rfl ⟨_, rfl, ?_, eF⟩
              rw [HH.out]
              refine ⟨_, rfl, stable_rows.sub (stable_rows.within hr wi (fun q h1 h2 => by have q1 := h1.1; have q2 := h2.2; simp only at q1 q2; omega)) ⟨fun q hq => ⟨?_, ?_⟩, fun _ => rfl⟩⟩
              · have q1 := hq.1; simp only [Zone.new] at *; omega
              · have q2 := hq.2; have q3 := wi.size; simp only [Zone.new] at *; omega
  · have hb : (rc != 0) = true := by rw [bne_iff_ne]; exact hd0
    have HH := Lib.hid (H1.out hd0)
    clear hd0 H1 H2 H3 H4 HOK HC1 HC2 HR0 Hn S0
    have R := R0
    obtain ⟨d0, d1, d2, d3, d4, d5, f0, f1, f2, f3, f4, f5⟩ := R0
    go_wp2_with fail
    generalize hwF : World.setCell _ _ _ = wF
    obtain ⟨wi, y0, y1, y2, y3, y4, y5⟩ := ResAt.fill R hwF
    have eF : Ext w wF := wi.above (Nat.le_succ _) et
    clear hwF
    refine bodyPost_ret (v := .tuple #[sysV noSys (.slice none 0 0), .int .i64 rc]) (by simp [results, Tryz.results25, go_sem, y0, y1, y2, y3, y4, y5, sysV, noSys]) rfl ⟨_, rfl, SysRes.bad HH.out, eF⟩
end Go.Proofs.YthgmojggpjnckaaGreat
