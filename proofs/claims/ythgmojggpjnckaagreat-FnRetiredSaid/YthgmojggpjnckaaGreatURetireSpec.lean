/- Proved: RetireKey of the reference. -/
import Derived.Test.YthgmojggpjnckaaGreatChecked
import Derived.Deep.RegionHeld3
import Derived.Test.YthgmojggpjnckaaGreatURetireLaw
import Derived.Test.YthgmojggpjnckaaGreatUPkE
import Derived.Test.YthgmojggpjnckaaGreatUWithout
namespace Go.Proofs.YthgmojggpjnckaaGreat
open Go.ChangeShapes Go.WideShapes Go.ChangeAt Go.RowKit
set_option linter.unusedVariables false

set_option maxRecDepth 20000 in
set_option maxHeartbeats 2000000 in
theorem RetireKeySpec_c (w : World) (mk : MK) (v : Value) (z : Zone) (t : List (List Int)) (h : RowsR z w v t) (u : Value) (y : Zone) (cuts : List (List Int)) (hc : RowsR y w u cuts) (d : Int) (hd : I64 d) :
    Calls Tryz.prog 20 #[sysV mk v, u, .int .i64 d] w (Ret w (SysRes2 w (retireKey mk t cuts d))) := by
  have H1 : Hid (designCode mk t cuts ≠ 0 → retireKey mk t cuts d = noRes (designCode mk t cuts)) := retire_bad
  have H2 : Hid (designCode mk t cuts = 0 → inB d 0 ((cuts.length : Int) - 1) = false → retireKey mk t cuts d = noRes 2) := retire_range
  have H3 : Hid (∀ dn : Nat, d = dn → designCode mk t cuts = 0 → inB d 0 ((cuts.length : Int) - 1) = true → isSystem mk (rmAt dn t) = false → retireKey mk t cuts d = noRes 5) := fun dn e h1 h2 h3 => by subst e; exact retire_state h1 h2 h3
  have H4 : Hid (∀ dn : Nat, d = dn → designCode mk t cuts = 0 → inB d 0 ((cuts.length : Int) - 1) = true → isSystem mk (rmAt dn t) = true → retireKey mk t cuts d = ((mk, rmAt dn t), (rmAt dn cuts, 0))) := fun dn e h1 h2 h3 => by subst e; exact retire_ok h1 h2 h3
  have HOK : Hid (designCode mk t cuts = 0 → DesignOk mk t cuts) := designCode_zero
  have HC1 := Lib.hid (fun (w' : World) (e : Ext w w') => l21Code_c w' mk v z t (stable_rows.ext h e) u y cuts (stable_rows.ext hc e))
  have HC2 : Hid (DesignOk mk t cuts → ∀ w', Ext w w' → Calls Tryz.prog 72 #[sysV mk v, .int .i64 d, .int .i64 0] w' (Ret w' fun r _ => r = .bool (inB d 0 ((cuts.length : Int) - 1)))) := fun ok w' e => by
    have hl := ok.len
    have hd := ok.doors
    have hq := ok.eq
    have := l15Pair_c w' mk v z t (stable_rows.ext h e) (by omega) d 0
    have e2 : pairB t d 0 = inB d 0 ((cuts.length : Int) - 1) := by
      unfold pairB
      have : inB 0 0 ((doorsOf t : Int) - 1) = true := inB_iff.2 ⟨by omega, by omega⟩
      rw [this, Bool.and_true, hq]
    rwa [e2] at this
  have HW1 : Hid (DesignOk mk t cuts → ∀ (q : Nat) w', Ext w w' → Calls Tryz.prog 73 #[v, .int .i64 q] w' (Ret w' fun r w'' => OwnR true w'.heap.size IntsR 41 w'.heap.size w'' r (rmAt q t))) := fun ok q w' e =>
    l24Without_c w' v z t (stable_rows.ext h e) (by have := ok.len; omega) (fun k hk => by rw [ok.row k hk]; have := ok.doors; omega) q
  have HW2 : Hid (DesignOk mk t cuts → ∀ (q : Nat) w', Ext w w' → Calls Tryz.prog 73 #[u, .int .i64 q] w' (Ret w' fun r w'' => OwnR true w'.heap.size IntsR 41 w'.heap.size w'' r (rmAt q cuts))) := fun ok q w' e =>
    l24Without_c w' u y cuts (stable_rows.ext hc e) (by have := ok.len; have := ok.eq; omega) (fun k hk => by have := ok.rowLen hk; omega) q
  generalize hrc : designCode mk t cuts = rc at *
  generalize retireKey mk t cuts d = res at *
  obtain ⟨a, n, cap, rfl, -⟩ := SliceR.shape h
  obtain ⟨a2, n2, cap2, rfl, -⟩ := SliceR.shape hc
  clear h hc hrc
  unfold sysV at *
  go_enter Tryz.func20, Tryz.ntmps20
  go_wp2_with fail
  generalize hw1 : World.alloc _ _ = w1
  obtain ⟨e1, S0, R0, hz1⟩ := two_box hw1
  clear hw1
  refine Calls.mono (HC1.out w1 e1) ?_
  rintro e w2 hr
  obtain ⟨r, rfl, rfl, e2⟩ := ret_ext hr
  clear hr
  have et := e1.trans e2
  replace S0 := S0.ext e2
  replace R0 := R0.ext e2
  by_cases hd0 : rc = 0
  · have ok := HOK.out hd0
    have HG := Lib.hid (HC2.out ok)
    replace HW1 := Lib.hid (HW1.out ok)
    replace HW2 := Lib.hid (HW2.out ok)
    have hl := ok.len
    have hq := ok.eq
    have hcl : cuts.length ≤ 10 := by omega
    clear HC1 HC2 HOK hl hq
    have S00 := S0
    obtain ⟨c0', c1', c2', c3', c4', c5'⟩ := S0
    have hb0 : (rc == 0) = true := by rw [hd0]; rfl
    have hb1 : (rc != 0) = false := by rw [hd0]; rfl
    replace H2 := Lib.hid (H2.out hd0)
    replace H3 := Lib.hid (fun dn e => H3.out dn e hd0)
    replace H4 := Lib.hid (fun dn e => H4.out dn e hd0)
    clear H1 ok
    subst hd0
    have hcall := HG.out w2 et
    clear HG
    go_wp2_with fail
    refine Calls.mono hcall ?_
    rintro e w3 hr
    obtain ⟨r, rfl, rfl, e3⟩ := ret_ext hr
    clear hr hcall
    replace et := et.trans e3
    replace S00 := S00.ext e3
    have R := R0.ext e3
    clear c0' c1' c2' c3' c4' c5' R0
    obtain ⟨c0', c1', c2', c3', c4', c5'⟩ := S00
    cases hq : inB d 0 ((cuts.length : Int) - 1) with
    | false =>
      have HH := Lib.hid (H2.out hq)
      clear H2 H3 H4 hq
      have R' := R
      obtain ⟨d0, d1, d2, d3, d4, d5, f0, f1, f2, f3, f4, f5⟩ := R'
      go_wp2_with fail
      generalize hwF : World.setCell _ _ _ = wF
      obtain ⟨wi, y0, y1, y2, y3, y4, y5⟩ := ResAt.fill R hwF
      have eF : Ext w wF := wi.above (Nat.le_succ _) et
      clear hwF
      refine bodyPost_ret (v := .tuple #[sysV noSys (.slice none 0 0), .slice none 0 0, .int .i64 2]) (by simp [results, Tryz.results20, go_sem, y0, y1, y2, y3, y4, y5, sysV, noSys]) rfl ⟨_, rfl, SysRes2.bad HH.out eF.size, eF⟩
    | true =>
      obtain ⟨g1, g2⟩ := inB_iff.1 hq
      obtain ⟨dn, rfl⟩ := Int.eq_ofNat_of_zero_le g1
      have hdn : dn < cuts.length := by omega
      replace H3 := Lib.hid (H3.out dn rfl hq)
      replace H4 := Lib.hid (H4.out dn rfl hq)
      replace HW1 := Lib.hid (HW1.out dn)
      replace HW2 := Lib.hid (HW2.out dn)
      clear H2 hq g1 g2
      have HA : Hid (∀ w', Ext w3 w' → w'.cell? ⟨w.heap.size, 0, none⟩ = some (.int .i64 mk.c) ∧ w'.cell? ⟨w.heap.size, 1, none⟩ = some (.int .i64 mk.d) ∧ w'.cell? ⟨w.heap.size, 2, none⟩ = some (.int .i64 mk.s) ∧ w'.cell? ⟨w.heap.size, 3, none⟩ = some (.int .i64 mk.m) ∧ w'.cell? ⟨w.heap.size, 4, none⟩ = some (.int .i64 mk.l) ∧ w'.cell? ⟨w.heap.size, 5, none⟩ = some (.slice a n cap)) := fun w' e => SysAt.all ⟨c0', c1', c2', c3', c4', c5'⟩ e
      replace HW1 := Lib.hid (fun (w' : World) (e : Ext w3 w') => HW1.out w' (et.trans e))
      replace HW2 := Lib.hid (fun (w' : World) (e : Ext w3 w') => HW2.out w' (et.trans e))
      have HR := Lib.hid (fun (w' : World) (e : Ext w3 w') => R.ext e)
      have HE := Lib.hid (fun (w' : World) (e : Ext w3 w') => et.trans e)
      clear R et e1 e2 e3
      go_wp2_with fail
      go_region_held3 (fun w' => w'.cell? ⟨w.heap.size, 0, none⟩ = some (.int .i64 mk.c) ∧ w'.cell? ⟨w.heap.size, 1, none⟩ = some (.int .i64 mk.d) ∧ w'.cell? ⟨w.heap.size, 2, none⟩ = some (.int .i64 mk.s) ∧ w'.cell? ⟨w.heap.size, 3, none⟩ = some (.int .i64 mk.m) ∧ w'.cell? ⟨w.heap.size, 4, none⟩ = some (.int .i64 mk.l) ∧ w'.cell? ⟨w.heap.size, 5, none⟩ = some (.slice a n cap)) (exact HA.out _ (by repeat (first | with_reducible exact Ext.refl _ | with_reducible assumption | (with_reducible refine keep_storeR ?_ (Nat.le_refl _)) | (with_reducible refine keep_storeR ?_ (Nat.le_succ _)) | (with_reducible refine keep_storeR ?_ zX) | (with_reducible refine keep_storeR ?_ (Nat.le_succ_of_le zX)) | (with_reducible refine Ext.trans ?_ (Ext.drew _)) | (with_reducible refine Ext.trans ?_ (Ext.alloc _ _))))) (first | (go_at_call 73; (with_reducible refine (HW1.out _ (by repeat (first | exact Ext.refl _ | assumption | (refine Ext.trans ?_ (Ext.alloc _ _)) | (refine Ext.trans ?_ (Ext.drew _)) | (refine Ext.trans ?_ (by assumption))))).mono ?_); rintro e w7 hr7; obtain ⟨r7, rfl, o7, e7⟩ := ret_ext hr7; clear hr7; have e37 : Ext w3 w7 := (by repeat (first | exact Ext.refl _ | assumption | (refine Ext.trans ?_ (Ext.alloc _ _)) | (refine Ext.trans ?_ (Ext.drew _)) | (refine Ext.trans ?_ (by assumption)))); have zX := Ext.size e37; obtain ⟨a7, n7, k7, rfl, -⟩ := OwnA.shape o7; (first | (with_reducible have q := afterR e7; have z5 := ResAt.lt q; have z5' := Nat.ne_of_lt z5; have z5'' := Nat.ne_of_gt z5; obtain ⟨q0, q1, q2, q3, q4, q5, f0, f1, f2, f3, f4, f5⟩ := q) | skip); clear c0' c1' c2' c3' c4' c5') | fail)
      all_goals
        rename_i hHeld
        (first | (generalize hwB : World.setCell _ _ _ = wB; have hB := boxA stable_ints e7 o7 hwB; clear q0 q1 q2 q3 q4 q5 f0 f1 f2 f3 f4 f5 z5 z5' z5''; clear o7 e7 e37 zX hwB; generalize w3.heap.size = X at *) | (generalize hwB : World.alloc _ _ = wB; have hB := boxB stable_ints e7 o7 hwB; clear o7 e7 e37 zX hwB; generalize w7.heap.size = X at *))
        clear hHeld
        obtain ⟨L, H, hL, hH, hX, hX0, hrows, hS, eB⟩ := hB
        have hz3 : w.heap.size + 1 < w3.heap.size := (HR.out w3 (Ext.refl _)).lt
        have hcall := IsSystemSpec_c wB mk _ _ _ hrows
        have hS' := hS
        obtain ⟨v0, v1, v2, v3, v4, v5⟩ := hS'
        unfold sysV at hcall
        clear HA HW1
        go_wp2_with fail
        refine Calls.mono hcall ?_
        rintro e wC hr
        obtain ⟨r, rfl, rfl, eC⟩ := ret_ext hr
        clear hr hcall v0 v1 v2 v3 v4 v5
        replace hS := hS.ext eC
        replace hrows := stable_rows.ext hrows eC
        replace hH : H ≤ wC.heap.size := Nat.le_trans hH eC.size
        replace eB := eB.trans eC
        clear eC
        cases hi : isSystem mk (rmAt dn t) with
        | false =>
          have HH := Lib.hid (H3.out hi)
          clear H3 H4 hi hrows hS
          have R := HR.out wC eB
          have R' := R
          obtain ⟨d0, d1, d2, d3, d4, d5, f0, f1, f2, f3, f4, f5⟩ := R'
          have et := HE.out wC eB
          go_wp2_with fail
          generalize hwF : World.setCell _ _ _ = wF
          obtain ⟨wi, y0, y1, y2, y3, y4, y5⟩ := ResAt.fill R hwF
          have eF : Ext w wF := wi.above (Nat.le_succ _) et
          clear hwF
          refine bodyPost_ret (v := .tuple #[sysV noSys (.slice none 0 0), .slice none 0 0, .int .i64 5]) (by simp [results, Tryz.results20, go_sem, y0, y1, y2, y3, y4, y5, sysV, noSys]) rfl ⟨_, rfl, SysRes2.bad HH.out eF.size, eF⟩
        | true =>
          have HH := Lib.hid (H4.out hi)
          clear H3 H4 hi
          have HA : Hid (∀ w', Ext wC w' → w'.cell? ⟨X, 0, none⟩ = some (.int .i64 mk.c) ∧ w'.cell? ⟨X, 1, none⟩ = some (.int .i64 mk.d) ∧ w'.cell? ⟨X, 2, none⟩ = some (.int .i64 mk.s) ∧ w'.cell? ⟨X, 3, none⟩ = some (.int .i64 mk.m) ∧ w'.cell? ⟨X, 4, none⟩ = some (.int .i64 mk.l) ∧ w'.cell? ⟨X, 5, none⟩ = some (.slice a7 n7 k7)) := fun w' e => SysAt.all hS e
          replace HW2 := Lib.hid (fun (w' : World) (e : Ext wC w') => HW2.out w' (eB.trans e))
          replace HR := Lib.hid (fun (w' : World) (e : Ext wC w') => HR.out w' (eB.trans e))
          replace HE := Lib.hid (fun (w' : World) (e : Ext wC w') => HE.out w' (eB.trans e))
          obtain ⟨v0, v1, v2, v3, v4, v5⟩ := hS
          have hs3 := eB.size
          clear eB
          go_wp2_with fail
          go_region_law (first | (go_simp; go_at_call 73; (with_reducible refine (HW2.out _ (by repeat (first | exact Ext.refl _ | assumption | (refine Ext.trans ?_ (Ext.alloc _ _)) | (refine Ext.trans ?_ (Ext.drew _)) | (refine Ext.trans ?_ (by assumption))))).mono ?_); rintro e w9 hr9; obtain ⟨r9, rfl, o9, e9⟩ := ret_ext hr9; clear hr9; have e39 : Ext wC w9 := (by repeat (first | exact Ext.refl _ | assumption | (refine Ext.trans ?_ (Ext.alloc _ _)) | (refine Ext.trans ?_ (Ext.drew _)) | (refine Ext.trans ?_ (by assumption)))); obtain ⟨a9, n9, k9, rfl, -⟩ := OwnA.shape o9; obtain ⟨x0, x1, x2, x3, x4, x5⟩ := HA.out w9 e39; have R := HR.out w9 e39; have R' := R; obtain ⟨d0, d1, d2, d3, d4, d5, f0, f1, f2, f3, f4, f5⟩ := R') | fail)
          all_goals
            have hs9 := e39.size
            have eW := HE.out w9 e39
            have hr9 : RowsR ⟨wC.heap.size, w9.heap.size, true⟩ w9 (.slice a9 n9 k9) (rmAt dn cuts) := OwnR.reads o9 (Nat.le_refl _)
            have hrl := stable_rows.ext hrows e39
            clear o9 HA HW2 HR x0 x1 x2 x3 x4 x5 hrows
            go_wp2_with fail
            generalize hwF : World.setCell _ _ _ = wF
            obtain ⟨wi, y0, y1, y2, y3, y4, y5⟩ := ResAt.fill R hwF
            have eF : Ext w wF := wi.above (Nat.le_succ _) eW
            clear hwF
            refine bodyPost_ret (v := .tuple #[sysV mk (.slice a7 n7 k7), .slice a9 n9 k9, .int .i64 0]) (by simp [results, Tryz.results20, go_sem, y0, y1, y2, y3, y4, y5, sysV]) rfl ⟨_, rfl, ?_, eF⟩
            rw [HH.out]
            have hsF := wi.size
            refine ⟨_, _, wC.heap.size, rfl, ⟨by omega, by omega⟩, stable_rows.sub (stable_rows.within hrl wi (fun q h1 h2 => by have q1 := h1.1; have q2 := h2.2; simp only at q1 q2; omega)) ⟨fun q hq => ⟨?_, ?_⟩, fun _ => rfl⟩, stable_rows.sub (stable_rows.within hr9 wi (fun q h1 h2 => by have q1 := h1.1; have q2 := h2.2; simp only at q1 q2; omega)) ⟨fun q hq => ⟨?_, ?_⟩, fun _ => rfl⟩⟩
            · have q1 := hq.1; simp only at *; omega
            · have q2 := hq.2; simp only at *; omega
            · have q1 := hq.1; simp only at *; omega
            · have q2 := hq.2; simp only at *; omega
  · have hb : (rc == 0) = false := by rw [beq_eq_false_iff_ne]; exact hd0
    have hb1 : (rc != 0) = true := by rw [bne_iff_ne]; exact hd0
    have HH := Lib.hid (H1.out hd0)
    clear hd0 H1 H2 H3 H4 HOK HC1 HC2 S0
    have R := R0
    obtain ⟨d0, d1, d2, d3, d4, d5, f0, f1, f2, f3, f4, f5⟩ := R0
    go_wp2_with fail
    generalize hwF : World.setCell _ _ _ = wF
    obtain ⟨wi, y0, y1, y2, y3, y4, y5⟩ := ResAt.fill R hwF
    have eF : Ext w wF := wi.above (Nat.le_succ _) et
    clear hwF
    refine bodyPost_ret (v := .tuple #[sysV noSys (.slice none 0 0), .slice none 0 0, .int .i64 rc]) (by simp [results, Tryz.results20, go_sem, y0, y1, y2, y3, y4, y5, sysV, noSys]) rfl ⟨_, rfl, SysRes2.bad HH.out eF.size, eF⟩
end Go.Proofs.YthgmojggpjnckaaGreat
