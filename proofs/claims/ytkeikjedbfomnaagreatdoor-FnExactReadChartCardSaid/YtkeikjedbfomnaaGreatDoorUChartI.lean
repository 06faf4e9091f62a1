/- Proved: the text of a chart, the program. -/
import Derived.Test.YtkeikjedbfomnaaGreatDoorChecked
import Derived.Deep.RegionHeld3
import Derived.Deep.Cut
import Derived.Test.YtkeikjedbfomnaaGreatDoorUChartBody
namespace Go.Proofs.YtkeikjedbfomnaaGreatDoor
open Go.ChangeShapes Go.WideShapes Go.ChangeAt Go.RowKit
set_option linter.unusedVariables false

set_option maxRecDepth 20000 in
set_option maxHeartbeats 1000000 in
theorem makerLine_c (w : World) (hT : Pow10 w) (mk : MK) (hm : isMaker mk = true) : Calls Tryz.prog 53 #[mk.v] w (Ret w fun r _ => r = .string (makerV mk)) := by
  have hdg := makerDigs hm
  have HJ : Hid (∀ (w' : World), Ext w w' → ∀ (v : Value) (z : Zone), IntsR z w' v [mk.c, mk.d, mk.s, mk.m, mk.l] → Calls Tryz.prog 83 #[v, .string ⟨#[32]⟩] w' (Ret w' fun r _ => r = .string (strOf (joinI [mk.c, mk.d, mk.s, mk.m, mk.l] [32])))) := fun w' e v z g => joined_c w' (hT.ext e) v z _ g (fun x q => by have := hdg x q; omega) (by simp) ⟨#[32]⟩ (by decide)
  have HI : Hid (∀ x ∈ [mk.c, mk.d, mk.s, mk.m, mk.l], I64 x) := fun x hx => by have := hdg x hx; unfold I64; omega
  have HR : Hid (makerV mk = (⟨#[109, 97, 107, 101, 114, 32]⟩ : ByteArray) ++ strOf (joinI [mk.c, mk.d, mk.s, mk.m, mk.l] [32])) := rfl
  have hA : (strOf (joinI [mk.c, mk.d, mk.s, mk.m, mk.l] [32])).size ≤ 60 := by rw [strOf_size]; exact makerL_len hm
  generalize makerV mk = res at *
  generalize strOf (joinI [mk.c, mk.d, mk.s, mk.m, mk.l] [32]) = A at *
  have hs1 : ¬ (9223372036854775807 < 6 + A.size) := by omega
  clear hA hdg hm hT
  obtain ⟨c, d, s, m, l⟩ := mk
  unfold MK.v at *
  simp only at HJ HI ⊢
  go_enter Tryz.func53, Tryz.ntmps53
  go_wp2_with fail
  generalize hw0 : World.alloc w _ = w0
  obtain ⟨e0, S0⟩ := mk_box (mk := ⟨c, d, s, m, l⟩) hw0
  have z0 : w0.heap.size = w.heap.size + 1 := by rw [← hw0]; simp
  clear hw0
  obtain ⟨c0, c1, c2, c3, c4⟩ := S0
  have HO : IntsR ⟨w0.heap.size, (w0.alloc (.cells #[.int .i64 c, .int .i64 d, .int .i64 s, .int .i64 m, .int .i64 l] 2)).heap.size, true⟩ (w0.alloc (.cells #[.int .i64 c, .int .i64 d, .int .i64 s, .int .i64 m, .int .i64 l] 2)) (.slice (some ⟨w.heap.size + 1, 0, none⟩) 5 5) [c, d, s, m, l] := by
    rw [← z0]
    exact OwnP.ints (OwnP.lit (f := Value.int .i64) (e := 2) (w := w0) (Nat.le_refl _) [c, d, s, m, l] #[.int .i64 c, .int .i64 d, .int .i64 s, .int .i64 m, .int .i64 l] rfl (by unfold maxLen; simp)) HI.out (Nat.le_refl _)
  have e1 : Ext w0 (w0.alloc (.cells #[.int .i64 c, .int .i64 d, .int .i64 s, .int .i64 m, .int .i64 l] 2)) := Ext.alloc _ _
  have HC := Lib.hid (HJ.out _ (e0.trans e1) _ _ HO)
  clear HO HJ z0
  go_wp2_with fail
  refine Calls.mono HC.out ?_
  rintro e w2 hr
  obtain ⟨r, rfl, rfl, e2⟩ := ret_ext hr
  clear hr
  go_wp2_with fail
  go_ret
  exact ⟨_, rfl, by rw [HR.out]; rfl, (e0.trans e1).trans e2⟩

set_option maxRecDepth 20000 in
set_option maxHeartbeats 2000000 in
theorem chartText_c (w : World) (hT : Pow10 w) (mk : MK) (v : Value) (z : Zone) (t : List (List Int)) (h : RowsR z w v t) (u : Value) (y : Zone) (cuts : List (List Int)) (hc : RowsR y w u cuts) (ok : DesignOk mk t cuts) :
    Calls Tryz.prog 29 #[sysV mk v, u] w (Ret w fun r _ => r = .string (chartV mk t cuts)) := by
  have HMk := Lib.hid (fun (w' : World) (e : Ext w w') => makerLine_c w' (hT.ext e) mk (design_maker ok))
  have HPl := Lib.hid (fun (w' : World) (e : Ext w w') => partLocks_c w' mk v z t (stable_rows.ext h e) u y cuts (stable_rows.ext hc e) ok.toPartOk)
  have HKl := Lib.hid (fun (k : Nat) (hk : k < cuts.length) (w' : World) (e : Ext w w') => keyLine_c w' (hT.ext e) mk v z t (stable_rows.ext h e) u y cuts (stable_rows.ext hc e) ok k hk)
  obtain ⟨a, n, cap, rfl, -⟩ := SliceR.shape h
  have HDl : Hid (∀ (m : Nat) (_ : m < doorsOf t) (w' : World) (_ : Ext w w') (x : Value) (zx : Zone) (_ : LocksR zx w' x (locks mk t cuts)), Calls Tryz.prog 56 #[sysV mk (.slice a n cap), x, .int .i64 (m : Int)] w' (Ret w' fun r _ => r = .string (doorLineV m (pinsAt mk t cuts m)))) := fun m hm w' e x zx g => doorLine_c w' (hT.ext e) mk (.slice a n cap) x a n cap rfl zx (locks mk t cuts) g m (by rw [locks_len]; exact hm) (by have := ok.doors; omega) (doorOk ok hm)
  have HLl : Hid ((locks mk t cuts).length = doorsOf t) := locks_len mk t cuts
  have HK1 := Lib.hid (fun (k : Nat) => keyLines_succ t cuts k)
  have HD1 := Lib.hid (fun (d : Nat) => doorLines_succ mk t cuts d)
  have HLn := Lib.hid (fun (k d : Nat) => lines_len mk t cuts k d)
  have HK0 : Hid ((makerV mk :: keyLines t cuts 0) ++ doorLines mk t cuts 0 = [makerV mk]) := rfl
  have HD0 : Hid (doorLines mk t cuts 0 = []) := rfl
  have HCh : Hid (strOf (Lib.join (((makerV mk :: keyLines t cuts cuts.length) ++ doorLines mk t cuts (doorsOf t)).map (·.data.toList)) [10]) ++ (⟨#[10]⟩ : ByteArray) = chartV mk t cuts) := chartD_join _ (by simp)
  have hbnd := part_size ok (Nat.le_refl _) (Nat.le_refl _)
  have hjl : (Lib.join (((makerV mk :: keyLines t cuts cuts.length) ++ doorLines mk t cuts (doorsOf t)).map (·.data.toList)) [10]).length ≤ 10000 := by
    have h1 := congrArg ByteArray.size HCh.out
    rw [size_app, strOf_size] at h1
    have h2 : (chartV mk t cuts).size ≤ 10000 := hbnd
    omega
  have HJn : Hid (∀ (w' : World) (B : Nat) (x : Value), OwnP Value.string 9 B w' x ((makerV mk :: keyLines t cuts cuts.length) ++ doorLines mk t cuts (doorsOf t)) → Calls Tryz.prog 57 #[x, .string ⟨#[10]⟩] w' (Ret w' fun r _ => r = .string (strOf (Lib.join (((makerV mk :: keyLines t cuts cuts.length) ++ doorLines mk t cuts (doorsOf t)).map (·.data.toList)) [10])))) := fun w' B x o => join_c w' x B _ o (by rw [lines_len]; have := ok.len; have := ok.eq; have := ok.doors; omega) ⟨#[10]⟩ (Nat.le_trans hjl (by decide))
  have hjz : (strOf (Lib.join (((makerV mk :: keyLines t cuts cuts.length) ++ doorLines mk t cuts (doorsOf t)).map (·.data.toList)) [10])).size ≤ 10000 := by rw [strOf_size]; exact hjl
  have hk10 : cuts.length ≤ 10 := by have := ok.len; have := ok.eq; omega
  have hd12 : doorsOf t ≤ 12 := ok.doors.2
  obtain ⟨a2, n2, cap2, rfl, hn2, -⟩ := SliceR.shape hc
  rw [← hn2] at HKl HCh HJn hjz hk10
  clear h hc ok hn2 hbnd hjl hT
  generalize strOf (Lib.join (((makerV mk :: keyLines t cuts n2) ++ doorLines mk t cuts (doorsOf t)).map (·.data.toList)) [10]) = jn at *
  generalize chartV mk t cuts = res at *
  generalize hkv : (fun m => doorLineV m (pinsAt mk t cuts m)) = dV at *
  have HDV : Hid (∀ m, doorLineV m (pinsAt mk t cuts m) = dV m) := fun m => by rw [← hkv]
  clear hkv
  generalize doorLines mk t cuts = dL at *
  generalize makerV mk = mV at *
  generalize keyLines t cuts = kL at *
  generalize keyLineV t cuts = kV at *
  generalize locks mk t cuts = ls at *
  generalize doorsOf t = D at *
  unfold sysV MK.v at *
  go_enter Tryz.func29, Tryz.ntmps29
  go_upto_region 1 with fail
  generalize hw0 : World.alloc w _ = w0
  obtain ⟨e0, S0⟩ := sys_box hw0
  clear hw0
  have HCel : Hid (∀ w', Ext w0 w' → w'.cell? ⟨w.heap.size, 0, none⟩ = some (.int .i64 mk.c) ∧ w'.cell? ⟨w.heap.size, 1, none⟩ = some (.int .i64 mk.d) ∧ w'.cell? ⟨w.heap.size, 2, none⟩ = some (.int .i64 mk.s) ∧ w'.cell? ⟨w.heap.size, 3, none⟩ = some (.int .i64 mk.m) ∧ w'.cell? ⟨w.heap.size, 4, none⟩ = some (.int .i64 mk.l) ∧ w'.cell? ⟨w.heap.size, 5, none⟩ = some (.slice a n cap)) := fun w' e => S0.all e
  have HMk1 := Lib.hid (fun (w' : World) (e : Ext w0 w') => HMk.out w' (e0.trans e))
  have HPl1 := Lib.hid (fun (w' : World) (e : Ext w0 w') => HPl.out w' (e0.trans e))
  clear S0 HMk HPl
  go_cut [5, 6] (fun s5 s6 wx => ChSt w0.heap.size w0 wx s5 s6 [mV] ls)
  case first =>
    go_region_held3 (fun w' => w'.cell? ⟨w.heap.size, 0, none⟩ = some (.int .i64 mk.c) ∧ w'.cell? ⟨w.heap.size, 1, none⟩ = some (.int .i64 mk.d) ∧ w'.cell? ⟨w.heap.size, 2, none⟩ = some (.int .i64 mk.s) ∧ w'.cell? ⟨w.heap.size, 3, none⟩ = some (.int .i64 mk.m) ∧ w'.cell? ⟨w.heap.size, 4, none⟩ = some (.int .i64 mk.l) ∧ w'.cell? ⟨w.heap.size, 5, none⟩ = some (.slice a n cap)) (exact HCel.out _ (by repeat (first | exact Ext.refl _ | assumption | (refine Ext.trans ?_ (Ext.alloc _ _)) | (refine Ext.trans ?_ (Ext.drew _)) | (refine Ext.trans ?_ (by assumption))))) (first | (go_at_call 53; (with_reducible refine (HMk1.out _ (by repeat (first | exact Ext.refl _ | assumption | (refine Ext.trans ?_ (Ext.alloc _ _)) | (refine Ext.trans ?_ (Ext.drew _)) | (refine Ext.trans ?_ (by assumption))))).mono ?_); rintro e w5 hr5; obtain ⟨r5, rfl, rfl, e5⟩ := ret_ext hr5; clear hr5; have ez5 : Ext w0 w5 := (by repeat (first | exact Ext.refl _ | assumption | (refine Ext.trans ?_ (Ext.alloc _ _)) | (refine Ext.trans ?_ (Ext.drew _)) | (refine Ext.trans ?_ (by assumption))))) | (go_at_call 54; (with_reducible refine (HPl1.out _ (by repeat (first | exact Ext.refl _ | assumption | (refine Ext.trans ?_ (Ext.alloc _ _)) | (refine Ext.trans ?_ (Ext.drew _)) | (refine Ext.trans ?_ (by assumption))))).mono ?_); rintro e w6 hr6; obtain ⟨r6, rfl, L6, e6⟩ := ret_ext hr6; clear hr6; have ez6 : Ext w0 w6 := (by repeat (first | exact Ext.refl _ | assumption | (refine Ext.trans ?_ (Ext.alloc _ _)) | (refine Ext.trans ?_ (Ext.drew _)) | (refine Ext.trans ?_ (by assumption))))) | fail)
    all_goals go_wp2_with fail
    all_goals go_meet
    all_goals first | exact chSt_a ez5 e6 L6 | exact chSt_b ez5 e6 L6
  case rest =>
    rename_i s5 s6 wc
    have HC0 := Lib.hid hcut
    obtain ⟨z6, hz6⟩ := hcut.locks
    obtain ⟨a6, n6, k6, rfl, hn6, -⟩ := SliceR.shape hz6
    rw [HLl.out] at hn6
    subst hn6
    have Hbs : Hid (Ext w w0) := e0
    clear hcut hz6 HMk1 HPl1 HLl
    have HKW := Lib.hid (fun (k : Nat) (hk : k < n2) (w' : World) (e : Ext w0 w') => HKl.out k hk w' (e0.trans e))
    have HDW := Lib.hid (fun (m : Nat) (hm : m < n6) (w' : World) (e : Ext w0 w') (x : Value) (zx : Zone) (g : LocksR zx w' x ls) => HDl.out m hm w' (e0.trans e) x zx g)
    clear HKl HDl
    go_wp2_with fail
    go_loopw [5, 7, 18] (fun s5 _ s18 wr => ∃ k : Nat, k ≤ n2 ∧ s18 = .int .i64 (k : Int) ∧ ChSt w0.heap.size w0 wr s5 (.slice a6 n6 k6) ((mV :: kL k) ++ dL 0) ls) (fun _ _ s18 _ => n2 - (intOf s18).toNat)
    case atStart => exact ⟨0, Nat.zero_le _, rfl, by rw [HK0.out]; exact HC0.out⟩
    case round =>
      obtain ⟨k, hk, rfl, hst⟩ := hrel
      have HSt := Lib.hid hst
      have own := hst.own
      obtain ⟨c0, c1, c2, c3, c4, c5⟩ := HCel.out wr hst.bel
      by_cases hlt : k < n2
      · have HK2 := Lib.hid (HKW.out k hlt wr hst.bel)
        have hln := HLn.out k 0
        obtain ⟨a5, n5, k5, rfl, -⟩ := OwnP.shape own
        have HKs := Lib.hid (HK1.out k)
        generalize kV k = km at *
        clear own hst
        go_wp2_with fail
        refine Calls.mono HK2.out ?_
        rintro e w4 hr
        obtain ⟨r, rfl, rfl, e4⟩ := ret_ext hr
        clear hr
        have st4 := HSt.out.ext e4
        go_wp2_with (at_builtin; (refine wpList_appendS (e := 9) (B := w0.heap.size) (xs := (mV :: kL k) ++ dL 0) rfl _ _ 42 rfl Tryz.underlying42 Tryz.infoStr rfl st4.own km rfl (by omega) st4.ge ?_); intro v6 w6 hown6 hg6 hb6 hat6)
        have HN : Hid (ChSt w0.heap.size w0 w6 v6 (.slice a6 n6 k6) ((mV :: kL (k + 1)) ++ dL 0) ls) := by
          have e2 : (mV :: kL (k + 1)) ++ dL 0 = ((mV :: kL k) ++ dL 0) ++ [km] := by rw [HKs.out, HD0.out]; simp
          rw [e2]
          exact st4.app hown6 hg6 hb6 hat6
        clear hown6 hg6 hb6 hat6 st4
        go_roundw
        case rel => exact ⟨k + 1, by omega, by go_num, HN.out⟩
        case measure => simp [intOf]; omega
      · have hkn : k = n2 := by omega
        subst hkn
        clear HK1 HKW hlt own
        obtain ⟨wo, rfl⟩ : ∃ wo, wo = wr := ⟨_, rfl⟩
        go_wp2_with fail
        go_loopw [5, 8, 31] (fun s5 _ s31 wr => ∃ d : Nat, d ≤ n6 ∧ s31 = .int .i64 (d : Int) ∧ ChSt w0.heap.size w0 wr s5 (.slice a6 n6 k6) ((mV :: kL k) ++ dL d) ls) (fun _ _ s31 _ => n6 - (intOf s31).toNat)
        case atStart => exact ⟨0, Nat.zero_le _, rfl, HSt.out⟩
        case round =>
          obtain ⟨d, hd, rfl, hst2⟩ := hrel
          have HSt2 := Lib.hid hst2
          have own := hst2.own
          have HC1 := HCel.out wr hst2.bel
          obtain ⟨f0, f1, f2, f3, f4, f5⟩ := HC1
          by_cases hlt : d < n6
          · obtain ⟨zz, hzz⟩ := hst2.locks
            have HD2 := Lib.hid (HDW.out d hlt wr hst2.bel _ zz hzz)
            rw [HDV.out] at HD2
            have hln := HLn.out k d
            obtain ⟨a5, n5, k5, rfl, -⟩ := OwnP.shape own
            have HDs := HD1.out d
            rw [HDV.out] at HDs
            have HDs2 := Lib.hid HDs
            generalize dV d = dm at *
            clear own hst2 hzz HDs
            go_wp2_with fail
            refine Calls.mono HD2.out ?_
            rintro e w4 hr
            obtain ⟨r, rfl, rfl, e4⟩ := ret_ext hr
            clear hr
            have st4 := HSt2.out.ext e4
            go_wp2_with (at_builtin; (refine wpList_appendS (e := 9) (B := w0.heap.size) (xs := (mV :: kL k) ++ dL d) rfl _ _ 42 rfl Tryz.underlying42 Tryz.infoStr rfl st4.own dm rfl (by omega) st4.ge ?_); intro v6 w6 hown6 hg6 hb6 hat6)
            have HN : Hid (ChSt w0.heap.size w0 w6 v6 (.slice a6 n6 k6) ((mV :: kL k) ++ dL (d + 1)) ls) := by
              have e2 : (mV :: kL k) ++ dL (d + 1) = ((mV :: kL k) ++ dL d) ++ [dm] := by rw [HDs2.out]; simp
              rw [e2]
              exact st4.app hown6 hg6 hb6 hat6
            clear hown6 hg6 hb6 hat6 st4
            go_roundw
            case rel => exact ⟨d + 1, by omega, by go_num, HN.out⟩
            case measure => simp [intOf]; omega
          · have hdn : d = n6 := by omega
            subst hdn
            have HJ2 := Lib.hid (HJn.out wr _ _ own)
            have hbl : Ext w wr := Hbs.out.trans hst2.bel
            have hs1 : ¬ (9223372036854775807 < jn.size + 1) := by omega
            obtain ⟨a5, n5, k5, rfl, -⟩ := OwnP.shape own
            clear own hst2 HJn HSt HSt2
            go_wp2_with fail
            refine Calls.mono HJ2.out ?_
            rintro e w4 hr
            obtain ⟨r, rfl, rfl, e4⟩ := ret_ext hr
            clear hr
            go_wp2_with fail
            go_ret
            exact ⟨_, rfl, by rw [← HCh.out]; rfl, hbl.trans e4⟩

set_option maxRecDepth 20000 in
set_option maxHeartbeats 1000000 in
theorem ChartText_c (w : World) (hT : Pow10 w) (mk : MK) (v : Value) (z : Zone) (t : List (List Int)) (h : RowsR z w v t) (u : Value) (y : Zone) (cuts : List (List Int)) (hc : RowsR y w u cuts) :
    Calls Tryz.prog 15 #[sysV mk v, u] w (Ret w fun r _ => r = StrCode (chartM mk t cuts)) := by
  have HD := Lib.hid (fun (w' : World) (e : Ext w w') => designCode_c w' mk v z t (stable_rows.ext h e) u y cuts (stable_rows.ext hc e))
  have HK := Lib.hid (fun (h0 : designCode mk t cuts = 0) (w' : World) (e : Ext w w') => chartText_c w' (hT.ext e) mk v z t (stable_rows.ext h e) u y cuts (stable_rows.ext hc e) (designCode_zero h0))
  have H1 : Hid (designCode mk t cuts ≠ 0 → chartM mk t cuts = (⟨#[]⟩, designCode mk t cuts)) := chart_bad
  have H2 : Hid (designCode mk t cuts = 0 → 240 < (chartV mk t cuts).size → chartM mk t cuts = (⟨#[]⟩, 3)) := chart_long
  have H3 : Hid (designCode mk t cuts = 0 → ¬ 240 < (chartV mk t cuts).size → chartM mk t cuts = (chartV mk t cuts, 0)) := chart_ok
  obtain ⟨a, n, cap, rfl, -⟩ := SliceR.shape h
  obtain ⟨a2, n2, cap2, rfl, -⟩ := SliceR.shape hc
  clear h hc hT
  generalize chartV mk t cuts = cV at *
  generalize chartM mk t cuts = res at *
  generalize designCode mk t cuts = dc at *
  unfold sysV at *
  go_enter Tryz.func15, Tryz.ntmps15
  go_wp2_with fail
  generalize hw0 : World.alloc _ _ = w0
  obtain ⟨e0, S0⟩ := sys_box hw0
  clear hw0
  have HS := Lib.hid S0
  refine Calls.mono (HD.out w0 e0) ?_
  rintro e w1 hr
  obtain ⟨r, rfl, rfl, e1⟩ := ret_ext hr
  clear hr S0
  have et := e0.trans e1
  obtain ⟨c0, c1, c2, c3, c4, c5⟩ := HS.out.all e1
  by_cases hd : dc = 0
  · have hb : (dc != 0) = false := by rw [hd]; rfl
    have H2' := Lib.hid (H2.out hd)
    have H3' := Lib.hid (H3.out hd)
    have HK' := Lib.hid (HK.out hd w1 et)
    clear H1 H2 H3 HK HD
    subst hd
    go_wp2_with fail
    refine Calls.mono HK'.out ?_
    rintro e w2 hr
    obtain ⟨r, rfl, rfl, e2⟩ := ret_ext hr
    clear hr
    by_cases hl : 240 < cV.size
    · have hb1 : decide ((240 : Int) < (cV.size : Int)) = true := decide_eq_true (by omega)
      have hb2 : decide (240 < cV.size) = true := decide_eq_true hl
      have HH := Lib.hid (H2'.out hl)
      clear H2' H3'
      go_wp2_with fail
      go_ret2
      exact ⟨_, rfl, by rw [HH.out]; rfl, et.trans e2⟩
    · have hb1 : decide ((240 : Int) < (cV.size : Int)) = false := decide_eq_false (by omega)
      have hb2 : decide (240 < cV.size) = false := decide_eq_false hl
      have HH := Lib.hid (H3'.out hl)
      clear H2' H3'
      go_wp2_with fail
      go_ret2
      exact ⟨_, rfl, by rw [HH.out]; rfl, et.trans e2⟩
  · have hb : (dc != 0) = true := by rw [bne_iff_ne]; exact hd
    have HH := Lib.hid (H1.out hd)
    clear H1 H2 H3 HK HD
    go_wp2_with fail
    go_ret2
    exact ⟨_, rfl, by rw [HH.out]; rfl, et⟩
end Go.Proofs.YtkeikjedbfomnaaGreatDoor
