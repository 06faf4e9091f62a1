/- Proved: AddDoor of the reference. -/
import Derived.Test.YthgmojggpjnckaaGreatChecked
import Derived.Deep.RegionHeld3
import Derived.Test.YthgmojggpjnckaaGreatUAddLaw
import Derived.Test.YthgmojggpjnckaaGreatUPkE
import Derived.Test.YthgmojggpjnckaaGreatURowCodeSpec
namespace Go.Proofs.YthgmojggpjnckaaGreat
open Go.ChangeShapes Go.WideShapes Go.ChangeAt Go.RowKit
set_option linter.unusedVariables false


set_option maxRecDepth 20000 in
set_option maxHeartbeats 2000000 in
theorem AddDoorSpec_c (w : World) (mk : MK) (v : Value) (z : Zone) (t : List (List Int)) (h : RowsR z w v t) (u : Value) (y : Zone) (cuts : List (List Int)) (hc : RowsR y w u cuts) (v3 : Value) (z3 : Zone) (col : List Int) (hcol : IntsR z3 w v3 col) :
    Calls Tryz.prog 23 #[sysV mk v, u, v3] w (Ret w (SysRes w (addDoor mk t cuts col))) := by
  have H1 : Hid (designCode mk t cuts ≠ 0 → addDoor mk t cuts col = ((noSys, []), designCode mk t cuts)) := addDoor_bad
  have H2 : Hid (designCode mk t cuts = 0 → entB t.length col = false → addDoor mk t cuts col = ((noSys, []), 2)) := addDoor_range
  have H3 : Hid (designCode mk t cuts = 0 → entB t.length col = true → doorsOf t = 12 → addDoor mk t cuts col = ((noSys, []), 3)) := addDoor_most
  have H4 : Hid (designCode mk t cuts = 0 → entB t.length col = true → doorsOf t ≠ 12 → isDesign mk (addCol t col) cuts = false → addDoor mk t cuts col = ((noSys, []), 5)) := addDoor_state
  have H5 : Hid (designCode mk t cuts = 0 → entB t.length col = true → doorsOf t ≠ 12 → isDesign mk (addCol t col) cuts = true → addDoor mk t cuts col = ((mk, addCol t col), 0)) := addDoor_ok
  have HEL : Hid (entB t.length col = true → col.length = t.length) := entB_len
  have HOK : Hid (designCode mk t cuts = 0 → DesignOk mk t cuts) := designCode_zero
  have HC1 := Lib.hid (fun (w' : World) (e : Ext w w') => l21Code_c w' mk v z t (stable_rows.ext h e) u y cuts (stable_rows.ext hc e))
  have HC2 : Hid (∀ w', Ext w w' → Calls Tryz.prog 77 #[v3, .int .i64 t.length] w' (RetQ w' (.bool (entB t.length col)))) := fun w' e => l24Entries_c w' v3 z3 col t.length (stable_ints.ext hcol e)
  have HC3 := Lib.hid (fun (w' : World) (e : Ext w w') (v' : Value) (z' : Zone) (g : RowsR z' w' v' (addCol t col)) => IsDesignSpec_c w' mk v' z' (addCol t col) g u y cuts (stable_rows.ext hc e))
  have HCol := Lib.hid (fun (w' : World) (e : Ext w w') => stable_ints.ext hcol e)
  have HR0 : Hid (DesignOk mk t cuts → ∃ a n cap b off a0 c0, v = .slice a n cap ∧ n = t.length ∧ a = some ⟨b, off, none⟩ ∧ 0 < n ∧ ∀ w', Ext w w' → w'.cell? ⟨b, off, none⟩ = some (.slice a0 (doorsOf t) c0)) := fun ok => by
    obtain ⟨a, n, cap, rfl, hn, -⟩ := SliceR.shape h
    have hl := ok.len
    obtain ⟨b, off, rfl, a0, m, cp, hmE, hmm, -, hcr, -⟩ := rows_at h (k := 0) (by omega)
    have hm : m = doorsOf t := hmE
    subst hm
    exact ⟨_, n, cap, b, off, a0, cp, rfl, hn, rfl, by omega, fun w' e => by have := hcr w' e; rwa [Nat.add_zero] at this⟩
  have HT := Lib.hid (fun (a : Option Addr) (n cap : Nat) (hv : v = .slice a n cap) (k : Nat) (hk : k < n) => rows_at (hv ▸ h) hk)
  generalize hrc : designCode mk t cuts = rc at *
  generalize addDoor mk t cuts col = res at *
  obtain ⟨a, n, cap, rfl, hn, -⟩ := SliceR.shape h
  obtain ⟨a2, n2, cap2, rfl, -⟩ := SliceR.shape hc
  obtain ⟨a3, n3, cap3, rfl, hn3, -⟩ := SliceR.shape hcol
  have Hn3 := Lib.hid hn3
  rw [← hn] at H2 H3 H4 H5 HEL HC2
  clear hn3 hcol
  replace HT := Lib.hid (fun (k : Nat) (hk : k < n) => HT.out a n cap rfl k hk)
  clear h hc hrc
  have Hn := Lib.hid hn
  clear hn
  unfold sysV at *
  go_enter Tryz.func23, Tryz.ntmps23
  go_wp2_with fail
  generalize hw1 : World.alloc _ _ = w1
  obtain ⟨e1, S0, R0, hz1⟩ := two_box hw1
  clear hw1
  refine Calls.mono (HC1.out w1 e1) ?_
  rintro e w2 hr
  obtain ⟨r, rfl, rfl, e2⟩ := ret_ext hr
  clear hr
  have et := e1.trans e2
  replace S0 := S0.ext e2
  replace R0 := R0.ext e2
  by_cases hd0 : rc = 0
  · have ok := HOK.out hd0
    obtain ⟨av, nv, cv, b, off, a0, c0, hv, hnt, ha, hn0, hcr⟩ := HR0.out ok
    injection hv with hv1 hv2 hv3
    subst hv1; subst hv2; subst hv3; subst ha
    have hdo := ok.doors
    have HL := Lib.hid ok.row
    have hn10 : n ≤ 10 := by have := ok.len; omega
    clear HR0 HC1 HOK hnt
    have S00 := S0
    obtain ⟨c0', c1', c2', c3', c4', c5'⟩ := S0
    have hb0 : (rc != 0) = false := by rw [hd0]; rfl
    replace H2 := Lib.hid (H2.out hd0)
    replace H3 := Lib.hid (H3.out hd0)
    replace H4 := Lib.hid (H4.out hd0)
    replace H5 := Lib.hid (H5.out hd0)
    have hdm : doorsOf t ≤ 12 := hdo.2
    have hdm1 : 1 ≤ doorsOf t := hdo.1
    clear H1 hd0 hdo ok
    generalize doorsOf t = m at *
    have hcall := HC2.out w2 et
    clear HC2
    go_wp2_with fail
    refine Calls.mono hcall ?_
    rintro e w3 ⟨rfl, hd3⟩
    have e3 := Ext.ofDrew hd3
    clear hd3 hcall
    replace et := et.trans e3
    replace S00 := S00.ext e3
    have R := R0.ext e3
    have hrow := hcr w3 et
    clear c0' c1' c2' c3' c4' c5' R0
    obtain ⟨c0', c1', c2', c3', c4', c5'⟩ := S00
    cases hq : entB n col with
    | false =>
      have HH := Lib.hid (H2.out hq)
      clear H2 H3 H4 H5 hq HL HT HEL
      have R' := R
      obtain ⟨d0, d1, d2, d3, d4, d5, f0, f1, f2, f3, f4, f5⟩ := R'
      go_wp2_with fail
      generalize hwF : World.setCell _ _ _ = wF
      obtain ⟨wi, y0, y1, y2, y3, y4, y5⟩ := ResAt.fill R hwF
      have eF : Ext w wF := wi.above (Nat.le_succ _) et
      clear hwF
      refine bodyPost_ret (v := .tuple #[sysV noSys (.slice none 0 0), .int .i64 2]) (by simp [results, Tryz.results23, go_sem, y0, y1, y2, y3, y4, y5, sysV, noSys]) rfl ⟨_, rfl, SysRes.bad HH.out, eF⟩
    | true =>
      replace H3 := Lib.hid (H3.out hq)
      replace H4 := Lib.hid (H4.out hq)
      replace H5 := Lib.hid (H5.out hq)
      have hcl : n3 = n := by rw [Hn3.out]; exact HEL.out hq
      clear H2 hq HEL
      subst hcl
      by_cases h1 : m = 12
      · have HH := Lib.hid (H3.out h1)
        have hb1 : ((m : Int) == 12) = true := by rw [h1]; rfl
        clear H3 H4 H5 h1 HL HT
        have R' := R
        obtain ⟨d0, d1, d2, d3, d4, d5, f0, f1, f2, f3, f4, f5⟩ := R'
        go_wp2_with fail
        generalize hwF : World.setCell _ _ _ = wF
        obtain ⟨wi, y0, y1, y2, y3, y4, y5⟩ := ResAt.fill R hwF
        have eF : Ext w wF := wi.above (Nat.le_succ _) et
        clear hwF
        refine bodyPost_ret (v := .tuple #[sysV noSys (.slice none 0 0), .int .i64 3]) (by simp [results, Tryz.results23, go_sem, y0, y1, y2, y3, y4, y5, sysV, noSys]) rfl ⟨_, rfl, SysRes.bad HH.out, eF⟩
      · have hb1 : ((m : Int) == 12) = false := by rw [beq_eq_false_iff_ne]; omega
        replace H4 := Lib.hid (H4.out h1)
        replace H5 := Lib.hid (H5.out h1)
        clear H3 h1
        have HA : Hid (∀ w', Ext w3 w' → SysAt w' w.heap.size mk (.slice (some ⟨b, off, none⟩) n3 cap)) := fun w' e => SysAt.ext ⟨c0', c1', c2', c3', c4', c5'⟩ e
        have HR := Lib.hid (fun (w' : World) (e : Ext w3 w') => R.ext e)
        have HE := Lib.hid (fun (w' : World) (e : Ext w3 w') => et.trans e)
        clear R et e1 e2 e3 hcr
        go_wp2_with fail
        generalize hw4 : World.alloc _ _ = w4
        obtain ⟨e4, o4⟩ : Ext w3 w4 ∧ OwnR true w3.heap.size IntsR 41 w3.heap.size w4 (.slice (some ⟨w3.heap.size, 0, none⟩) 0 0) [] := by
          subst hw4
          exact ⟨Ext.alloc _ _, OwnR.empty (Nat.le_refl _)⟩
        clear hw4 hrow c0' c1' c2' c3' c4' c5'
        go_loopw [9, 10] (fun o s wr => ∃ k : Nat, k ≤ n3 ∧ s = .int .i64 k ∧ OwnR true w3.heap.size IntsR 41 w3.heap.size wr o (mapI (addRow col) t k) ∧ Ext w3 wr) (fun _ s _ => n3 - (intOf s).toNat)
        case atStart => exact ⟨0, Nat.zero_le _, rfl, o4, e4⟩
        case round =>
          obtain ⟨k, hk, rfl, own, ew⟩ := hrel
          have hsz := ew.size
          obtain ⟨v0, v1, v2, v3, v4, v5⟩ := HA.out wr ew
          by_cases hlt : k < n3
          · obtain ⟨bk, ok, hae, a1, n1, k1, hn1, hm1, hcp, hc, ⟨y1, -, hy⟩, -⟩ := HT.out k hlt
            injection hae with hae
            injection hae with hae1 hae2 _
            subst hae1; subst hae2
            have hlr := HL.out k (by rw [← Hn.out]; exact hlt)
            rw [← hn1] at hlr
            subst hlr
            have hcw := hc wr (HE.out wr ew)
            obtain ⟨bc, oc, rfl, HCx, hci⟩ : ∃ bc oc, a3 = some ⟨bc, oc, none⟩ ∧ Hid (∀ w', Ext w3 w' → w'.cell? ⟨bc, oc + k, none⟩ = some (.int .i64 (col.getD k 0))) ∧ I64 (col.getD k 0) := by
              obtain ⟨a', n', c', he, hn', -, -, -, -, hel⟩ := IntsR.shape (HCol.out w3 (HE.out w3 (Ext.refl _)))
              injection he with he1 he2 he3
              obtain ⟨b1, o1, he4, hc1, hi1, -⟩ := hel k (by omega)
              exact ⟨b1, o1, by rw [he1, he4], fun w' e => e.cell hc1, hi1⟩
            have hm64 := IntsR.mem (hy wr (HE.out wr ew))
            have HO : Hid (∀ w', Ext wr w' → Calls Tryz.prog 78 #[.slice a1 n1 k1] w' (Ret w' fun r w'' => OwnP (Value.int .i64) 2 w'.heap.size w'' r (t.getD k []))) := fun w' e =>
              l01Own_c w' _ y1 _ (hy w' ((HE.out wr ew).trans e)) (by omega)
            have HM : Hid (∀ x ∈ addRow col k (t.getD k []), I64 x) := fun x hx => by
              rcases List.mem_append.1 hx with h | h
              · exact hm64 x h
              · rw [List.mem_singleton.1 h]; exact hci
            have Hown := Lib.hid own
            have HS : Hid (mapI (addRow col) t (k + 1) = mapI (addRow col) t k ++ [addRow col k (t.getD k [])]) := mapI_succ _ _ _
            have HLn : Hid ((mapI (addRow col) t k).length = k) := mapI_len _ _ _
            have Hrl : Hid ((t.getD k []).length ≤ 12) := by show _ ≤ _; omega
            have hcx := HCx.out wr ew
            have HAR : Hid (addRow col k (t.getD k []) = t.getD k [] ++ [col.getD k 0]) := rfl
            generalize mapI (addRow col) t k = us at *
            generalize addRow col k (t.getD k []) = row' at *
            generalize col.getD k 0 = x at *
            clear own hy hm64 hn1
            have HALL : Hid (∀ w', Below w3.heap.size wr w' → w'.cell? ⟨w.heap.size, 5, none⟩ = some (.slice (some ⟨b, off, none⟩) n3 cap) ∧ w'.cell? ⟨b, off + k, none⟩ = some (.slice a1 n1 k1) ∧ w'.cell? ⟨bc, oc + k, none⟩ = some (.int .i64 x)) := fun w' e => by
              have e3' : Ext w3 w' := Below.trans ew e
              exact ⟨(HA.out w' e3').c5, hc w' (HE.out w' e3'), HCx.out w' e3'⟩
            clear HCx hc
            go_wp2_with fail
            go_region_held3 (fun w' => w'.cell? ⟨w.heap.size, 5, none⟩ = some (.slice (some ⟨b, off, none⟩) n3 cap) ∧ w'.cell? ⟨b, off + k, none⟩ = some (.slice a1 n1 k1) ∧ w'.cell? ⟨bc, oc + k, none⟩ = some (.int .i64 x)) (first | exact HALL.out _ b9 | exact HALL.out _ (Below.mono (show Ext wr _ from (by repeat (first | exact Ext.refl _ | assumption | (refine Ext.trans ?_ (Ext.alloc _ _)) | (refine Ext.trans ?_ (Ext.drew _)) | (refine Ext.trans ?_ (by assumption))))) hsz)) (first | (go_at_call 78; refine (HO.out _ (by repeat (first | exact Ext.refl _ | assumption | (refine Ext.trans ?_ (Ext.alloc _ _)) | (refine Ext.trans ?_ (Ext.drew _)) | (refine Ext.trans ?_ (by assumption))))).mono ?_; rintro e w7 hr7; obtain ⟨r7, rfl, o7, e7⟩ := ret_ext hr7; clear hr7; clear v0 v1 v2 v3 v4 v5 hcw hcx; have o7' := OwnP.lower (B' := wr.heap.size) o7 (Ext.size (by repeat (first | exact Ext.refl _ | assumption | (refine Ext.trans ?_ (Ext.alloc _ _)) | (refine Ext.trans ?_ (Ext.drew _)) | (refine Ext.trans ?_ (by assumption))))); obtain ⟨a7, n7, k7, rfl, -⟩ := OwnP.shape o7') | (refine step_append_of (by rfl) _ _ 41 (by rfl) (by rfl) (by rfl) (fun ty => run_appendR (f := Value.int .i64) (B := wr.heap.size) 41 ty 0 8 Tryz.underlying41 Tryz.infoI64 rfl (fun _ => rfl) (OwnP.ext o7' (by repeat (first | exact Ext.refl _ | assumption | (refine Ext.trans ?_ (Ext.alloc _ _)) | (refine Ext.trans ?_ (Ext.drew _)) | (refine Ext.trans ?_ (by assumption))))) (E := IntR) (fun h => h.1) (ys := [x]) (by first | exact ints_one _ x _ hci | exact stable_ints.ext (ints_one _ x _ hci) (by repeat (first | exact Ext.refl _ | assumption | (refine Ext.trans ?_ (Ext.alloc _ _)) | (refine Ext.trans ?_ (Ext.drew _)) | (refine Ext.trans ?_ (by assumption))))) (by have := Hrl.out; rw [List.length_singleton]; omega) (by decide) (Ext.size (by repeat (first | exact Ext.refl _ | assumption | (refine Ext.trans ?_ (Ext.alloc _ _)) | (refine Ext.trans ?_ (Ext.drew _)) | (refine Ext.trans ?_ (by assumption)))))) ?_; intro v8 w8 h8; obtain ⟨o8, -, b8, -⟩ := h8; have e8 : Ext wr w8 := Ext.to' (a := wr) (by repeat (first | exact Ext.refl _ | assumption | (refine Ext.trans ?_ (Ext.alloc _ _)) | (refine Ext.trans ?_ (Ext.drew _)) | (refine Ext.trans ?_ (by assumption)))) b8; clear b8; rw [← HAR.out] at o8; obtain ⟨a8, n8, k8, rfl, -⟩ := OwnP.shape o8) | (refine step_append_of (by rfl) _ _ 30 (by rfl) (by rfl) (by rfl) (fun ty => run_rowA 30 ty Tryz.underlying30 Tryz.infoInts Hown.out e8 o8 HM.out rfl (by have := HLn.out; omega) ew.size ew.size) ?_; intro v9 w9 h9; obtain ⟨o9, b9, a9, n9, k9, rfl, -⟩ := h9) | fail)
            all_goals (go_wp2_with fail; go_roundw)
            any_goals (simp [intOf]; omega)
            all_goals exact ⟨k + 1, by omega, by go_num, by rw [HS.out]; exact o9, Below.trans ew b9⟩
          · have hkn : k = t.length := by rw [← Hn.out]; omega
            have hz3 : w.heap.size + 1 < w3.heap.size := (HR.out w3 (Ext.refl _)).lt
            have hA : mapI (addRow col) t k = addCol t col := by rw [hkn]; rfl
            rw [hA] at own
            have hr := OwnR.reads own (Nat.le_refl _)
            obtain ⟨a6, n6, c6, rfl, -⟩ := OwnA.shape own
            clear own HT HL hkn hA HCol
            go_wp2_with fail
            generalize hwB : World.alloc _ _ = wB
            have hB := boxAlloc (w3 := w3) stable_ints hr (Nat.le_refl _) (Nat.le_refl _) ew hwB
            clear hwB
            generalize wr.heap.size = X at *
            obtain ⟨L, H, hL, hH, hX, hX0, hrows, hS, eB⟩ := hB
            have hcall := HC3.out wB (HE.out wB eB) _ _ hrows
            have hS' := hS
            obtain ⟨x0, x1, x2, x3, x4, x5⟩ := hS'
            clear HA v0 v1 v2 v3 v4 v5
            go_wp2_with fail
            refine Calls.mono hcall ?_
            rintro e wC hr
            obtain ⟨r, rfl, rfl, eC⟩ := ret_ext hr
            clear hr hcall x0 x1 x2 x3 x4 x5
            replace hS := hS.ext eC
            replace hrows := stable_rows.ext hrows eC
            replace hH : H ≤ wC.heap.size := Nat.le_trans hH eC.size
            replace eB := eB.trans eC
            clear eC
            have R := HR.out wC eB
            have R' := R
            obtain ⟨d0, d1, d2, d3, d4, d5, f0, f1, f2, f3, f4, f5⟩ := R'
            have et := HE.out wC eB
            cases hi : isDesign mk (addCol t col) cuts with
            | false =>
              have HH := Lib.hid (H4.out hi)
              clear H4 H5 hi hrows hS
              go_wp2_with fail
              generalize hwF : World.setCell _ _ _ = wF
              obtain ⟨wi, y0, y1, y2, y3, y4, y5⟩ := ResAt.fill R hwF
              have eF : Ext w wF := wi.above (Nat.le_succ _) et
              clear hwF
              refine bodyPost_ret (v := .tuple #[sysV noSys (.slice none 0 0), .int .i64 5]) (by simp [results, Tryz.results23, go_sem, y0, y1, y2, y3, y4, y5, sysV, noSys]) rfl ⟨_, rfl, SysRes.bad HH.out, eF⟩
            | true =>
              have HH := Lib.hid (H5.out hi)
              clear H4 H5 hi
              obtain ⟨x0, x1, x2, x3, x4, x5⟩ := hS
              go_wp2_with fail
              generalize hwF : World.setCell _ _ _ = wF
              obtain ⟨wi, y0, y1, y2, y3, y4, y5⟩ := ResAt.fill R hwF
              have eF : Ext w wF := wi.above (Nat.le_succ _) et
              clear hwF
              refine bodyPost_ret (v := .tuple #[sysV mk (.slice a6 n6 c6), .int .i64 0]) (by simp [results, Tryz.results23, go_sem, y0, y1, y2, y3, y4, y5, sysV]) rfl ⟨_, rfl, ?_, eF⟩
              rw [HH.out]
              have hsF := wi.size
              refine ⟨_, rfl, stable_rows.sub (stable_rows.within hrows wi (fun q h1 h2 => by have q1 := h1.1; have q2 := h2.2; simp only at q1 q2; omega)) ⟨fun q hq => ⟨?_, ?_⟩, fun _ => rfl⟩⟩
              · have q1 := hq.1; simp only [Zone.new] at *; omega
              · have q2 := hq.2; simp only [Zone.new] at *; omega
  · have hb : (rc != 0) = true := by rw [bne_iff_ne]; exact hd0
    have HH := Lib.hid (H1.out hd0)
    clear hd0 H1 H2 H3 H4 H5 HOK HC1 HC2 HC3 HCol HEL HR0 Hn S0 HT
    have R := R0
    obtain ⟨d0, d1, d2, d3, d4, d5, f0, f1, f2, f3, f4, f5⟩ := R0
    go_wp2_with fail
    generalize hwF : World.setCell _ _ _ = wF
    obtain ⟨wi, y0, y1, y2, y3, y4, y5⟩ := ResAt.fill R hwF
    have eF : Ext w wF := wi.above (Nat.le_succ _) et
    clear hwF
    refine bodyPost_ret (v := .tuple #[sysV noSys (.slice none 0 0), .int .i64 rc]) (by simp [results, Tryz.results23, go_sem, y0, y1, y2, y3, y4, y5, sysV, noSys]) rfl ⟨_, rfl, SysRes.bad HH.out, eF⟩
end Go.Proofs.YthgmojggpjnckaaGreat
