/- Proved: DropDoor of the reference. -/
import Derived.Test.YthgmojggpjnckaaGreatChecked
import Derived.Deep.RegionHeld3
import Derived.Test.YthgmojggpjnckaaGreatUDropLaw
import Derived.Test.YthgmojggpjnckaaGreatUPkE
namespace Go.Proofs.YthgmojggpjnckaaGreat
open Go.ChangeShapes Go.WideShapes Go.ChangeAt Go.RowKit
set_option linter.unusedVariables false


set_option maxRecDepth 20000 in
set_option maxHeartbeats 2000000 in
theorem DropDoorSpec_c (w : World) (mk : MK) (v : Value) (z : Zone) (t : List (List Int)) (h : RowsR z w v t) (u : Value) (y : Zone) (cuts : List (List Int)) (hc : RowsR y w u cuts) (d : Int) (hd : I64 d) :
    Calls Tryz.prog 26 #[sysV mk v, u, .int .i64 d] w (Ret w (SysRes w (dropDoor mk t cuts d))) := by
  have H1 : Hid (designCode mk t cuts ≠ 0 → dropDoor mk t cuts d = ((noSys, []), designCode mk t cuts)) := dropDoor_bad
  have H2 : Hid (designCode mk t cuts = 0 → inB d 0 ((doorsOf t : Int) - 1) = false → dropDoor mk t cuts d = ((noSys, []), 2)) := dropDoor_range
  have H3 : Hid (designCode mk t cuts = 0 → inB d 0 ((doorsOf t : Int) - 1) = true → doorsOf t = 1 → dropDoor mk t cuts d = ((noSys, []), 5)) := dropDoor_one
  have H4 : Hid (designCode mk t cuts = 0 → inB d 0 ((doorsOf t : Int) - 1) = true → doorsOf t ≠ 1 → dropDoor mk t cuts d = ((mk, mapI (fun _ r => delAt d.toNat r) t t.length), 0)) := dropDoor_ok
  have HOK : Hid (designCode mk t cuts = 0 → DesignOk mk t cuts) := designCode_zero
  have HC1 := Lib.hid (fun (w' : World) (e : Ext w w') => l21Code_c w' mk v z t (stable_rows.ext h e) u y cuts (stable_rows.ext hc e))
  have HC2 : Hid (DesignOk mk t cuts → ∀ w', Ext w w' → Calls Tryz.prog 72 #[sysV mk v, .int .i64 0, .int .i64 d] w' (Ret w' fun r _ => r = .bool (inB d 0 ((doorsOf t : Int) - 1)))) := fun ok w' e => by
    have hl := ok.len
    have := l15Pair_c w' mk v z t (stable_rows.ext h e) (by omega) 0 d
    have e2 : pairB t 0 d = inB d 0 ((doorsOf t : Int) - 1) := by
      unfold pairB
      have : inB 0 0 ((t.length : Int) - 1) = true := inB_iff.2 ⟨by omega, by omega⟩
      rw [this, Bool.true_and]
    rwa [e2] at this
  have HR0 : Hid (DesignOk mk t cuts → ∃ a n cap b off a0 c0, v = .slice a n cap ∧ n = t.length ∧ a = some ⟨b, off, none⟩ ∧ 0 < n ∧ ∀ w', Ext w w' → w'.cell? ⟨b, off, none⟩ = some (.slice a0 (doorsOf t) c0)) := fun ok => by
    obtain ⟨a, n, cap, rfl, hn, -⟩ := SliceR.shape h
    have hl := ok.len
    obtain ⟨b, off, rfl, a0, m, cp, hmE, hmm, -, hcr, -⟩ := rows_at h (k := 0) (by omega)
    have hm : m = doorsOf t := hmE
    subst hm
    exact ⟨_, n, cap, b, off, a0, cp, rfl, hn, rfl, by omega, fun w' e => by have := hcr w' e; rwa [Nat.add_zero] at this⟩
  have HT := Lib.hid (fun (a : Option Addr) (n cap : Nat) (hv : v = .slice a n cap) (k : Nat) (hk : k < n) => rows_at (hv ▸ h) hk)
  generalize hrc : designCode mk t cuts = rc at *
  generalize dropDoor mk t cuts d = res at *
  obtain ⟨a, n, cap, rfl, hn, -⟩ := SliceR.shape h
  obtain ⟨a2, n2, cap2, rfl, -⟩ := SliceR.shape hc
  replace HT := Lib.hid (fun (k : Nat) (hk : k < n) => HT.out a n cap rfl k hk)
  clear h hc hrc
  have Hn := Lib.hid hn
  clear hn
  unfold sysV at *
  go_enter Tryz.func26, Tryz.ntmps26
  go_wp2_with fail
  generalize hw1 : World.alloc _ _ = w1
  obtain ⟨e1, S0, R0, hz1⟩ := two_box hw1
  clear hw1
  refine Calls.mono (HC1.out w1 e1) ?_
  rintro e w2 hr
  obtain ⟨r, rfl, rfl, e2⟩ := ret_ext hr
  clear hr
  have et := e1.trans e2
  replace S0 := S0.ext e2
  replace R0 := R0.ext e2
  by_cases hd0 : rc = 0
  · have ok := HOK.out hd0
    obtain ⟨av, nv, cv, b, off, a0, c0, hv, hnt, ha, hn0, hcr⟩ := HR0.out ok
    injection hv with hv1 hv2 hv3
    subst hv1; subst hv2; subst hv3; subst ha
    have hdo := ok.doors
    have HG := Lib.hid (HC2.out ok)
    have HL := Lib.hid ok.row
    have hn10 : n ≤ 10 := by have := ok.len; omega
    clear HC2 HR0 HC1 HOK hnt
    have S00 := S0
    obtain ⟨c0', c1', c2', c3', c4', c5'⟩ := S0
    have hb0 : (rc != 0) = false := by rw [hd0]; rfl
    replace H2 := Lib.hid (H2.out hd0)
    replace H3 := Lib.hid (H3.out hd0)
    replace H4 := Lib.hid (H4.out hd0)
    have hdm : doorsOf t ≤ 12 := hdo.2
    have hdm1 : 1 ≤ doorsOf t := hdo.1
    clear H1 hd0 hdo ok
    generalize doorsOf t = m at *
    have hcall := HG.out w2 et
    clear HG
    go_wp2_with fail
    refine Calls.mono hcall ?_
    rintro e w3 hr
    obtain ⟨r, rfl, rfl, e3⟩ := ret_ext hr
    clear hr hcall
    replace et := et.trans e3
    replace S00 := S00.ext e3
    have R := R0.ext e3
    have hrow := hcr w3 et
    clear c0' c1' c2' c3' c4' c5' R0
    obtain ⟨c0', c1', c2', c3', c4', c5'⟩ := S00
    cases hq : inB d 0 ((m : Int) - 1) with
    | false =>
      have HH := Lib.hid (H2.out hq)
      clear H2 H3 H4 hq HL HT
      have R' := R
      obtain ⟨d0, d1, d2, d3, d4, d5, f0, f1, f2, f3, f4, f5⟩ := R'
      go_wp2_with fail
      generalize hwF : World.setCell _ _ _ = wF
      obtain ⟨wi, y0, y1, y2, y3, y4, y5⟩ := ResAt.fill R hwF
      have eF : Ext w wF := wi.above (Nat.le_succ _) et
      clear hwF
      refine bodyPost_ret (v := .tuple #[sysV noSys (.slice none 0 0), .int .i64 2]) (by simp [results, Tryz.results26, go_sem, y0, y1, y2, y3, y4, y5, sysV, noSys]) rfl ⟨_, rfl, SysRes.bad HH.out, eF⟩
    | true =>
      replace H3 := Lib.hid (H3.out hq)
      replace H4 := Lib.hid (H4.out hq)
      obtain ⟨g1, g2⟩ := inB_iff.1 hq
      obtain ⟨dn, rfl⟩ := Int.eq_ofNat_of_zero_le g1
      have hdn : dn < m := by omega
      clear H2 hq g1 g2
      by_cases h1 : m = 1
      · have HH := Lib.hid (H3.out h1)
        have hb1 : ((m : Int) == 1) = true := by rw [h1]; rfl
        clear H3 H4 h1 HL HT
        have R' := R
        obtain ⟨d0, d1, d2, d3, d4, d5, f0, f1, f2, f3, f4, f5⟩ := R'
        go_wp2_with fail
        generalize hwF : World.setCell _ _ _ = wF
        obtain ⟨wi, y0, y1, y2, y3, y4, y5⟩ := ResAt.fill R hwF
        have eF : Ext w wF := wi.above (Nat.le_succ _) et
        clear hwF
        refine bodyPost_ret (v := .tuple #[sysV noSys (.slice none 0 0), .int .i64 5]) (by simp [results, Tryz.results26, go_sem, y0, y1, y2, y3, y4, y5, sysV, noSys]) rfl ⟨_, rfl, SysRes.bad HH.out, eF⟩
      · have HH := Lib.hid (H4.out h1)
        have hb1 : ((m : Int) == 1) = false := by rw [beq_eq_false_iff_ne]; omega
        clear H3 H4 h1
        have HA : Hid (∀ w', Ext w3 w' → SysAt w' w.heap.size mk (.slice (some ⟨b, off, none⟩) n cap)) := fun w' e => SysAt.ext ⟨c0', c1', c2', c3', c4', c5'⟩ e
        have HR := Lib.hid (fun (w' : World) (e : Ext w3 w') => R.ext e)
        have HE := Lib.hid (fun (w' : World) (e : Ext w3 w') => et.trans e)
        clear R et e1 e2 e3 hcr
        go_wp2_with fail
        generalize hw4 : World.alloc _ _ = w4
        obtain ⟨e4, o4⟩ : Ext w3 w4 ∧ OwnR true w3.heap.size IntsR 41 w3.heap.size w4 (.slice (some ⟨w3.heap.size, 0, none⟩) 0 0) [] := by
          subst hw4
          exact ⟨Ext.alloc _ _, OwnR.empty (Nat.le_refl _)⟩
        clear hw4 hrow c0' c1' c2' c3' c4' c5'
        go_loopw [9, 10] (fun o s wr => ∃ k : Nat, k ≤ n ∧ s = .int .i64 k ∧ OwnR true w3.heap.size IntsR 41 w3.heap.size wr o (mapI (fun _ r => delAt dn r) t k) ∧ Ext w3 wr) (fun _ s _ => n - (intOf s).toNat)
        case atStart => exact ⟨0, Nat.zero_le _, rfl, o4, e4⟩
        case round =>
          obtain ⟨k, hk, rfl, own, ew⟩ := hrel
          have hsz := ew.size
          obtain ⟨v0, v1, v2, v3, v4, v5⟩ := HA.out wr ew
          by_cases hlt : k < n
          · obtain ⟨bk, ok, hae, a1, n1, k1, hn1, hm1, hcp, hc, ⟨y1, -, hy⟩, -⟩ := HT.out k hlt
            injection hae with hae
            injection hae with hae1 hae2 _
            subst hae1; subst hae2
            have hlr := HL.out k (by rw [← Hn.out]; exact hlt)
            rw [← hn1] at hlr
            subst hlr
            have hcw := hc wr (HE.out wr ew)
            have HCc := Lib.hid (fun (w' : World) (e : Ext wr w') => hc w' ((HE.out wr ew).trans e))
            have HV := Lib.hid (fun (w' : World) (e : Ext wr w') => (HA.out w' (ew.trans e)).c5)
            obtain ⟨b1, o1, rfl⟩ : ∃ b1 o1, a1 = some ⟨b1, o1, none⟩ := by
              obtain ⟨a', n', c', he, -, -, -, -, -, hel⟩ := SliceR.shape (hy wr (HE.out wr ew))
              obtain ⟨b1, o1, he2, -⟩ := hel 0 (by omega)
              injection he with he1 _ _
              exact ⟨b1, o1, by rw [he1, he2]⟩
            have hm64 := IntsR.mem (hy wr (HE.out wr ew))
            have HO : Hid (∀ w', Ext wr w' → Calls Tryz.prog 78 #[.slice (some ⟨b1, o1, none⟩) dn k1] w' (Ret w' fun r w'' => OwnP (Value.int .i64) 2 w'.heap.size w'' r ((t.getD k []).take dn))) := fun w' e =>
              l01Own_c w' _ y1 _ (SliceR.front (hy w' ((HE.out wr ew).trans e)) dn (by omega)) (by rw [List.length_take]; omega)
            have HM : Hid (∀ x ∈ delAt dn (t.getD k []), I64 x) := fun x hx => by
              unfold delAt at hx
              rcases List.mem_append.1 hx with h | h
              · exact hm64 x (List.mem_of_mem_take h)
              · exact hm64 x (List.mem_of_mem_drop h)
            obtain ⟨j, hj⟩ : ∃ j, j = dn + 1 := ⟨_, rfl⟩
            have hwrp : IntKind.i64.wrap ((dn : Int) + 1) = (j : Int) := by rw [hj]; exact IntWalk.i64_in _ (by omega)
            obtain ⟨A, hA⟩ : ∃ A : Option Addr, (if k1 = j then (some ⟨b1, o1, none⟩ : Option Addr) else some ⟨b1, o1 + j, none⟩) = A := ⟨_, rfl⟩
            have HTl : Hid (∀ w', Ext wr w' → IntsR y1 w' (.slice A (n1 - j) (k1 - j)) ((t.getD k []).drop (dn + 1))) := fun w' e => by rw [← hj]; exact SliceR.rest (hy w' ((HE.out wr ew).trans e)) j (by omega) hA.symm
            have Hown := Lib.hid own
            have HS : Hid (mapI (fun _ r => delAt dn r) t (k + 1) = mapI (fun _ r => delAt dn r) t k ++ [delAt dn (t.getD k [])]) := mapI_succ _ _ _
            have HLn : Hid ((mapI (fun _ r => delAt dn r) t k).length = k) := mapI_len _ _ _
            have Hrl : Hid (((t.getD k []).drop (dn + 1)).length ≤ 12 ∧ ((t.getD k []).take dn).length ≤ 12) := by
              constructor
              · rw [List.length_drop]; omega
              · rw [List.length_take]; omega
            generalize mapI (fun _ r => delAt dn r) t k = us at *
            clear own hy hm64 hn1
            have i1 : (0 : Int) ≤ (dn : Int) := by omega
            have i2 : (dn : Int) ≤ (k1 : Int) := by omega
            have i3 : (j : Int) ≤ (n1 : Int) := by omega
            have i4 : (0 : Int) ≤ (j : Int) := by omega
            have i6 : (j : Int) ≤ (k1 : Int) := by omega
            have i7 : j ≤ n1 := by omega
            have i9 : dn ≤ k1 := by omega
            clear hj
            have i5 : (n1 : Int) ≤ (k1 : Int) := by omega
            go_wp2_with fail
            go_region_law (first | (go_simp; go_at_call 78; refine (HO.out _ (by repeat (first | exact Ext.refl _ | assumption | (refine Ext.trans ?_ (Ext.alloc _ _)) | (refine Ext.trans ?_ (Ext.drew _)) | (refine Ext.trans ?_ (by assumption))))).mono ?_; rintro e w7 hr7; obtain ⟨r7, rfl, o7, e7⟩ := ret_ext hr7; clear hr7; have p1 := HV.out w7 (by repeat (first | exact Ext.refl _ | assumption | (refine Ext.trans ?_ (Ext.alloc _ _)) | (refine Ext.trans ?_ (Ext.drew _)) | (refine Ext.trans ?_ (by assumption)))); have p2 := HCc.out w7 (by repeat (first | exact Ext.refl _ | assumption | (refine Ext.trans ?_ (Ext.alloc _ _)) | (refine Ext.trans ?_ (Ext.drew _)) | (refine Ext.trans ?_ (by assumption)))); have o7' := OwnP.lower (B' := wr.heap.size) o7 (Ext.size (by repeat (first | exact Ext.refl _ | assumption | (refine Ext.trans ?_ (Ext.alloc _ _)) | (refine Ext.trans ?_ (Ext.drew _)) | (refine Ext.trans ?_ (by assumption))))); obtain ⟨a7, n7, k7, rfl, -⟩ := OwnP.shape o7') | (refine step_append_of (by rfl) _ _ 41 (by rfl) (by rfl) (by rfl) (fun ty => run_appendR (f := Value.int .i64) (B := wr.heap.size) 41 ty 0 8 Tryz.underlying41 Tryz.infoI64 rfl (fun _ => rfl) (OwnP.ext o7' (by repeat (first | exact Ext.refl _ | assumption | (refine Ext.trans ?_ (Ext.alloc _ _)) | (refine Ext.trans ?_ (Ext.drew _)) | (refine Ext.trans ?_ (by assumption))))) (E := IntR) (fun h => h.1) (HTl.out _ (by repeat (first | exact Ext.refl _ | assumption | (refine Ext.trans ?_ (Ext.alloc _ _)) | (refine Ext.trans ?_ (Ext.drew _)) | (refine Ext.trans ?_ (by assumption))))) (by have := Hrl.out; omega) (by decide) (Ext.size (by repeat (first | exact Ext.refl _ | assumption | (refine Ext.trans ?_ (Ext.alloc _ _)) | (refine Ext.trans ?_ (Ext.drew _)) | (refine Ext.trans ?_ (by assumption)))))) ?_; intro v8 w8 h8; obtain ⟨o8, -, b8, -⟩ := h8; have e8 : Ext wr w8 := Ext.to' (by repeat (first | exact Ext.refl _ | assumption | (refine Ext.trans ?_ (Ext.alloc _ _)) | (refine Ext.trans ?_ (Ext.drew _)) | (refine Ext.trans ?_ (by assumption)))) b8; clear b8; obtain ⟨a8, n8, k8, rfl, -⟩ := OwnP.shape o8) | (refine step_append_of (by rfl) _ _ 30 (by rfl) (by rfl) (by rfl) (fun ty => run_rowA 30 ty Tryz.underlying30 Tryz.infoInts Hown.out e8 o8 HM.out rfl (by have := HLn.out; omega) ew.size ew.size) ?_; intro v9 w9 h9; obtain ⟨o9, b9, a9, n9, k9, rfl, -⟩ := h9) | fail)
            all_goals (go_wp2_with fail; go_roundw)
            any_goals (simp [intOf]; omega)
            all_goals exact ⟨k + 1, by omega, by go_num, by rw [HS.out]; exact o9, Below.trans ew b9⟩
          · have hkn : k = t.length := by rw [← Hn.out]; omega
            subst hkn
            have R := HR.out wr ew
            have R' := R
            obtain ⟨d0, d1, d2, d3, d4, d5, f0, f1, f2, f3, f4, f5⟩ := R'
            have hz3 : w.heap.size + 1 < w3.heap.size := (HR.out w3 (Ext.refl _)).lt
            have hr := OwnR.reads own (Nat.le_refl _)
            obtain ⟨a6, n6, c6, rfl, -⟩ := OwnA.shape own
            have eW := HE.out wr ew
            clear own HT HL
            go_wp2_with fail
            generalize hwF : World.setCell _ _ _ = wF
            obtain ⟨wi, y0, y1, y2, y3, y4, y5⟩ := ResAt.fill R hwF
            have eF : Ext w wF := wi.above (Nat.le_succ _) eW
            clear hwF
            refine bodyPost_ret (v := .tuple #[sysV mk (.slice a6 n6 c6), .int .i64 0]) (by simp [results, Tryz.results26, go_sem, y0, y1, y2, y3, y4, y5, sysV]) rfl ⟨_, rfl, ?_, eF⟩
            rw [HH.out]
            refine ⟨_, rfl, stable_rows.sub (stable_rows.within hr wi (fun q h1 h2 => by have q1 := h1.1; have q2 := h2.2; simp only at q1 q2; omega)) ⟨fun q hq => ⟨?_, ?_⟩, fun _ => rfl⟩⟩
            · have q1 := hq.1; simp only [Zone.new] at *; omega
            · have q2 := hq.2; have q3 := wi.size; simp only [Zone.new] at *; omega
  · have hb : (rc != 0) = true := by rw [bne_iff_ne]; exact hd0
    have HH := Lib.hid (H1.out hd0)
    clear hd0 H1 H2 H3 H4 HOK HC1 HC2 HR0 Hn S0 HT
    have R := R0
    obtain ⟨d0, d1, d2, d3, d4, d5, f0, f1, f2, f3, f4, f5⟩ := R0
    go_wp2_with fail
    generalize hwF : World.setCell _ _ _ = wF
    obtain ⟨wi, y0, y1, y2, y3, y4, y5⟩ := ResAt.fill R hwF
    have eF : Ext w wF := wi.above (Nat.le_succ _) et
    clear hwF
    refine bodyPost_ret (v := .tuple #[sysV noSys (.slice none 0 0), .int .i64 rc]) (by simp [results, Tryz.results26, go_sem, y0, y1, y2, y3, y4, y5, sysV, noSys]) rfl ⟨_, rfl, SysRes.bad HH.out, eF⟩
end Go.Proofs.YthgmojggpjnckaaGreat
