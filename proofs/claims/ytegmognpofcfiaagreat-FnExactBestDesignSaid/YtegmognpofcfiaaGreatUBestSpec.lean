/- Proved: BestDesign, the reference. -/
import Derived.Test.YtegmognpofcfiaaGreatChecked
import Derived.Deep.RegionHeld3
import Derived.Test.YtegmognpofcfiaaGreatUBestLaw
import Derived.Test.YtegmognpofcfiaaGreatUPkE
namespace Go.Proofs.YtegmognpofcfiaaGreat
open Go.ChangeShapes Go.WideShapes Go.ChangeAt Go.RowKit
set_option linter.unusedVariables false

theorem bestTake {f : List (List Int) → Int} {L : List (List (List Int))} {i : Nat} (h : i < L.length) : bestL f (L.take (i + 1)) = bestStep f (bestL f (L.take i)) (L.getD i []) := by
  unfold bestL
  have e : L.take (i + 1) = L.take i ++ [L.getD i []] := by rw [List.take_add_one, List.getElem?_eq_getElem h]; simp [h]
  rw [e, List.foldl_append]; rfl
theorem bestOne {f : List (List Int) → Int} {L : List (List (List Int))} (h : 0 < L.length) : bestL f (L.take 1) = some (L.getD 0 []) := by
  have := bestTake (f := f) h
  simpa [bestL, bestStep] using this

set_option maxRecDepth 20000 in
set_option maxHeartbeats 1000000 in
theorem BestDesignSpec_c (w : World) (mk : MK) (v : Value) (z : Zone) (t : List (List Int)) (h : RowsR z w v t) (limit : Int) (hl : I64 limit) :
    Calls Tryz.prog 62 #[sysV mk v, .int .i64 limit] w (Ret w (RowsCode w (bestD mk t limit))) := by
  have H1 : Hid (searchC mk t limit ≠ 0 → bestD mk t limit = ([], searchC mk t limit)) := bestD_bad
  have H2 : Hid (searchC mk t limit = 0 → (allS mk t limit).over = true → bestD mk t limit = ([], 3)) := bestD_over
  have H3 : Hid (searchC mk t limit = 0 → (allS mk t limit).over = false → bestL (sysWafers mk t) (allS mk t limit).found = none → bestD mk t limit = ([], 4)) := bestD_none
  have H4 : Hid (∀ b, searchC mk t limit = 0 → (allS mk t limit).over = false → bestL (sysWafers mk t) (allS mk t limit).found = some b → bestD mk t limit = (b, 0)) := fun b => bestD_some
  have HC1 := Lib.hid (fun (w' : World) (e : Ext w w') => l17Code_c w' mk v z t (stable_rows.ext h e) limit hl)
  have HC2 := Lib.hid (fun (h0 : searchC mk t limit = 0) (w' : World) (e : Ext w w') => l17Run_c w' mk v z t (stable_rows.ext h e) (searchC_zero h0).1 limit 1000000 (searchC_zero h0).2.1 (searchC_zero h0).2.2 (by omega) (by unfold I64; omega))
  have HOk := Lib.hid (fun (h0 : searchC mk t limit = 0) => searchS_ok (most := 1000000) (searchC_zero h0).1 (searchC_zero h0).2.1)
  have HL4 := Lib.hid (fun (h0 : searchC mk t limit = 0) => (searchC_zero h0).2.2)
  have HSys := Lib.hid (fun (h0 : searchC mk t limit = 0) => (searchC_zero h0).1)
  have HE : Hid (searchS mk t limit 1000000 = allS mk t limit) := rfl
  have HW := Lib.hid (fun (h0 : searchC mk t limit = 0) (w' : World) (e : Ext w w') (x : List (List Int)) (u : Value) (y : Zone) (hx : RowsR y w' u x) (g : Goods mk t x) => l23Wafers_c w' mk v z t (stable_rows.ext h e) u y x hx (goods_part (searchC_zero h0).1 g))
  have HLi := Lib.hid (fun (h0 : searchC mk t limit = 0) (w' : World) (x : List (List Int)) (u : Value) (y : Zone) (hx : RowsR y w' u x) (g : Goods mk t x) => l15Lists_c w' u y x hx (by have := g.len; have := (sysOk (searchC_zero h0).1).len; omega) (fun k hk => by
    have e : x.getD k [] = x[k] := by simp [hk]
    rw [e]
    have := (g.key _ (List.getElem_mem hk)).len
    have := (sysOk (searchC_zero h0).1).mk1
    omega))
  rw [HE.out] at HC2 HOk
  clear HE
  generalize sysWafers mk t = f at *
  generalize bestD mk t limit = res at *
  generalize searchC mk t limit = rc at *
  generalize hst : allS mk t limit = st at *
  clear hst
  obtain ⟨a, n, cap, rfl, -⟩ := SliceR.shape h
  clear h
  unfold sysV at *
  go_enter Tryz.func62, Tryz.ntmps62
  go_wp2_with fail
  generalize hw0 : World.alloc _ _ = w0
  obtain ⟨e0, S0⟩ := sys_box hw0
  clear hw0
  refine Calls.mono (HC1.out w0 e0) ?_
  rintro e w1 hr
  obtain ⟨r, rfl, rfl, e1⟩ := ret_ext hr
  clear hr HC1
  have et := e0.trans e1
  have HS := Lib.hid (fun (w' : World) (e : Ext w1 w') => S0.all (e1.trans e))
  clear S0
  obtain ⟨c0, c1, c2, c3, c4, c5⟩ := HS.out w1 (Ext.refl _)
  by_cases hd : rc = 0
  · have H2' := Lib.hid (H2.out hd)
    have H3' := Lib.hid (H3.out hd)
    have H4' := Lib.hid (fun b => H4.out b hd)
    have hok := HOk.out hd
    have HLim := Lib.hid (HL4.out hd)
    have hcall := HC2.out hd w1 et
    have HW' := Lib.hid (HW.out hd)
    have HLi' := Lib.hid (HLi.out hd)
    have hb0 : (rc != 0) = false := by rw [hd]; rfl
    clear hd H1 H2 H3 H4 HC2 HW HLi HOk HSys HL4
    go_wp2_with fail
    refine Calls.mono hcall ?_
    rintro e w2 hr
    obtain ⟨r, rfl, ⟨g, A, vf, rfl, hS, -⟩, e2⟩ := ret_ext hr
    clear hr hcall c0 c1 c2 c3 c4 c5
    obtain ⟨tries, over, found⟩ := st
    obtain ⟨us, hul, hup, huf⟩ := hS.found
    have c9 := hS.c9
    have c10 := hS.c10
    simp only at hul hup huf c9
    obtain ⟨b, nn, ncap, rfl, hn, -, hel⟩ := hup.shape
    have HT1 : Hid (tries ≤ 4000) := by have h1 := hok.t1; have h2 := HLim.out; show tries ≤ 4000; exact Int.le_trans h1 h2
    have hmany := hok.many
    have hgood := hok.cuts
    simp only at hmany hgood H2' H3' H4'
    have HS1 := Lib.hid hS
    have Hul := Lib.hid hul
    have Huf := Lib.hid huf
    have Hup := Lib.hid hup
    have Hn := Lib.hid hn
    have Hel := Lib.hid hel
    have Hmany := Lib.hid hmany
    have Hgood := Lib.hid hgood
    clear hS hul huf hup hn hel hmany hgood hok
    cases over with
    | true =>
      have HH := Lib.hid (H2'.out rfl)
      go_wp2_with fail
      go_ret2
      exact ⟨_, rfl, RowsCode_nil HH.out, et.trans e2⟩
    | false =>
      cases found with
      | nil =>
        have HH := Lib.hid (H3'.out rfl rfl)
        have hn0 : nn = 0 := by have := Hn.out; rw [this, Hul.out]; rfl
        subst hn0
        go_wp2_with fail
        go_ret2
        exact ⟨_, rfl, RowsCode_nil HH.out, et.trans e2⟩
      | cons x0 rest =>
        have Hnn : Hid (nn = (x0 :: rest).length ∧ nn ≤ 4000) := by
          have h1 := Hn.out
          have h2 := Hul.out
          have h3 := Hmany.out
          have h4 := HT1.out
          have h5 : tries ≤ 4000 := h4
          exact ⟨by omega, by omega⟩
        obtain ⟨gb, rfl, -⟩ := Hel.out 0 (by have := Hul.out; rw [this]; exact Nat.succ_pos _)
        have HAt : Hid (∀ k, k < nn → ∃ ax nx cx, w2.cell? ⟨gb, k, none⟩ = some (.slice ax nx cx) ∧ RowsA A w2 (.slice ax nx cx) ((x0 :: rest).getD k []) ∧ Goods mk t ((x0 :: rest).getD k [])) := fun k hk => by
          have hkl : k < (x0 :: rest).length := by rw [← Hnn.out.1]; exact hk
          have hku : k < us.length := by rw [Hul.out]; exact hkl
          obtain ⟨gb', hg', -, -, hc0, -⟩ := Hel.out k hku
          injection hg' with hg'
          injection hg' with hg' _ _
          subst hg'
          have hx := Huf.out k hkl hku
          have e : (x0 :: rest).getD k [] = (x0 :: rest)[k] := by rw [List.getD_eq_getElem?_getD, List.getElem?_eq_getElem hkl]; rfl
          rw [e]
          have hg := Hgood.out _ (List.getElem_mem hkl)
          generalize (x0 :: rest)[k] = x at *
          generalize us[k] = u at *
          obtain ⟨ax, nx, cx⟩ := u
          exact ⟨ax, nx, cx, hc0, hx, hg⟩
        have HB1 : Hid (bestL f ((x0 :: rest).take 1) = some ((x0 :: rest).getD 0 [])) := bestOne (Nat.succ_pos _)
        have HBk : Hid (∀ k b, k < nn → bestL f ((x0 :: rest).take k) = some b → bestL f ((x0 :: rest).take (k + 1)) = some (if f ((x0 :: rest).getD k []) < f b then (x0 :: rest).getD k [] else b)) := fun k b hk hb => by
          rw [bestTake (by rw [← Hnn.out.1]; exact hk), hb]
          unfold bestStep
          simp only
          split <;> rfl
        have HBe : Hid (∀ b, bestL f ((x0 :: rest).take nn) = some b → res = (b, 0)) := fun b hb => by
          rw [Hnn.out.1, List.take_length] at hb
          exact H4'.out b rfl hb
        have hnn := Hnn.out.2
        have hn0 : 0 < nn := by rw [Hnn.out.1]; exact Nat.succ_pos _
        generalize (x0 :: rest) = L at *
        have HE2 := Lib.hid (et.trans e2)
        have HCel : Hid (∀ w', Ext w2 w' → w'.cell? ⟨g, 10, none⟩ = some (.slice (some ⟨gb, 0, none⟩) nn ncap)) := fun w' e => e.cell c10
        have HSe := Lib.hid (fun (w' : World) (e : Ext w2 w') => HS.out w' (e2.trans e))
        obtain ⟨a0, n0, k0, d0, hx0, hg0⟩ := HAt.out 0 hn0
        have Hx0 := Lib.hid hx0
        have Hg0 := Lib.hid hg0
        clear hx0 hg0 Hul Huf Hup Hn Hel Hmany Hgood H2' H3' H4' Hnn HS1 HS et e2
        have hb1 : ((nn : Int) == 0) = false := by rw [beq_eq_false_iff_ne]; omega
        go_wp2_with fail
        clear c9 c10 d0 hb1
        go_loopw [8, 9] (fun o s wr => ∃ (k : Nat) (x : List (List Int)) (ax : Option Addr) (nx cx : Nat), 1 ≤ k ∧ k ≤ nn ∧ s = .int .i64 k ∧ o = .slice ax nx cx ∧ Hid (bestL f (L.take k) = some x ∧ RowsA A wr (.slice ax nx cx) x ∧ Goods mk t x) ∧ Ext w2 wr) (fun _ s _ => nn - (intOf s).toNat)
        case atStart => exact ⟨1, L.getD 0 [], a0, n0, k0, Nat.le_refl _, hn0, rfl, rfl, ⟨HB1.out, Hx0.out, Hg0.out⟩, Ext.refl _⟩
        case round =>
          obtain ⟨k, x, ax, nx, cx, hk1, hk, rfl, rfl, HX, ew⟩ := hrel
          have hc10 := HCel.out wr ew
          by_cases hlt : k < nn
          · obtain ⟨ak, nk, ck, hck, hxk, hgk⟩ := HAt.out k hlt
            have Hxk := Lib.hid hxk
            have Hgk := Lib.hid hgk
            have Hnext := Lib.hid (HBk.out k x hlt HX.out.1)
            have HCk : Hid (∀ w', Ext wr w' → (w'.cell? ⟨w.heap.size, 0, none⟩ = some (.int .i64 mk.c) ∧ w'.cell? ⟨w.heap.size, 1, none⟩ = some (.int .i64 mk.d) ∧ w'.cell? ⟨w.heap.size, 2, none⟩ = some (.int .i64 mk.s) ∧ w'.cell? ⟨w.heap.size, 3, none⟩ = some (.int .i64 mk.m) ∧ w'.cell? ⟨w.heap.size, 4, none⟩ = some (.int .i64 mk.l) ∧ w'.cell? ⟨w.heap.size, 5, none⟩ = some (.slice a n cap)) ∧ w'.cell? ⟨g, 10, none⟩ = some (.slice (some ⟨gb, 0, none⟩) nn ncap) ∧ w'.cell? ⟨gb, k, none⟩ = some (.slice ak nk ck)) := fun w' e => ⟨HSe.out w' (ew.trans e), HCel.out w' (ew.trans e), (ew.trans e).cell hck⟩
            have HW1 := Lib.hid (fun (w' : World) (e : Ext wr w') => HW'.out w' (HE2.out.trans (ew.trans e)) (L.getD k []) (.slice ak nk ck) _ ((Hxk.out.ext (ew.trans e)).rows) Hgk.out)
            have HW2 := Lib.hid (fun (w' : World) (e : Ext wr w') => HW'.out w' (HE2.out.trans (ew.trans e)) x (.slice ax nx cx) _ ((HX.out.2.1.ext e).rows) HX.out.2.2)
            have hr0 := Ext.refl wr
            have HXk : Hid (∀ w', Ext wr w' → RowsA A w' (.slice ax nx cx) x ∧ RowsA A w' (.slice ak nk ck) (L.getD k []) ∧ Goods mk t x ∧ Goods mk t (L.getD k [])) := fun w' e => ⟨HX.out.2.1.ext e, Hxk.out.ext (ew.trans e), HX.out.2.2, Hgk.out⟩
            have Hew := Lib.hid ew
            clear hxk hgk hck HX Hxk Hgk ew
            generalize L.getD k [] = xk at *
            generalize f xk = p at *
            generalize f x = q at *
            by_cases hpq : p < q
            · have Hn2 : Hid (bestL f (L.take (k + 1)) = some xk) := by have := Hnext.out; rw [if_pos hpq] at this; exact this
              have hpb : decide (p < q) = true := decide_eq_true hpq
              clear Hnext hpq
              go_wp2_with fail
              clear hc10
              first | (go_region_held3 (fun w' => (w'.cell? ⟨w.heap.size, 0, none⟩ = some (.int .i64 mk.c) ∧ w'.cell? ⟨w.heap.size, 1, none⟩ = some (.int .i64 mk.d) ∧ w'.cell? ⟨w.heap.size, 2, none⟩ = some (.int .i64 mk.s) ∧ w'.cell? ⟨w.heap.size, 3, none⟩ = some (.int .i64 mk.m) ∧ w'.cell? ⟨w.heap.size, 4, none⟩ = some (.int .i64 mk.l) ∧ w'.cell? ⟨w.heap.size, 5, none⟩ = some (.slice a n cap)) ∧ w'.cell? ⟨g, 10, none⟩ = some (.slice (some ⟨gb, 0, none⟩) nn ncap) ∧ w'.cell? ⟨gb, k, none⟩ = some (.slice ak nk ck)) (exact HCk.out _ (by repeat (first | exact Ext.refl _ | assumption | (refine Ext.trans ?_ (Ext.alloc _ _)) | (refine Ext.trans ?_ (Ext.drew _)) | (refine Ext.trans ?_ (by assumption))))) (first | (go_at_call 98; first | ((with_reducible refine (HW1.out _ (by repeat (first | exact Ext.refl _ | assumption | (refine Ext.trans ?_ (Ext.alloc _ _)) | (refine Ext.trans ?_ (Ext.drew _)) | (refine Ext.trans ?_ (by assumption))))).mono ?_); rintro e w7 hr7; obtain ⟨r7, rfl, rfl, e7⟩ := ret_ext hr7; clear hr7; have eZ : Ext wr w7 := (by repeat (first | exact Ext.refl _ | assumption | (refine Ext.trans ?_ (Ext.alloc _ _)) | (refine Ext.trans ?_ (Ext.drew _)) | (refine Ext.trans ?_ (by assumption))))) | ((with_reducible refine (HW2.out _ (by repeat (first | exact Ext.refl _ | assumption | (refine Ext.trans ?_ (Ext.alloc _ _)) | (refine Ext.trans ?_ (Ext.drew _)) | (refine Ext.trans ?_ (by assumption))))).mono ?_); rintro e w8 hr8; obtain ⟨r8, rfl, rfl, e8⟩ := ret_ext hr8; clear hr8; have eZ : Ext wr w8 := (by repeat (first | exact Ext.refl _ | assumption | (refine Ext.trans ?_ (Ext.alloc _ _)) | (refine Ext.trans ?_ (Ext.drew _)) | (refine Ext.trans ?_ (by assumption))))) | fail) | fail)) | fail
              all_goals
                obtain ⟨-, y1, y2⟩ := HCk.out _ eZ
                have HZ := Lib.hid (HXk.out _ eZ)
                go_wp2_with fail
                go_roundw
                case rel => exact ⟨k + 1, xk, ak, nk, ck, by omega, by omega, by go_num, rfl, ⟨Hn2.out, HZ.out.2.1, HZ.out.2.2.2⟩, Hew.out.trans eZ⟩
                case measure => simp [intOf]; omega
            · have Hn2 : Hid (bestL f (L.take (k + 1)) = some x) := by have := Hnext.out; rw [if_neg hpq] at this; exact this
              have hpb : decide (p < q) = false := decide_eq_false hpq
              clear Hnext hpq
              go_wp2_with fail
              clear hc10
              first | (go_region_held3 (fun w' => (w'.cell? ⟨w.heap.size, 0, none⟩ = some (.int .i64 mk.c) ∧ w'.cell? ⟨w.heap.size, 1, none⟩ = some (.int .i64 mk.d) ∧ w'.cell? ⟨w.heap.size, 2, none⟩ = some (.int .i64 mk.s) ∧ w'.cell? ⟨w.heap.size, 3, none⟩ = some (.int .i64 mk.m) ∧ w'.cell? ⟨w.heap.size, 4, none⟩ = some (.int .i64 mk.l) ∧ w'.cell? ⟨w.heap.size, 5, none⟩ = some (.slice a n cap)) ∧ w'.cell? ⟨g, 10, none⟩ = some (.slice (some ⟨gb, 0, none⟩) nn ncap) ∧ w'.cell? ⟨gb, k, none⟩ = some (.slice ak nk ck)) (exact HCk.out _ (by repeat (first | exact Ext.refl _ | assumption | (refine Ext.trans ?_ (Ext.alloc _ _)) | (refine Ext.trans ?_ (Ext.drew _)) | (refine Ext.trans ?_ (by assumption))))) (first | (go_at_call 98; first | ((with_reducible refine (HW1.out _ (by repeat (first | exact Ext.refl _ | assumption | (refine Ext.trans ?_ (Ext.alloc _ _)) | (refine Ext.trans ?_ (Ext.drew _)) | (refine Ext.trans ?_ (by assumption))))).mono ?_); rintro e w7 hr7; obtain ⟨r7, rfl, rfl, e7⟩ := ret_ext hr7; clear hr7; have eZ : Ext wr w7 := (by repeat (first | exact Ext.refl _ | assumption | (refine Ext.trans ?_ (Ext.alloc _ _)) | (refine Ext.trans ?_ (Ext.drew _)) | (refine Ext.trans ?_ (by assumption))))) | ((with_reducible refine (HW2.out _ (by repeat (first | exact Ext.refl _ | assumption | (refine Ext.trans ?_ (Ext.alloc _ _)) | (refine Ext.trans ?_ (Ext.drew _)) | (refine Ext.trans ?_ (by assumption))))).mono ?_); rintro e w8 hr8; obtain ⟨r8, rfl, rfl, e8⟩ := ret_ext hr8; clear hr8; have eZ : Ext wr w8 := (by repeat (first | exact Ext.refl _ | assumption | (refine Ext.trans ?_ (Ext.alloc _ _)) | (refine Ext.trans ?_ (Ext.drew _)) | (refine Ext.trans ?_ (by assumption))))) | fail) | fail)) | fail
              all_goals
                have HZ := Lib.hid (HXk.out _ eZ)
                go_wp2_with fail
                go_roundw
                case rel => exact ⟨k + 1, x, ax, nx, cx, by omega, by omega, by go_num, rfl, ⟨Hn2.out, HZ.out.1, HZ.out.2.2.1⟩, Hew.out.trans eZ⟩
                case measure => simp [intOf]; omega
          · have hkn : k = nn := by omega
            have HH : Hid (res = (x, 0)) := HBe.out x (by rw [← hkn]; exact HX.out.1)
            have hcall := HLi'.out wr x (.slice ax nx cx) _ HX.out.2.1.rows HX.out.2.2
            have Hew := Lib.hid (HE2.out.trans ew)
            clear HX ew HAt HBk HBe HCel HSe HB1 Hx0 Hg0 HW' HLi'
            go_wp2_with fail
            refine Calls.mono hcall ?_
            rintro e w3 hr
            obtain ⟨r, rfl, o3, e3⟩ := ret_ext hr
            clear hr hcall
            have H3 : Hid (RowsR (.new w w3) w3 r x) := stable_rows.sub (OwnR.rows o3) ⟨fun k hk => ⟨Nat.le_trans Hew.out.size hk.1, hk.2⟩, fun _ => rfl⟩
            obtain ⟨a3, n3, k3, rfl, -⟩ := OwnR.shape o3
            clear o3
            go_wp2_with fail
            go_ret2
            exact ⟨_, rfl, by rw [HH.out]; exact ⟨_, rfl, H3.out⟩, Hew.out.trans e3⟩
  · have HH := Lib.hid (H1.out hd)
    have hb0 : (rc != 0) = true := by rw [bne_iff_ne]; exact hd
    clear hd H1 H2 H3 H4 HC2 HW HLi HOk HSys HL4
    go_wp2_with fail
    go_ret2
    exact ⟨_, rfl, RowsCode_nil HH.out, et⟩
end Go.Proofs.YtegmognpofcfiaaGreat
