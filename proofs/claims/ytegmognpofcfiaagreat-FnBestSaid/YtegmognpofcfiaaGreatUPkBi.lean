/- Proved: BestDesign, the reference; the best design so far, in memory; the best design so far: the closure that BestDesign gives to the search; BestDesign of the program. -/
import Derived.Test.YtegmognpofcfiaaGreatChecked
import Derived.Deep.RegionHeld3
import Derived.Test.YtegmognpofcfiaaGreatUBestLaw
import Derived.Test.YtegmognpofcfiaaGreatUPkE
import Derived.Test.YtegmognpofcfiaaGreatUGoAll
import Derived.Test.YtegmognpofcfiaaGreatUPkBx
import Derived.Test.YtegmognpofcfiaaGreatUPkWa
import Derived.Test.YtegmognpofcfiaaGreatUGoNew
namespace Go.Proofs.YtegmognpofcfiaaGreat
open Go.ChangeShapes Go.WideShapes Go.ChangeAt Go.RowKit
set_option linter.unusedVariables false

theorem bestTake {f : List (List Int) → Int} {L : List (List (List Int))} {i : Nat} (h : i < L.length) : bestL f (L.take (i + 1)) = bestStep f (bestL f (L.take i)) (L.getD i []) := by
  unfold bestL
  have e : L.take (i + 1) = L.take i ++ [L.getD i []] := by rw [List.take_add_one, List.getElem?_eq_getElem h]; simp [h]
  rw [e, List.foldl_append]; rfl
theorem bestOne {f : List (List Int) → Int} {L : List (List (List Int))} (h : 0 < L.length) : bestL f (L.take 1) = some (L.getD 0 []) := by
  have := bestTake (f := f) h
  simpa [bestL, bestStep] using this

set_option maxRecDepth 20000 in
set_option maxHeartbeats 1000000 in
theorem BestDesignSpec_c (w : World) (mk : MK) (v : Value) (z : Zone) (t : List (List Int)) (h : RowsR z w v t) (limit : Int) (hl : I64 limit) :
    Calls Tryz.prog 62 #[sysV mk v, .int .i64 limit] w (Ret w (RowsCode w (bestD mk t limit))) := by
  have H1 : Hid (searchC mk t limit ≠ 0 → bestD mk t limit = ([], searchC mk t limit)) := bestD_bad
  have H2 : Hid (searchC mk t limit = 0 → (allS mk t limit).over = true → bestD mk t limit = ([], 3)) := bestD_over
  have H3 : Hid (searchC mk t limit = 0 → (allS mk t limit).over = false → bestL (sysWafers mk t) (allS mk t limit).found = none → bestD mk t limit = ([], 4)) := bestD_none
  have H4 : Hid (∀ b, searchC mk t limit = 0 → (allS mk t limit).over = false → bestL (sysWafers mk t) (allS mk t limit).found = some b → bestD mk t limit = (b, 0)) := fun b => bestD_some
  have HC1 := Lib.hid (fun (w' : World) (e : Ext w w') => l17Code_c w' mk v z t (stable_rows.ext h e) limit hl)
  have HC2 := Lib.hid (fun (h0 : searchC mk t limit = 0) (w' : World) (e : Ext w w') => l17Run_c w' mk v z t (stable_rows.ext h e) (searchC_zero h0).1 limit 1000000 (searchC_zero h0).2.1 (searchC_zero h0).2.2 (by omega) (by unfold I64; omega))
  have HOk := Lib.hid (fun (h0 : searchC mk t limit = 0) => searchS_ok (most := 1000000) (searchC_zero h0).1 (searchC_zero h0).2.1)
  have HL4 := Lib.hid (fun (h0 : searchC mk t limit = 0) => (searchC_zero h0).2.2)
  have HSys := Lib.hid (fun (h0 : searchC mk t limit = 0) => (searchC_zero h0).1)
  have HE : Hid (searchS mk t limit 1000000 = allS mk t limit) := rfl
  have HW := Lib.hid (fun (h0 : searchC mk t limit = 0) (w' : World) (e : Ext w w') (x : List (List Int)) (u : Value) (y : Zone) (hx : RowsR y w' u x) (g : Goods mk t x) => l23Wafers_c w' mk v z t (stable_rows.ext h e) u y x hx (goods_part (searchC_zero h0).1 g))
  have HLi := Lib.hid (fun (h0 : searchC mk t limit = 0) (w' : World) (x : List (List Int)) (u : Value) (y : Zone) (hx : RowsR y w' u x) (g : Goods mk t x) => l15Lists_c w' u y x hx (by have := g.len; have := (sysOk (searchC_zero h0).1).len; omega) (fun k hk => by
    have e : x.getD k [] = x[k] := by simp [hk]
    rw [e]
    have := (g.key _ (List.getElem_mem hk)).len
    have := (sysOk (searchC_zero h0).1).mk1
    omega))
  rw [HE.out] at HC2 HOk
  clear HE
  generalize sysWafers mk t = f at *
  generalize bestD mk t limit = res at *
  generalize searchC mk t limit = rc at *
  generalize hst : allS mk t limit = st at *
  clear hst
  obtain ⟨a, n, cap, rfl, -⟩ := SliceR.shape h
  clear h
  unfold sysV at *
  go_enter Tryz.func62, Tryz.ntmps62
  go_wp2_with fail
  generalize hw0 : World.alloc _ _ = w0
  obtain ⟨e0, S0⟩ := sys_box hw0
  clear hw0
  refine Calls.mono (HC1.out w0 e0) ?_
  rintro e w1 hr
  obtain ⟨r, rfl, rfl, e1⟩ := ret_ext hr
  clear hr HC1
  have et := e0.trans e1
  have HS := Lib.hid (fun (w' : World) (e : Ext w1 w') => S0.all (e1.trans e))
  clear S0
  obtain ⟨c0, c1, c2, c3, c4, c5⟩ := HS.out w1 (Ext.refl _)
  by_cases hd : rc = 0
  · have H2' := Lib.hid (H2.out hd)
    have H3' := Lib.hid (H3.out hd)
    have H4' := Lib.hid (fun b => H4.out b hd)
    have hok := HOk.out hd
    have HLim := Lib.hid (HL4.out hd)
    have hcall := HC2.out hd w1 et
    have HW' := Lib.hid (HW.out hd)
    have HLi' := Lib.hid (HLi.out hd)
    have hb0 : (rc != 0) = false := by rw [hd]; rfl
    clear hd H1 H2 H3 H4 HC2 HW HLi HOk HSys HL4
    go_wp2_with fail
    refine Calls.mono hcall ?_
    rintro e w2 hr
    obtain ⟨r, rfl, ⟨g, A, vf, rfl, hS, -⟩, e2⟩ := ret_ext hr
    clear hr hcall c0 c1 c2 c3 c4 c5
    obtain ⟨tries, over, found⟩ := st
    obtain ⟨us, hul, hup, huf⟩ := hS.found
    have c9 := hS.c9
    have c10 := hS.c10
    simp only at hul hup huf c9
    obtain ⟨b, nn, ncap, rfl, hn, -, hel⟩ := hup.shape
    have HT1 : Hid (tries ≤ 4000) := by have h1 := hok.t1; have h2 := HLim.out; show tries ≤ 4000; exact Int.le_trans h1 h2
    have hmany := hok.many
    have hgood := hok.cuts
    simp only at hmany hgood H2' H3' H4'
    have HS1 := Lib.hid hS
    have Hul := Lib.hid hul
    have Huf := Lib.hid huf
    have Hup := Lib.hid hup
    have Hn := Lib.hid hn
    have Hel := Lib.hid hel
    have Hmany := Lib.hid hmany
    have Hgood := Lib.hid hgood
    clear hS hul huf hup hn hel hmany hgood hok
    cases over with
    | true =>
      have HH := Lib.hid (H2'.out rfl)
      go_wp2_with fail
      go_ret2
      exact ⟨_, rfl, RowsCode_nil HH.out, et.trans e2⟩
    | false =>
      cases found with
      | nil =>
        have HH := Lib.hid (H3'.out rfl rfl)
        have hn0 : nn = 0 := by have := Hn.out; rw [this, Hul.out]; rfl
        subst hn0
        go_wp2_with fail
        go_ret2
        exact ⟨_, rfl, RowsCode_nil HH.out, et.trans e2⟩
      | cons x0 rest =>
        have Hnn : Hid (nn = (x0 :: rest).length ∧ nn ≤ 4000) := by
          have h1 := Hn.out
          have h2 := Hul.out
          have h3 := Hmany.out
          have h4 := HT1.out
          have h5 : tries ≤ 4000 := h4
          exact ⟨by omega, by omega⟩
        obtain ⟨gb, rfl, -⟩ := Hel.out 0 (by have := Hul.out; rw [this]; exact Nat.succ_pos _)
        have HAt : Hid (∀ k, k < nn → ∃ ax nx cx, w2.cell? ⟨gb, k, none⟩ = some (.slice ax nx cx) ∧ RowsA A w2 (.slice ax nx cx) ((x0 :: rest).getD k []) ∧ Goods mk t ((x0 :: rest).getD k [])) := fun k hk => by
          have hkl : k < (x0 :: rest).length := by rw [← Hnn.out.1]; exact hk
          have hku : k < us.length := by rw [Hul.out]; exact hkl
          obtain ⟨gb', hg', -, -, hc0, -⟩ := Hel.out k hku
          injection hg' with hg'
          injection hg' with hg' _ _
          subst hg'
          have hx := Huf.out k hkl hku
          have e : (x0 :: rest).getD k [] = (x0 :: rest)[k] := by rw [List.getD_eq_getElem?_getD, List.getElem?_eq_getElem hkl]; rfl
          rw [e]
          have hg := Hgood.out _ (List.getElem_mem hkl)
          generalize (x0 :: rest)[k] = x at *
          generalize us[k] = u at *
          obtain ⟨ax, nx, cx⟩ := u
          exact ⟨ax, nx, cx, hc0, hx, hg⟩
        have HB1 : Hid (bestL f ((x0 :: rest).take 1) = some ((x0 :: rest).getD 0 [])) := bestOne (Nat.succ_pos _)
        have HBk : Hid (∀ k b, k < nn → bestL f ((x0 :: rest).take k) = some b → bestL f ((x0 :: rest).take (k + 1)) = some (if f ((x0 :: rest).getD k []) < f b then (x0 :: rest).getD k [] else b)) := fun k b hk hb => by
          rw [bestTake (by rw [← Hnn.out.1]; exact hk), hb]
          unfold bestStep
          simp only
          split <;> rfl
        have HBe : Hid (∀ b, bestL f ((x0 :: rest).take nn) = some b → res = (b, 0)) := fun b hb => by
          rw [Hnn.out.1, List.take_length] at hb
          exact H4'.out b rfl hb
        have hnn := Hnn.out.2
        have hn0 : 0 < nn := by rw [Hnn.out.1]; exact Nat.succ_pos _
        generalize (x0 :: rest) = L at *
        have HE2 := Lib.hid (et.trans e2)
        have HCel : Hid (∀ w', Ext w2 w' → w'.cell? ⟨g, 10, none⟩ = some (.slice (some ⟨gb, 0, none⟩) nn ncap)) := fun w' e => e.cell c10
        have HSe := Lib.hid (fun (w' : World) (e : Ext w2 w') => HS.out w' (e2.trans e))
        obtain ⟨a0, n0, k0, d0, hx0, hg0⟩ := HAt.out 0 hn0
        have Hx0 := Lib.hid hx0
        have Hg0 := Lib.hid hg0
        clear hx0 hg0 Hul Huf Hup Hn Hel Hmany Hgood H2' H3' H4' Hnn HS1 HS et e2
        have hb1 : ((nn : Int) == 0) = false := by rw [beq_eq_false_iff_ne]; omega
        go_wp2_with fail
        clear c9 c10 d0 hb1
        go_loopw [8, 9] (fun o s wr => ∃ (k : Nat) (x : List (List Int)) (ax : Option Addr) (nx cx : Nat), 1 ≤ k ∧ k ≤ nn ∧ s = .int .i64 k ∧ o = .slice ax nx cx ∧ Hid (bestL f (L.take k) = some x ∧ RowsA A wr (.slice ax nx cx) x ∧ Goods mk t x) ∧ Ext w2 wr) (fun _ s _ => nn - (intOf s).toNat)
        case atStart => exact ⟨1, L.getD 0 [], a0, n0, k0, Nat.le_refl _, hn0, rfl, rfl, ⟨HB1.out, Hx0.out, Hg0.out⟩, Ext.refl _⟩
        case round =>
          obtain ⟨k, x, ax, nx, cx, hk1, hk, rfl, rfl, HX, ew⟩ := hrel
          have hc10 := HCel.out wr ew
          by_cases hlt : k < nn
          · obtain ⟨ak, nk, ck, hck, hxk, hgk⟩ := HAt.out k hlt
            have Hxk := Lib.hid hxk
            have Hgk := Lib.hid hgk
            have Hnext := Lib.hid (HBk.out k x hlt HX.out.1)
            have HCk : Hid (∀ w', Ext wr w' → (w'.cell? ⟨w.heap.size, 0, none⟩ = some (.int .i64 mk.c) ∧ w'.cell? ⟨w.heap.size, 1, none⟩ = some (.int .i64 mk.d) ∧ w'.cell? ⟨w.heap.size, 2, none⟩ = some (.int .i64 mk.s) ∧ w'.cell? ⟨w.heap.size, 3, none⟩ = some (.int .i64 mk.m) ∧ w'.cell? ⟨w.heap.size, 4, none⟩ = some (.int .i64 mk.l) ∧ w'.cell? ⟨w.heap.size, 5, none⟩ = some (.slice a n cap)) ∧ w'.cell? ⟨g, 10, none⟩ = some (.slice (some ⟨gb, 0, none⟩) nn ncap) ∧ w'.cell? ⟨gb, k, none⟩ = some (.slice ak nk ck)) := fun w' e => ⟨HSe.out w' (ew.trans e), HCel.out w' (ew.trans e), (ew.trans e).cell hck⟩
            have HW1 := Lib.hid (fun (w' : World) (e : Ext wr w') => HW'.out w' (HE2.out.trans (ew.trans e)) (L.getD k []) (.slice ak nk ck) _ ((Hxk.out.ext (ew.trans e)).rows) Hgk.out)
            have HW2 := Lib.hid (fun (w' : World) (e : Ext wr w') => HW'.out w' (HE2.out.trans (ew.trans e)) x (.slice ax nx cx) _ ((HX.out.2.1.ext e).rows) HX.out.2.2)
            have hr0 := Ext.refl wr
            have HXk : Hid (∀ w', Ext wr w' → RowsA A w' (.slice ax nx cx) x ∧ RowsA A w' (.slice ak nk ck) (L.getD k []) ∧ Goods mk t x ∧ Goods mk t (L.getD k [])) := fun w' e => ⟨HX.out.2.1.ext e, Hxk.out.ext (ew.trans e), HX.out.2.2, Hgk.out⟩
            have Hew := Lib.hid ew
            clear hxk hgk hck HX Hxk Hgk ew
            generalize L.getD k [] = xk at *
            generalize f xk = p at *
            generalize f x = q at *
            by_cases hpq : p < q
            · have Hn2 : Hid (bestL f (L.take (k + 1)) = some xk) := by have := Hnext.out; rw [if_pos hpq] at this; exact this
              have hpb : decide (p < q) = true := decide_eq_true hpq
              clear Hnext hpq
              go_wp2_with fail
              clear hc10
              first | (go_region_held3 (fun w' => (w'.cell? ⟨w.heap.size, 0, none⟩ = some (.int .i64 mk.c) ∧ w'.cell? ⟨w.heap.size, 1, none⟩ = some (.int .i64 mk.d) ∧ w'.cell? ⟨w.heap.size, 2, none⟩ = some (.int .i64 mk.s) ∧ w'.cell? ⟨w.heap.size, 3, none⟩ = some (.int .i64 mk.m) ∧ w'.cell? ⟨w.heap.size, 4, none⟩ = some (.int .i64 mk.l) ∧ w'.cell? ⟨w.heap.size, 5, none⟩ = some (.slice a n cap)) ∧ w'.cell? ⟨g, 10, none⟩ = some (.slice (some ⟨gb, 0, none⟩) nn ncap) ∧ w'.cell? ⟨gb, k, none⟩ = some (.slice ak nk ck)) (exact HCk.out _ (by repeat (first | exact Ext.refl _ | assumption | (refine Ext.trans ?_ (Ext.alloc _ _)) | (refine Ext.trans ?_ (Ext.drew _)) | (refine Ext.trans ?_ (by assumption))))) (first | (go_at_call 98; first | ((with_reducible refine (HW1.out _ (by repeat (first | exact Ext.refl _ | assumption | (refine Ext.trans ?_ (Ext.alloc _ _)) | (refine Ext.trans ?_ (Ext.drew _)) | (refine Ext.trans ?_ (by assumption))))).mono ?_); rintro e w7 hr7; obtain ⟨r7, rfl, rfl, e7⟩ := ret_ext hr7; clear hr7; have eZ : Ext wr w7 := (by repeat (first | exact Ext.refl _ | assumption | (refine Ext.trans ?_ (Ext.alloc _ _)) | (refine Ext.trans ?_ (Ext.drew _)) | (refine Ext.trans ?_ (by assumption))))) | ((with_reducible refine (HW2.out _ (by repeat (first | exact Ext.refl _ | assumption | (refine Ext.trans ?_ (Ext.alloc _ _)) | (refine Ext.trans ?_ (Ext.drew _)) | (refine Ext.trans ?_ (by assumption))))).mono ?_); rintro e w8 hr8; obtain ⟨r8, rfl, rfl, e8⟩ := ret_ext hr8; clear hr8; have eZ : Ext wr w8 := (by repeat (first | exact Ext.refl _ | assumption | (refine Ext.trans ?_ (Ext.alloc _ _)) | (refine Ext.trans ?_ (Ext.drew _)) | (refine Ext.trans ?_ (by assumption))))) | fail) | fail)) | fail
              all_goals
                obtain ⟨-, y1, y2⟩ := HCk.out _ eZ
                have HZ := Lib.hid (HXk.out _ eZ)
                go_wp2_with fail
                go_roundw
                case rel => exact ⟨k + 1, xk, ak, nk, ck, by omega, by omega, by go_num, rfl, ⟨Hn2.out, HZ.out.2.1, HZ.out.2.2.2⟩, Hew.out.trans eZ⟩
                case measure => simp [intOf]; omega
            · have Hn2 : Hid (bestL f (L.take (k + 1)) = some x) := by have := Hnext.out; rw [if_neg hpq] at this; exact this
              have hpb : decide (p < q) = false := decide_eq_false hpq
              clear Hnext hpq
              go_wp2_with fail
              clear hc10
              first | (go_region_held3 (fun w' => (w'.cell? ⟨w.heap.size, 0, none⟩ = some (.int .i64 mk.c) ∧ w'.cell? ⟨w.heap.size, 1, none⟩ = some (.int .i64 mk.d) ∧ w'.cell? ⟨w.heap.size, 2, none⟩ = some (.int .i64 mk.s) ∧ w'.cell? ⟨w.heap.size, 3, none⟩ = some (.int .i64 mk.m) ∧ w'.cell? ⟨w.heap.size, 4, none⟩ = some (.int .i64 mk.l) ∧ w'.cell? ⟨w.heap.size, 5, none⟩ = some (.slice a n cap)) ∧ w'.cell? ⟨g, 10, none⟩ = some (.slice (some ⟨gb, 0, none⟩) nn ncap) ∧ w'.cell? ⟨gb, k, none⟩ = some (.slice ak nk ck)) (exact HCk.out _ (by repeat (first | exact Ext.refl _ | assumption | (refine Ext.trans ?_ (Ext.alloc _ _)) | (refine Ext.trans ?_ (Ext.drew _)) | (refine Ext.trans ?_ (by assumption))))) (first | (go_at_call 98; first | ((with_reducible refine (HW1.out _ (by repeat (first | exact Ext.refl _ | assumption | (refine Ext.trans ?_ (Ext.alloc _ _)) | (refine Ext.trans ?_ (Ext.drew _)) | (refine Ext.trans ?_ (by assumption))))).mono ?_); rintro e w7 hr7; obtain ⟨r7, rfl, rfl, e7⟩ := ret_ext hr7; clear hr7; have eZ : Ext wr w7 := (by repeat (first | exact Ext.refl _ | assumption | (refine Ext.trans ?_ (Ext.alloc _ _)) | (refine Ext.trans ?_ (Ext.drew _)) | (refine Ext.trans ?_ (by assumption))))) | ((with_reducible refine (HW2.out _ (by repeat (first | exact Ext.refl _ | assumption | (refine Ext.trans ?_ (Ext.alloc _ _)) | (refine Ext.trans ?_ (Ext.drew _)) | (refine Ext.trans ?_ (by assumption))))).mono ?_); rintro e w8 hr8; obtain ⟨r8, rfl, rfl, e8⟩ := ret_ext hr8; clear hr8; have eZ : Ext wr w8 := (by repeat (first | exact Ext.refl _ | assumption | (refine Ext.trans ?_ (Ext.alloc _ _)) | (refine Ext.trans ?_ (Ext.drew _)) | (refine Ext.trans ?_ (by assumption))))) | fail) | fail)) | fail
              all_goals
                have HZ := Lib.hid (HXk.out _ eZ)
                go_wp2_with fail
                go_roundw
                case rel => exact ⟨k + 1, x, ax, nx, cx, by omega, by omega, by go_num, rfl, ⟨Hn2.out, HZ.out.1, HZ.out.2.2.1⟩, Hew.out.trans eZ⟩
                case measure => simp [intOf]; omega
          · have hkn : k = nn := by omega
            have HH : Hid (res = (x, 0)) := HBe.out x (by rw [← hkn]; exact HX.out.1)
            have hcall := HLi'.out wr x (.slice ax nx cx) _ HX.out.2.1.rows HX.out.2.2
            have Hew := Lib.hid (HE2.out.trans ew)
            clear HX ew HAt HBk HBe HCel HSe HB1 Hx0 Hg0 HW' HLi'
            go_wp2_with fail
            refine Calls.mono hcall ?_
            rintro e w3 hr
            obtain ⟨r, rfl, o3, e3⟩ := ret_ext hr
            clear hr hcall
            have H3 : Hid (RowsR (.new w w3) w3 r x) := stable_rows.sub (OwnR.rows o3) ⟨fun k hk => ⟨Nat.le_trans Hew.out.size hk.1, hk.2⟩, fun _ => rfl⟩
            obtain ⟨a3, n3, k3, rfl, -⟩ := OwnR.shape o3
            clear o3
            go_wp2_with fail
            go_ret2
            exact ⟨_, rfl, by rw [HH.out]; exact ⟨_, rfl, H3.out⟩, Hew.out.trans e3⟩
  · have HH := Lib.hid (H1.out hd)
    have hb0 : (rc != 0) = true := by rw [bne_iff_ne]; exact hd
    clear hd H1 H2 H3 H4 HC2 HW HLi HOk HSys HL4
    go_wp2_with fail
    go_ret2
    exact ⟨_, rfl, RowsCode_nil HH.out, et⟩

open Go.ChangeShapes Go.WideShapes Go.ChangeAt Go.RowKit
set_option linter.unusedVariables false

def leastD (f : List (List Int) → Int) (s : Option (List (List Int))) : Int := match s with
  | none => 0
  | some b => f b
/-- the best design so far and its wafers -/
structure BestAt (f : List (List Int) → Int) (bb bl : Nat) (F : Nat → Prop) (s : Option (List (List Int))) (w : World) (v : Value) : Prop where
  rows : RowsBox bb (fun k => F k ∧ k ≠ bl) (s.getD []) w v
  nil : s = none → v = .slice none 0 0
  full : ∀ b, s = some b → ∃ ad n c, v = .slice (some ad) n c
  least : w.cell? ⟨bl, 0, none⟩ = some (.int .i64 (leastD f s))
  lfree : w.frozen? ⟨bl, 0, none⟩ = false
  box : F bl
  lt : ∀ k, F k → k < w.heap.size
def BestInv (f : List (List Int) → Int) (bb bl : Nat) (F : Nat → Prop) (s : Option (List (List Int))) (w : World) : Prop := ∃ v, BestAt f bb bl F s w v
section
variable {f : List (List Int) → Int} {bb bl : Nat} {F : Nat → Prop} {s : Option (List (List Int))} {w w' : World} {v : Value}
theorem BestAt.keep (h : BestAt f bb bl F s w v) (hb : ∀ k, F k → w'.heap[k]? = w.heap[k]?) (hs : w.heap.size ≤ w'.heap.size) : BestAt f bb bl F s w' v :=
  ⟨h.rows.keep (fun k hk => hb k hk.1) hs, h.nil, h.full, (World.cell?_of_block (a := ⟨bl, 0, none⟩) (hb bl h.box)).trans h.least, (World.frozen?_of_block (a := ⟨bl, 0, none⟩) (hb bl h.box)).trans h.lfree, h.box, fun k hk => Nat.lt_of_lt_of_le (h.lt k hk) hs⟩
theorem BestAt.set {w2 : World} {v8 : Value} {x : List (List Int)} (h : BestAt f bb bl F s w v) (e : Ext w w2) (ho : OwnR true w.heap.size IntsR 29 w.heap.size w2 v8 x) (hn : ∃ ad n c, v8 = .slice (some ad) n c) :
    BestAt f bb bl (fun k => F k ∨ (w.heap.size ≤ k ∧ k < w2.heap.size)) (some x) ((w2.setCell ⟨bb, 0, none⟩ v8).setCell ⟨bl, 0, none⟩ (.int .i64 (f x))) v8 ∧ Frame F w ((w2.setCell ⟨bb, 0, none⟩ v8).setCell ⟨bl, 0, none⟩ (.int .i64 (f x))) := by
  obtain ⟨hR, -, -, hL, hLf, h2, hlt⟩ := h
  obtain ⟨h1, h3⟩ := hR.box
  have q1 := hlt bb h1
  have q2 := hlt bl h2
  have q3 := e.size
  have hb1 : w2.heap[bb]? = w.heap[bb]? := Below.block e bb q1
  have hb2 : w2.heap[bl]? = w.heap[bl]? := Below.block e bl q2
  have hset : ∀ k, k ≠ bb → k ≠ bl → ((w2.setCell ⟨bb, 0, none⟩ v8).setCell ⟨bl, 0, none⟩ (.int .i64 (f x))).heap[k]? = w2.heap[k]? := fun k g1 g2 => (Below.heap_setCell _ _ _ _ g2).trans (Below.heap_setCell _ _ _ _ g1)
  have hsz : ((w2.setCell ⟨bb, 0, none⟩ v8).setCell ⟨bl, 0, none⟩ (.int .i64 (f x))).heap.size = w2.heap.size := by rw [setCell_size, setCell_size]
  have hrow : ∀ k, v8.ownBlock = some k → w.heap.size ≤ k ∧ k < w2.heap.size := ho.block
  have c1 : w2.cell? ⟨bb, 0, none⟩ = some v := (World.cell?_of_block (a := ⟨bb, 0, none⟩) hb1).trans hR.cell
  have c2 : w2.cell? ⟨bl, 0, none⟩ = some (.int .i64 (leastD f s)) := (World.cell?_of_block (a := ⟨bl, 0, none⟩) hb2).trans hL
  have f1 : w2.frozen? ⟨bb, 0, none⟩ = false := (World.frozen?_of_block (a := ⟨bb, 0, none⟩) hb1).trans hR.free
  have f2 : w2.frozen? ⟨bl, 0, none⟩ = false := (World.frozen?_of_block (a := ⟨bl, 0, none⟩) hb2).trans hLf
  have ne1 : (⟨bl, 0, none⟩ : Addr) ≠ ⟨bb, 0, none⟩ := fun q => h3 (by injection q with q _ _; exact q.symm)
  have hF : ∀ k, (F k ∨ (w.heap.size ≤ k ∧ k < w2.heap.size)) → k < w2.heap.size := fun k hk => by
    rcases hk with hk | hk
    · have := hlt k hk; omega
    · exact hk.2
  refine ⟨⟨⟨?_, ?_, ?_, fun k hk => ?_, ⟨.inl h1, h3⟩, fun k hk => by rw [hsz]; exact hF k hk.1⟩, (fun q => by cases q), (fun _ _ => hn), ?_, ?_, .inl h2, fun k hk => by rw [hsz]; exact hF k hk⟩, ?_⟩
  · rw [World.cell?_setCell_other _ _ _ _ ne1]; exact World.cell?_setCell_same _ _ _ c1
  · rw [World.frozen?_setCell, World.frozen?_setCell]; exact f1
  · have o1 : OwnA true (fun k => ((F k ∨ (w.heap.size ≤ k ∧ k < w2.heap.size)) ∧ k ≠ bl) ∧ k ≠ bb) IntsR 29 w.heap.size w2 v8 x := OwnA.weaken ho (fun k hk ha => ⟨⟨.inr ⟨ha, hk⟩, by omega⟩, by omega⟩)
    have o2 := o1.raise (B' := 0) (fun k _ => Nat.zero_le _)
    exact o2.keepA stable_ints (fun k hk => hset k hk.2 hk.1.2) (fun k hk => by have := hrow k hk; exact hset k (by omega) (by omega)) (by omega)
  · have := hrow k hk
    exact ⟨⟨.inr this, by omega⟩, by omega⟩
  · exact World.cell?_setCell_same _ _ _ ((World.cell?_setCell_other _ _ _ _ ne1.symm).trans c2)
  · rw [World.frozen?_setCell, World.frozen?_setCell]; exact f2
  · exact ⟨e.os, e.tape, e.output, by omega, fun k hk hn => (hset k (fun q => hn (q ▸ h1)) (fun q => hn (q ▸ h2))).trans (Below.block e k hk)⟩
end

open Go.ChangeShapes Go.WideShapes Go.ChangeAt Go.RowKit
set_option linter.unusedVariables false

theorem Tryz.goesBestDesign1 : Goes Tryz.prog 152 := goes_of Tryz.func152 (by kernel_rfl) (by kernel_rfl)

set_option maxRecDepth 20000 in
set_option maxHeartbeats 2000000 in
theorem best1_c {bs bb bl : Nat} {F : Nat → Prop} {s : Option (List (List Int))} {mk : MK} {t : List (List Int)} (w : World) (v : Value) (z : Zone) (x : List (List Int)) (hI : BestInv (sysWafers mk t) bb bl F s w) (hx : RowsR z w v x) (hp : PartOk mk t x) (h1 : 1 ≤ x.length)
    {vt : Value} {zt : Zone} (hT : RowsR zt w vt t) (hS : SysAt w bs mk vt) :
    Calls Tryz.prog 152 #[v, .pointer (some ⟨bs, 0, none⟩), .pointer (some ⟨bb, 0, none⟩), .pointer (some ⟨bl, 0, none⟩)] w (fun e w' => e = .returned (.bool true) ∧ ∃ F', BestInv (sysWafers mk t) bb bl F' (bestStep (sysWafers mk t) s x) w' ∧ (∀ k, F' k → F k ∨ w.heap.size ≤ k) ∧ Frame F w w') := by
  obtain ⟨lv, hB⟩ := hI
  have HW := Lib.hid (fun (w' : World) (e : Ext w w') => systemWafers_c w' mk vt zt t (stable_rows.ext hT e) v z x (stable_rows.ext hx e) hp)
  have HCl := Lib.hid (fun (w' : World) (e : Ext w w') => copyLists_c w' v z x (stable_rows.ext hx e) (by have := hp.le; have := hp.len; omega) (fun k hk => by
    have := (hp.key _ (List.getElem_mem hk)).len
    have e : x.getD k [] = x[k] := by simp [hk]
    have := hp.mk1
    rw [e]; omega))
  have HB := Lib.hid hB
  have hbound := sysWafers_bound (cuts := x) hp.toSysOk
  have HL : Hid (0 < x.length) := h1
  have HSet := Lib.hid (fun (w2 : World) (v8 : Value) (e : Ext w w2) (o : OwnR true w.heap.size IntsR 29 w.heap.size w2 v8 x) (hn : ∃ ad n c, v8 = .slice (some ad) n c) => HB.out.set e o hn)
  obtain ⟨c0, c1, c2, c3, c4, c5⟩ := hS
  obtain ⟨ax, nx, cx, rfl, -⟩ := SliceR.shape hx
  obtain ⟨at', nt, ct, rfl, -⟩ := SliceR.shape hT
  obtain ⟨ab, nb, cb, rfl, hnb, -⟩ := OwnA.shape hB.rows.own
  have hnil := hB.nil
  have hfull := hB.full
  have hne : bb ≠ bl := hB.rows.box.2
  clear hnb hB hx hT hp h1
  generalize sysWafers mk t = f at *
  unfold sysV at *
  go_enter Tryz.func152, Tryz.ntmps152
  go_wp2_with fail
  refine Calls.mono (HW.out w (Ext.refl _)) ?_
  rintro e w1 hr
  obtain ⟨r, rfl, rfl, e1⟩ := ret_ext hr
  clear hr
  have hB1 := HB.out.keep (fun k hk => Below.block e1 k (HB.out.lt k hk)) e1.size
  have HB1 := Lib.hid hB1
  have x1 := hB1.least
  have x2 := hB1.rows.cell
  clear hB1 c0 c1 c2 c3 c4 c5
  have hcall := HCl.out w1 e1
  have HN : Hid (∀ (w2 : World) (r : Value), OwnR true w1.heap.size IntsR 29 w1.heap.size w2 r x → ∃ ad n c, r = .slice (some ad) n c) := fun w2 r o => by
    obtain ⟨a, n, c, rfl, hn, -, -, -, hnone, -⟩ := SliceR.shape (OwnR.rows o)
    cases a with
    | none => have h0 := (hnone rfl).1; have h1 := HL.out; omega
    | some ad => exact ⟨ad, n, c, rfl⟩
  have HSt : Hid (∀ (w2 : World) (r : Value), Ext w1 w2 → OwnR true w1.heap.size IntsR 29 w1.heap.size w2 r x → BestAt f bb bl (fun k => F k ∨ (w.heap.size ≤ k ∧ k < w2.heap.size)) (some x) ((w2.setCell ⟨bb, 0, none⟩ r).setCell ⟨bl, 0, none⟩ (.int .i64 (f x))) r ∧ Frame F w ((w2.setCell ⟨bb, 0, none⟩ r).setCell ⟨bl, 0, none⟩ (.int .i64 (f x)))) := fun w2 r e o => by
    have o' : OwnR true w.heap.size IntsR 29 w.heap.size w2 r x := OwnA.raise (OwnA.weaken o (fun k _ h => Nat.le_trans e1.size h)) (fun k hk => Nat.le_trans e1.size (OwnR.block o k hk).1)
    exact HSet.out w2 r (e1.trans e) o' (HN.out w2 r o)
  clear HSet HN HW HCl
  by_cases hmin : ∀ b, s = some b → f x < f b
  · have HS : Hid (bestStep f s x = some x) := by
      show _ = _
      cases s with
      | none => rfl
      | some b => exact if_pos (hmin b rfl)
    have hcase : (ab = none ∧ nb = 0 ∧ cb = 0) ∨ ((∃ ad, ab = some ad) ∧ f x < leastD f s) := by
      cases s with
      | none => left; have h := hnil rfl; injection h with h1 h2 h3; exact ⟨h1, h2, h3⟩
      | some b => right; obtain ⟨ad, n, c, h⟩ := hfull b rfl; injection h with h1 h2 h3; exact ⟨⟨ad, h1⟩, hmin b rfl⟩
    generalize leastD f s = ls at *
    clear hnil hfull hmin
    rcases hcase with ⟨rfl, rfl, rfl⟩ | ⟨⟨ad, rfl⟩, hlt⟩
    focus
      have hq := fun (wq : World) => Lib.run_eql_slice_nil (P := Tryz.prog) wq 26 29 none 0 0 0 0 Tryz.underlying26
      go_wp2_with fail
    rotate_left
    focus
      have hq := fun (wq : World) => Lib.run_eql_slice_nil (P := Tryz.prog) wq 26 29 (some ad) nb cb 0 0 Tryz.underlying26
      have hf1 : decide (f x < ls) = true := decide_eq_true hlt
      go_wp2_with fail
    all_goals
      refine Calls.mono hcall ?_
      rintro e w2 hr
      obtain ⟨r, rfl, o2, e2⟩ := ret_ext hr
      clear hr hcall
      have HP := Lib.hid (HSt.out w2 r e2 o2)
      have hB2 := HB1.out.keep (fun k hk => Below.block e2 k (HB1.out.lt k hk)) e2.size
      have d1 := hB2.rows.cell
      have d2 := hB2.rows.free
      have d3 := hB2.least
      have d4 := hB2.lfree
      have d6 := Ne.symm hne
      obtain ⟨a8, n8, k8, rfl, -⟩ := OwnR.shape o2
      clear hB2 o2 x1 x2 HSt
      go_wp2_with fail
      go_ret
      exact ⟨rfl, fun k => F k ∨ (w.heap.size ≤ k ∧ k < w2.heap.size), ⟨_, by rw [HS.out]; exact HP.out.1⟩, fun k hk => Or.elim hk .inl (fun q => .inr q.1), HP.out.2⟩
  · have hmin' : ∃ b, s = some b ∧ ¬ f x < f b := by
      cases s with
      | none => exact absurd (fun b h => by cases h) hmin
      | some b => exact ⟨b, rfl, fun h => hmin (fun b' hb => by injection hb with hb; subst hb; exact h)⟩
    obtain ⟨b, rfl, hb⟩ := hmin'
    have HS : Hid (bestStep f (some b) x = some b) := if_neg hb
    obtain ⟨ad, n', c', hz⟩ := hfull b rfl
    injection hz with z1 z2 z3
    subst z1
    have hl : leastD f (some b) = f b := rfl
    rw [hl] at x1
    have hq := fun (wq : World) => Lib.run_eql_slice_nil (P := Tryz.prog) wq 26 29 (some ad) nb cb 0 0 Tryz.underlying26
    have hf1 : decide (f x < f b) = false := decide_eq_false hb
    generalize f b = fb at *
    clear hmin hb hl hnil hfull z2 z3 hcall HSt
    go_wp2_with fail
    go_ret
    exact ⟨rfl, F, ⟨_, by rw [HS.out]; exact HB1.out⟩, fun k hk => .inl hk, Frame.of_ext e1⟩

open Go.ChangeShapes Go.WideShapes Go.ChangeAt Go.RowKit
set_option linter.unusedVariables false

theorem visitBest {bs bb bl : Nat} {mk : MK} {t : List (List Int)} (hs : isSystem mk t = true) {w0 : World} {F0 : Nat → Prop} {vt : Value} {zt : Zone} (hT : RowsR zt w0 vt t) (hS : SysAt w0 bs mk vt) (hz : ∀ k, zt.Has k → ¬ F0 k) (hb : ¬ F0 bs) :
    VisitD 152 #[.pointer (some ⟨bs, 0, none⟩), .pointer (some ⟨bb, 0, none⟩), .pointer (some ⟨bl, 0, none⟩)] w0 F0 (BestInv (sysWafers mk t) bb bl) (bestStep (sysWafers mk t)) (fun _ _ => true) (fun _ => 0) (Goods mk t) where
  goes := Tryz.goesBestDesign1
  size := fun _ _ => Nat.zero_le _
  keep := by
    rintro F s w w' ⟨v, hb⟩ hk hs
    exact ⟨v, hb.keep hk hs⟩
  fresh := by
    rintro F s w ⟨v, hb⟩
    exact hb.lt
  call := by
    rintro F s w v z x hI hF hK hx hg -
    have hl := (sysOk hs).len
    exact best1_c w v z x hI hx (goods_part hs hg) (by have := hg.len; omega) (hK.read stable_rows hT hz) ⟨hK.cell hb hS.c0, hK.cell hb hS.c1, hK.cell hb hS.c2, hK.cell hb hS.c3, hK.cell hb hS.c4, hK.cell hb hS.c5⟩

theorem best_new {f : List (List Int) → Int} {w1 w6 : World} {mk : MK} {v : Value} {limit : Int} {Fv : FuncId} {caps : Array Value} {t1 t2 t3 : TypeId}
    (h : ((w1.alloc (.cells #[.slice none 0 0] t1)).alloc (.cells #[.int .i64 0] t2)).alloc (.cells #[.int .i64 mk.c, .int .i64 mk.d, .int .i64 mk.s, .int .i64 mk.m, .int .i64 mk.l, v, .int .i64 limit, .int .i64 0, .bool false, .func (.func Fv) #[] caps] t3) = w6) :
    Ext w1 w6 ∧ GoAt (w1.heap.size + 1 + 1) mk v limit Fv caps (BestInv f w1.heap.size (w1.heap.size + 1)) (fun k => (k = w1.heap.size ∨ k = w1.heap.size + 1) ∨ k = w1.heap.size + 1 + 1) ⟨0, false, none⟩ w6 := by
  have e6 : Ext w1 w6 := by rw [← h]; exact ((Ext.alloc _ _).trans (Ext.alloc _ _)).trans (Ext.alloc _ _)
  have s6 : w6.heap.size = w1.heap.size + 3 := by rw [← h]; simp
  have d1 : w6.cell? ⟨w1.heap.size, 0, none⟩ = some (.slice none 0 0) := by rw [← h]; clear h e6 s6; go_simp
  have d2 : w6.cell? ⟨w1.heap.size + 1, 0, none⟩ = some (.int .i64 0) := by rw [← h]; clear h e6 s6 d1; go_simp
  have f1 : w6.frozen? ⟨w1.heap.size, 0, none⟩ = false := by rw [← h]; clear h e6 s6 d1 d2; go_simp
  have f2 : w6.frozen? ⟨w1.heap.size + 1, 0, none⟩ = false := by rw [← h]; clear h e6 s6 d1 d2 f1; go_simp
  have hI : BestInv f w1.heap.size (w1.heap.size + 1) (fun k => k = w1.heap.size ∨ k = w1.heap.size + 1) none w6 :=
    ⟨.slice none 0 0, ⟨d1, f1, OwnA.none, (fun k hk => by cases hk), ⟨.inl rfl, by omega⟩, fun k hk => by have := hk.1; omega⟩, fun _ => rfl, (fun b hb => by cases hb), d2, f2, .inr rfl, fun k hk => by omega⟩
  subst h
  have hsz : ((w1.alloc (.cells #[.slice none 0 0] t1)).alloc (.cells #[.int .i64 0] t2)).heap.size = w1.heap.size + 1 + 1 := by simp
  have hG := goAt_new (w := (w1.alloc (.cells #[.slice none 0 0] t1)).alloc (.cells #[.int .i64 0] t2)) (G := fun k => k = w1.heap.size ∨ k = w1.heap.size + 1) hI (fun k hk => by omega)
  rw [hsz] at hG
  exact ⟨e6, hG⟩

set_option maxRecDepth 20000 in
set_option maxHeartbeats 1000000 in
theorem BestDesign_c (w : World) (mk : MK) (v : Value) (z : Zone) (t : List (List Int)) (h : RowsR z w v t) (limit : Int) (hl : I64 limit) :
    Calls Tryz.prog 61 #[sysV mk v, .int .i64 limit] w (Ret w (RowsCode w (bestD mk t limit))) := by
  have H1 : Hid (searchC mk t limit ≠ 0 → bestD mk t limit = ([], searchC mk t limit)) := bestD_bad
  have HC1 := Lib.hid (fun (w' : World) (e : Ext w w') => searchCode_c w' mk v z t (stable_rows.ext h e) limit hl)
  have HT : RowsR ⟨z.lo, min z.hi w.heap.size, false⟩ w v t := shrinks_rows _ _ _ _ h
  have HGo := Lib.hid (fun (h0 : searchC mk t limit = 0) (w0 : World) (e : Ext w w0) (bs bb bl g : Nat) (F : Nat → Prop) (hF : ∀ k, F k → w.heap.size ≤ k ∧ k ≠ bs) (hS : SysAt w0 bs mk v) (hG : GoAt g mk v limit 152 #[.pointer (some ⟨bs, 0, none⟩), .pointer (some ⟨bb, 0, none⟩), .pointer (some ⟨bl, 0, none⟩)] (BestInv (sysWafers mk t) bb bl) F ⟨0, false, none⟩ w0) =>
    goN_all (visitBest (searchC_zero h0).1 (stable_rows.ext HT e) hS (fun k hk q => by have h1 := hk.2; have h2 := (hF k q).1; simp only at h1; omega) (fun q => (hF bs q).2 rfl)) (sys_mkOk (searchC_zero h0).1) (sysOk (searchC_zero h0).1) hl (searchC_zero h0).2.2 (fun x h1 h2 h3 => ⟨h1, h2, h3⟩) t.length [] F ⟨0, false, none⟩ w0 _ (fun _ => False) (.slice none 0 0) hG (fun k hk => .inl hk) (Kept.refl _ _) (stable_rows.ext HT e) (fun k hk q => by have h1 := hk.2; have h2 := (hF k q).1; simp only at h1; omega) RowsA.nil (fun k hk => hk.elim) (by simp) (by simp) (faults_nil mk t) (Int.le_refl _) (searchC_zero h0).2.1 (by have := (sysOk (searchC_zero h0).1).len; rw [if_neg (by omega)]; exact Int.le_refl _))
  have HSim := Lib.hid (fun (h0 : searchC mk t limit = 0) => all_sim (step := bestStep (sysWafers mk t)) (v0 := none) h0)
  have H2 : Hid (searchC mk t limit = 0 → (allS mk t limit).over = true → bestD mk t limit = ([], 3)) := bestD_over
  have H3 : Hid (searchC mk t limit = 0 → (allS mk t limit).over = false → bestL (sysWafers mk t) (allS mk t limit).found = none → bestD mk t limit = ([], 4)) := bestD_none
  have H4 : Hid (∀ b, searchC mk t limit = 0 → (allS mk t limit).over = false → bestL (sysWafers mk t) (allS mk t limit).found = some b → bestD mk t limit = (b, 0)) := fun b => bestD_some
  generalize hrc : searchC mk t limit = rc at *
  generalize bestD mk t limit = res at *
  obtain ⟨a, n, cap, rfl, -⟩ := SliceR.shape h
  clear h hrc
  unfold sysV at *
  go_enter Tryz.func61, Tryz.ntmps61
  go_wp2_with fail
  generalize hw0 : World.alloc _ _ = w0
  obtain ⟨e0, S0⟩ := sys_box hw0
  clear hw0
  have HS := Lib.hid S0
  clear S0
  refine Calls.mono (HC1.out w0 e0) ?_
  rintro e w1 hr
  obtain ⟨r, rfl, rfl, e1⟩ := ret_ext hr
  clear hr
  have et := e0.trans e1
  by_cases hd : rc = 0
  · have H2' := Lib.hid (H2.out hd)
    have H3' := Lib.hid (H3.out hd)
    have H4' := Lib.hid (fun b => H4.out b hd)
    have HGo' := Lib.hid (HGo.out hd)
    have HSim' := Lib.hid (HSim.out hd)
    have hb0 : (rc != 0) = false := by rw [hd]; rfl
    obtain ⟨c0, c1, c2, c3, c4, c5⟩ := HS.out.ext e1
    have zb := World.block_lt_of_cell? _ _ c0
    simp only at zb
    have zb' := Nat.ne_of_lt zb
    have zb'' := Nat.ne_of_gt zb
    have HSx := Lib.hid (HS.out.ext e1)
    have HT2 := Lib.hid et
    clear hd H1 H2 H3 H4 HGo HSim HC1 HS et e0 e1 HT
    generalize goV mk t limit (bestStep (sysWafers mk t)) (fun _ _ => true) t.length [] ⟨0, false, none⟩ = gv at *
    generalize allS mk t limit = st at *
    generalize sysWafers mk t = f at *
    go_wp2_with fail
    generalize hw6 : World.alloc (World.alloc (World.alloc w1 _) _) _ = w6
    obtain ⟨e6, i6⟩ := best_new (f := f) hw6
    have S6 := HSx.out.ext e6
    have hle := HT2.out.size
    clear hw6 c0 c1 c2 c3 c4 c5 zb' zb''
    refine Calls.mono (HGo'.out w6 (HT2.out.trans e6) w.heap.size w1.heap.size (w1.heap.size + 1) (w1.heap.size + 1 + 1) _ (fun k hk => by rcases hk with (q | q) | q <;> omega) S6 i6) ?_
    rintro e w7 ⟨rfl, F7, i7, g7, f7⟩
    have HE7 : Hid (Ext w w7) := (Frame.trans (Frame.of_ext (F := fun k => (k = w1.heap.size ∨ k = w1.heap.size + 1) ∨ k = w1.heap.size + 1 + 1) (HT2.out.trans e6)) f7 (fun i hi _ => hi)).below (B := w.heap.size) (fun k hk => by rcases hk with (q | q) | q <;> omega) (Nat.le_refl _)
    obtain ⟨gb, gs⟩ := gv
    obtain ⟨x1, x2, x3⟩ := HSim'.out
    simp only at x1 x2 x3 i7 ⊢
    obtain ⟨G7, ⟨v7, hB7⟩, hG7⟩ := i7.val
    have c8 := i7.c8
    rw [x2] at c8
    have hc7 := hB7.rows.cell
    have hnil := hB7.nil
    have hfull := hB7.full
    obtain ⟨a7, n7, k7, rfl, -⟩ := OwnA.shape hB7.rows.own
    have e6s := e6.size
    have HZ : Hid (RowsR (.new w w7) w7 (.slice a7 n7 k7) (gs.val.getD [])) := RowsBox.rows hB7.rows (L := w.heap.size) (fun k hk => by
      have h1 := (hG7 k hk.1).1
      rcases g7 k h1 with q | q
      · rcases q with (q | q) | q <;> omega
      · omega)
    have HV : Hid (gs.val = bestL f st.found) := x3
    have hq := fun (wq : World) => Lib.run_eql_slice_nil (P := Tryz.prog) wq 26 29 a7 n7 k7 0 0 Tryz.underlying26
    clear hB7 hG7 g7 f7 i7 i6 S6 e6 HGo' HSim' x1 x2 x3 HSx
    obtain ⟨tries, over, found⟩ := st
    simp only at c8 H2' H3' H4' HV
    cases over with
    | true =>
      have HH := Lib.hid (H2'.out rfl)
      clear hnil hfull
      go_wp2_with fail
      go_ret2
      exact ⟨_, rfl, RowsCode_nil HH.out, HE7.out⟩
    | false =>
      cases hv : gs.val with
      | none =>
        have HH := Lib.hid (H3'.out rfl (by rw [← HV.out]; exact hv))
        have hz := hnil hv
        injection hz with z1 z2 z3
        subst z1; subst z2; subst z3
        clear hnil hfull hv
        go_wp2_with fail
        go_ret2
        exact ⟨_, rfl, RowsCode_nil HH.out, HE7.out⟩
      | some b =>
        have HH := Lib.hid (H4'.out b rfl (by rw [← HV.out]; exact hv))
        obtain ⟨ad, n', c', hz⟩ := hfull b hv
        injection hz with z1 z2 z3
        subst z1
        have HZ2 : Hid (RowsR (.new w w7) w7 (.slice (some ad) n7 k7) b) := by have := HZ.out; rw [hv] at this; exact this
        clear hnil hfull hv z2 z3 HZ
        go_wp2_with fail
        go_ret2
        exact ⟨_, rfl, by rw [HH.out]; exact ⟨_, rfl, HZ2.out⟩, HE7.out⟩
  · have HH := Lib.hid (H1.out hd)
    have hb0 : (rc != 0) = true := by rw [bne_iff_ne]; exact hd
    clear hd H1 H2 H3 H4 HGo HSim HC1 HT
    go_wp2_with fail
    go_ret2
    exact ⟨_, rfl, RowsCode_nil HH.out, et⟩
end Go.Proofs.YtegmognpofcfiaaGreat
