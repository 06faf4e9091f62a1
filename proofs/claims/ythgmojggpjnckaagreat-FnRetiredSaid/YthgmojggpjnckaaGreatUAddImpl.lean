/- Proved: AddDoor of the program. -/
import Derived.Test.YthgmojggpjnckaaGreatChecked
import Derived.Deep.RegionHeld3
import Derived.Test.YthgmojggpjnckaaGreatUAddLaw
import Derived.Test.YthgmojggpjnckaaGreatUPkE
import Derived.Test.YthgmojggpjnckaaGreatUMixX
namespace Go.Proofs.YthgmojggpjnckaaGreat
open Go.ChangeShapes Go.WideShapes Go.ChangeAt Go.RowKit
set_option linter.unusedVariables false

set_option maxRecDepth 20000 in
set_option maxHeartbeats 2000000 in
theorem AddDoor_c (w : World) (mk : MK) (v : Value) (z : Zone) (t : List (List Int)) (h : RowsR z w v t) (u : Value) (y : Zone) (cuts : List (List Int)) (hc : RowsR y w u cuts) (v3 : Value) (z3 : Zone) (col : List Int) (hcol : IntsR z3 w v3 col) :
    Calls Tryz.prog 22 #[sysV mk v, u, v3] w (Ret w (SysRes w (addDoor mk t cuts col))) := by
  have H1 : Hid (designCode mk t cuts ≠ 0 → addDoor mk t cuts col = ((noSys, []), designCode mk t cuts)) := addDoor_bad
  have H2 : Hid (designCode mk t cuts = 0 → entB t.length col = false → addDoor mk t cuts col = ((noSys, []), 2)) := addDoor_range
  have H3 : Hid (designCode mk t cuts = 0 → entB t.length col = true → doorsOf t = 12 → addDoor mk t cuts col = ((noSys, []), 3)) := addDoor_most
  have H4 : Hid (designCode mk t cuts = 0 → entB t.length col = true → doorsOf t ≠ 12 → isDesign mk (addCol t col) cuts = false → addDoor mk t cuts col = ((noSys, []), 5)) := addDoor_state
  have H5 : Hid (designCode mk t cuts = 0 → entB t.length col = true → doorsOf t ≠ 12 → isDesign mk (addCol t col) cuts = true → addDoor mk t cuts col = ((mk, addCol t col), 0)) := addDoor_ok
  have HEL : Hid (entB t.length col = true → col.length = t.length) := entB_len
  have HOK : Hid (designCode mk t cuts = 0 → DesignOk mk t cuts) := designCode_zero
  have HC1 := Lib.hid (fun (w' : World) (e : Ext w w') => designCode_c w' mk v z t (stable_rows.ext h e) u y cuts (stable_rows.ext hc e))
  have HC2 := Lib.hid (fun (w' : World) (e : Ext w w') => allWithin_c w' v3 z3 col 0 1 (stable_ints.ext hcol e))
  have HEB : Hid (entB t.length col = (decide (col.length = t.length) && allB col 0 1)) := rfl
  have HG : Hid (DesignOk mk t cuts → ∀ w', Ext w w' → Calls Tryz.prog 70 #[v] w' (Ret w' fun r w'' => OwnR true w'.heap.size IntsO 41 w'.heap.size w'' r t)) := fun ok w' e => copyListsO_c w' v z t (stable_rows.ext h e) (by have := ok.len; omega) (fun k hk => by rw [ok.row k hk]; have := ok.doors; omega)
  have HC3 := Lib.hid (fun (w' : World) (e : Ext w w') (v' : Value) (z' : Zone) (g : RowsR z' w' v' (addCol t col)) => IsDesign_c w' mk v' z' (addCol t col) g u y cuts (stable_rows.ext hc e))
  have HCol := Lib.hid (fun (w' : World) (e : Ext w w') => stable_ints.ext hcol e)
  have HR0 : Hid (DesignOk mk t cuts → ∃ a n cap b off a0 c0, v = .slice a n cap ∧ n = t.length ∧ a = some ⟨b, off, none⟩ ∧ 0 < n ∧ ∀ w', Ext w w' → w'.cell? ⟨b, off, none⟩ = some (.slice a0 (doorsOf t) c0)) := fun ok => by
    obtain ⟨a, n, cap, rfl, hn, -⟩ := SliceR.shape h
    have hl := ok.len
    obtain ⟨b, off, rfl, a0, m, cp, hmE, hmm, -, hcr, -⟩ := rows_at h (k := 0) (by omega)
    have hm : m = doorsOf t := hmE
    subst hm
    exact ⟨_, n, cap, b, off, a0, cp, rfl, hn, rfl, by omega, fun w' e => by have := hcr w' e; rwa [Nat.add_zero] at this⟩
  have HT := Lib.hid (fun (a : Option Addr) (n cap : Nat) (hv : v = .slice a n cap) (k : Nat) (hk : k < n) => rows_at (hv ▸ h) hk)
  generalize hrc : designCode mk t cuts = rc at *
  generalize addDoor mk t cuts col = res at *
  obtain ⟨a, n, cap, rfl, hn, -⟩ := SliceR.shape h
  obtain ⟨a2, n2, cap2, rfl, -⟩ := SliceR.shape hc
  obtain ⟨a3, n3, cap3, rfl, hn3, -⟩ := SliceR.shape hcol
  have Hn3 := Lib.hid hn3
  rw [← hn] at H2 H3 H4 H5 HEL
  rw [← hn, ← hn3] at HEB
  clear hn3 hcol
  replace HT := Lib.hid (fun (k : Nat) (hk : k < n) => HT.out a n cap rfl k hk)
  clear h hc hrc
  have Hn := Lib.hid hn
  clear hn
  unfold sysV at *
  go_enter Tryz.func22, Tryz.ntmps22
  go_wp2_with fail
  generalize hw1 : World.alloc _ _ = w1
  obtain ⟨e1, S0, R0, hz1⟩ := two_box hw1
  clear hw1
  refine Calls.mono (HC1.out w1 e1) ?_
  rintro e w2 hr
  obtain ⟨r, rfl, rfl, e2⟩ := ret_ext hr
  clear hr
  have et := e1.trans e2
  replace S0 := S0.ext e2
  replace R0 := R0.ext e2
  by_cases hd0 : rc = 0
  · have ok := HOK.out hd0
    obtain ⟨av, nv, cv, b, off, a0, c0, hv, hnt, ha, hn0, hcr⟩ := HR0.out ok
    injection hv with hv1 hv2 hv3
    subst hv1; subst hv2; subst hv3; subst ha
    have hdo := ok.doors
    have HL := Lib.hid ok.row
    replace HG := Lib.hid (HG.out ok)
    have hn10 : n ≤ 10 := by have := ok.len; omega
    clear HR0 HC1 HOK hnt
    have S00 := S0
    obtain ⟨c0', c1', c2', c3', c4', c5'⟩ := S0
    have hb0 : (rc != 0) = false := by rw [hd0]; rfl
    replace H2 := Lib.hid (H2.out hd0)
    replace H3 := Lib.hid (H3.out hd0)
    replace H4 := Lib.hid (H4.out hd0)
    replace H5 := Lib.hid (H5.out hd0)
    have hdm : doorsOf t ≤ 12 := hdo.2
    have hdm1 : 1 ≤ doorsOf t := hdo.1
    clear H1 hd0 hdo ok
    generalize doorsOf t = m at *
    clear HT
    by_cases hcl : n3 = n
    case neg =>
      have hbl : ((n3 : Int) != (n : Int)) = true := by rw [bne_iff_ne]; omega
      have HH := Lib.hid (H2.out (by rw [HEB.out, decide_eq_false hcl, Bool.false_and]))
      clear HEB H2 H3 H4 H5 HL HEL HC2 HC3 HG hcl
      have R := R0
      obtain ⟨d0, d1, d2, d3, d4, d5, f0, f1, f2, f3, f4, f5⟩ := R0
      go_wp2_with fail
      generalize hwF : World.setCell _ _ _ = wF
      obtain ⟨wi, y0, y1, y2, y3, y4, y5⟩ := ResAt.fill R hwF
      have eF : Ext w wF := wi.above (Nat.le_succ _) et
      clear hwF
      refine bodyPost_ret (v := .tuple #[sysV noSys (.slice none 0 0), .int .i64 2]) (by simp [results, Tryz.results22, go_sem, y0, y1, y2, y3, y4, y5, sysV, noSys]) rfl ⟨_, rfl, SysRes.bad HH.out, eF⟩
    case pos =>
    have hbl : ((n3 : Int) != (n : Int)) = false := by rw [hcl]; simp
    replace HEB : Hid (entB n col = allB col 0 1) := by show _ = _; rw [HEB.out, decide_eq_true hcl, Bool.true_and]
    clear HEL
    subst hcl
    have hcall := HC2.out w2 et
    clear HC2
    go_wp2_with fail
    refine Calls.mono hcall ?_
    rintro e w3 ⟨rfl, hd3⟩
    have e3 := Ext.ofDrew hd3
    clear hd3 hcall
    replace et := et.trans e3
    replace S00 := S00.ext e3
    replace R0 := R0.ext e3
    have hrow := hcr w3 et
    clear c0' c1' c2' c3' c4' c5' hcr
    obtain ⟨c0', c1', c2', c3', c4', c5'⟩ := S00
    cases hq : allB col 0 1 with
    | false =>
      have HH := Lib.hid (H2.out (HEB.out.trans hq))
      clear HEB H2 H3 H4 H5 hq HL HC3 HG
      have R := R0
      obtain ⟨d0, d1, d2, d3, d4, d5, f0, f1, f2, f3, f4, f5⟩ := R0
      go_wp2_with fail
      generalize hwF : World.setCell _ _ _ = wF
      obtain ⟨wi, y0, y1, y2, y3, y4, y5⟩ := ResAt.fill R hwF
      have eF : Ext w wF := wi.above (Nat.le_succ _) et
      clear hwF
      refine bodyPost_ret (v := .tuple #[sysV noSys (.slice none 0 0), .int .i64 2]) (by simp [results, Tryz.results22, go_sem, y0, y1, y2, y3, y4, y5, sysV, noSys]) rfl ⟨_, rfl, SysRes.bad HH.out, eF⟩
    | true =>
      have hq' := HEB.out.trans hq
      replace H3 := Lib.hid (H3.out hq')
      replace H4 := Lib.hid (H4.out hq')
      replace H5 := Lib.hid (H5.out hq')
      clear H2 hq hq' HEB
      by_cases h1 : m = 12
      · have HH := Lib.hid (H3.out h1)
        have hb1 : ((m : Int) == 12) = true := by rw [h1]; rfl
        clear H3 H4 H5 h1 HL HC3 HG
        have R := R0
        obtain ⟨d0, d1, d2, d3, d4, d5, f0, f1, f2, f3, f4, f5⟩ := R0
        go_wp2_with fail
        generalize hwF : World.setCell _ _ _ = wF
        obtain ⟨wi, y0, y1, y2, y3, y4, y5⟩ := ResAt.fill R hwF
        have eF : Ext w wF := wi.above (Nat.le_succ _) et
        clear hwF
        refine bodyPost_ret (v := .tuple #[sysV noSys (.slice none 0 0), .int .i64 3]) (by simp [results, Tryz.results22, go_sem, y0, y1, y2, y3, y4, y5, sysV, noSys]) rfl ⟨_, rfl, SysRes.bad HH.out, eF⟩
      · have hb1 : ((m : Int) == 12) = false := by rw [beq_eq_false_iff_ne]; omega
        replace H4 := Lib.hid (H4.out h1)
        replace H5 := Lib.hid (H5.out h1)
        clear H3 h1
        have HA : Hid (∀ w', Ext w3 w' → w'.cell? ⟨w.heap.size, 0, none⟩ = some (.int .i64 mk.c) ∧ w'.cell? ⟨w.heap.size, 1, none⟩ = some (.int .i64 mk.d) ∧ w'.cell? ⟨w.heap.size, 2, none⟩ = some (.int .i64 mk.s) ∧ w'.cell? ⟨w.heap.size, 3, none⟩ = some (.int .i64 mk.m) ∧ w'.cell? ⟨w.heap.size, 4, none⟩ = some (.int .i64 mk.l) ∧ w'.cell? ⟨w.heap.size, 5, none⟩ = some (.slice (some ⟨b, off, none⟩) n3 cap)) := fun w' e => SysAt.all ⟨c0', c1', c2', c3', c4', c5'⟩ e
        replace HG := Lib.hid (fun (w' : World) (e : Ext w3 w') => HG.out w' (et.trans e))
        have HR := Lib.hid (fun (w' : World) (e : Ext w3 w') => R0.ext e)
        have HE := Lib.hid (fun (w' : World) (e : Ext w3 w') => et.trans e)
        clear R0 et e1 e2 e3
        go_wp2_with fail
        go_region_held3 (fun w' => w'.cell? ⟨w.heap.size, 0, none⟩ = some (.int .i64 mk.c) ∧ w'.cell? ⟨w.heap.size, 1, none⟩ = some (.int .i64 mk.d) ∧ w'.cell? ⟨w.heap.size, 2, none⟩ = some (.int .i64 mk.s) ∧ w'.cell? ⟨w.heap.size, 3, none⟩ = some (.int .i64 mk.m) ∧ w'.cell? ⟨w.heap.size, 4, none⟩ = some (.int .i64 mk.l) ∧ w'.cell? ⟨w.heap.size, 5, none⟩ = some (.slice (some ⟨b, off, none⟩) n3 cap)) (exact HA.out _ (by repeat (first | with_reducible exact Ext.refl _ | with_reducible assumption | (with_reducible refine keep_storeR ?_ (Nat.le_refl _)) | (with_reducible refine keep_storeR ?_ (Nat.le_succ _)) | (with_reducible refine keep_storeR ?_ zX) | (with_reducible refine keep_storeR ?_ (Nat.le_succ_of_le zX)) | (with_reducible refine Ext.trans ?_ (Ext.drew _)) | (with_reducible refine Ext.trans ?_ (Ext.alloc _ _))))) (first | (go_at_call 70; (with_reducible refine (HG.out _ (by repeat (first | exact Ext.refl _ | assumption | (refine Ext.trans ?_ (Ext.alloc _ _)) | (refine Ext.trans ?_ (Ext.drew _)) | (refine Ext.trans ?_ (by assumption))))).mono ?_); rintro e w7 hr7; obtain ⟨r7, rfl, o7, e7⟩ := ret_ext hr7; clear hr7; have e37 : Ext w3 w7 := (by repeat (first | exact Ext.refl _ | assumption | (refine Ext.trans ?_ (Ext.alloc _ _)) | (refine Ext.trans ?_ (Ext.drew _)) | (refine Ext.trans ?_ (by assumption)))); have zX := Ext.size e37; obtain ⟨a7, n7, k7, rfl, -⟩ := OwnA.shape o7; (first | (with_reducible have q := afterR e7; have z5 := ResAt.lt q; have z5' := Nat.ne_of_lt z5; have z5'' := Nat.ne_of_gt z5; obtain ⟨q0, q1, q2, q3, q4, q5, f0, f1, f2, f3, f4, f5⟩ := q) | skip); clear c0' c1' c2' c3' c4' c5') | fail)
        all_goals
          rename_i hHeld
          have hn7 := o7.len
          (first | (generalize hwB : World.setCell _ _ _ = wB; have hB := boxA stable_into e7 o7 hwB; clear q0 q1 q2 q3 q4 q5 f0 f1 f2 f3 f4 f5 z5 z5' z5''; clear o7 e7 e37 zX hwB; generalize w3.heap.size = X at *) | (generalize hwB : World.alloc _ _ = wB; have hB := boxB stable_into e7 o7 hwB; clear o7 e7 e37 zX hwB; generalize w7.heap.size = X at *))
          clear hHeld
          obtain ⟨L, H, hL, hH, hX, hX0, hrows, hS, eB⟩ := hB
          have hz3 : w.heap.size + 1 < w3.heap.size := (HR.out w3 (Ext.refl _)).lt
          have hnn : n7 = n3 := by rw [hn7, Hn.out]
          subst hnn
          have hmix := mixX_start (f := addRow col) hrows (X := X) (fun h => by have q1 := h.1; have q2 := h.2; simp only at q1 q2; omega)
          obtain ⟨bb, oo, rfl, hbz⟩ : ∃ bb oo, a7 = some ⟨bb, oo, none⟩ ∧ (L ≤ bb ∧ bb < H) := by
            obtain ⟨a', n', c', he, -, -, -, -, -, hel⟩ := SliceR.shape hrows
            obtain ⟨b1, o1, he2, hz1, -⟩ := hel 0 (by omega)
            injection he with he1 _ _
            exact ⟨b1, o1, by rw [he1, he2], hz1⟩
          obtain ⟨hbz1, hbz2⟩ := hbz
          have hbX : bb ≠ X := by omega
          have hl7 : n7 = t.length := Hn.out
          clear hrows HA HG hn7 hrow
          have Hl7 := Lib.hid hl7
          clear hl7 Hn
          have hc5 := hS.c5
          go_wp2_with fail
          go_loopw [10, 11, 46] (fun _ _ s wr => ∃ k H' : Nat, k ≤ n7 ∧ s = .int .i64 k ∧ SliceR (MixX X) ⟨L, H', true⟩ wr (.slice (some ⟨bb, oo, none⟩) n7 k7) (mixL (addRow col) t k) ∧ H' ≤ wr.heap.size ∧ Below w3.heap.size wB wr ∧ SysAt wr X mk (.slice (some ⟨bb, oo, none⟩) n7 k7)) (fun _ _ s _ => n7 - (intOf s).toNat)
          case atStart => exact ⟨0, H, Nat.zero_le _, rfl, hmix, hH, Below.refl _ _, hS⟩
          case round =>
            obtain ⟨k, H', hk, rfl, hm, hH', hbw, hSk⟩ := hrel
            have ew : Ext w3 wr := Below.trans eB hbw
            have hc5' := hSk.c5
            by_cases hlt : k < n7
            · obtain ⟨u, Y, hi', hcu, hfr, hzb, hEu, hYs, hYo, hYb, hrep⟩ := SliceR.replace (stable_mixX X) hm rfl hH' k hlt
              rw [mixL_at] at hEu
              obtain ⟨hO, hOX⟩ := hEu.2 rfl
              simp only at hO
              have hlr := HL.out k (by rw [← Hl7.out]; exact hlt)
              obtain ⟨ra, rn, rc', rfl, hrn, hrm, -⟩ := OwnP.shape hO.2.1
              obtain ⟨bc, oc, rfl, HCx, hci⟩ : ∃ bc oc, a3 = some ⟨bc, oc, none⟩ ∧ Hid (∀ w', Ext w3 w' → w'.cell? ⟨bc, oc + k, none⟩ = some (.int .i64 (col.getD k 0))) ∧ I64 (col.getD k 0) := by
                obtain ⟨a', n', c', he, hn', -, -, -, -, hel⟩ := IntsR.shape (HCol.out w3 (HE.out w3 (Ext.refl _)))
                injection he with he1 he2 he3
                obtain ⟨b1, o1, he4, hc1, hi1, -⟩ := hel k (by omega)
                exact ⟨b1, o1, by rw [he1, he4], fun w' e => e.cell hc1, hi1⟩
              have hcx := HCx.out wr ew
              have HA1 : Hid (∀ w', Ext wr w' → w'.cell? ⟨X, 5, none⟩ = some (.slice (some ⟨bb, oo, none⟩) n7 k7) ∧ w'.cell? ⟨bb, oo + k, none⟩ = some (.slice ra rn rc')) := fun w' e => ⟨e.cell hc5', e.cell hcu⟩
              have HX : Hid (∀ W w8, Ext wr W → W.grownBy w8 (Value.slice ra rn rc').ownBlock → (w8.cell? ⟨X, 5, none⟩ = some (.slice (some ⟨bb, oo, none⟩) n7 k7) ∧ w8.cell? ⟨bb, oo + k, none⟩ = some (.slice ra rn rc')) ∧ w8.frozen? ⟨bb, oo + k, none⟩ = false) := fun W w8 e hg => by
                have l1 := World.block_lt_of_cell? _ _ hc5'
                have l2 := World.block_lt_of_cell? _ _ hcu
                have l3 := e.size
                simp only at l1 l2
                have hb1 : w8.heap[X]? = wr.heap[X]? := (hg.block X (by omega) (fun h => hOX h.symm)).trans (Below.block e X l1)
                have hb2 : w8.heap[bb]? = wr.heap[bb]? := (hg.block bb (by omega) (fun h => hYb (hO.2.2 bb h.symm))).trans (Below.block e bb l2)
                exact ⟨⟨(World.cell?_of_block (a := ⟨X, 5, none⟩) hb1).trans hc5', (World.cell?_of_block (a := ⟨bb, oo + k, none⟩) hb2).trans hcu⟩, (World.frozen?_of_block (a := ⟨bb, oo + k, none⟩) hb2).trans hfr⟩
              have HOw := Lib.hid hO.2.1
              have HY := Lib.hid hO.2.2
              have HOX := Lib.hid hOX
              have HM : Hid (∀ x ∈ addRow col k (t.getD k []), I64 x) := fun x hx => by
                rcases List.mem_append.1 hx with h | h
                · exact hO.1 x h
                · rw [List.mem_singleton.1 h]; exact hci
              have HAR : Hid (addRow col k (t.getD k []) = t.getD k [] ++ [col.getD k 0]) := rfl
              have Hrl : Hid ((t.getD k []).length ≤ 12) := by show _ ≤ _; omega
              have Hrep := Lib.hid hrep
              have HYs := Lib.hid hYs
              have HYb := Lib.hid hYb
              have hww := ew.size
              have Hm := Lib.hid hSk
              have HL3 : Hid (∀ k, (Value.slice ra rn rc').ownBlock = some k → w3.heap.size ≤ k) := fun k hk => by
                have := (hYs.1 k (hO.2.2 k hk)).1
                simp only at this
                omega
              clear hO hEu hrep hlr hYo hm hrn hOX hSk hYb
              generalize hxe : col.getD k 0 = x at *
              clear hxe
              have l1 := World.block_lt_of_cell? _ _ hc5'
              have l2 := World.block_lt_of_cell? _ _ hcu
              have l3 := World.block_lt_of_cell? _ _ hcx
              simp only at l1 l2 l3
              have l1' := Nat.ne_of_lt l1; have l1'' := Nat.ne_of_gt l1
              have l2' := Nat.ne_of_lt l2; have l2'' := Nat.ne_of_gt l2
              have l3' := Nat.ne_of_lt l3; have l3'' := Nat.ne_of_gt l3
              go_wp2_with fail
              go_region_law (first | (refine step_append_of (by rfl) _ _ 41 (by rfl) (by rfl) (by rfl) (fun ty => run_appendR (f := Value.int .i64) (B := 0) 41 ty 0 8 Tryz.underlying41 Tryz.infoI64 rfl (fun _ => rfl) (OwnP.ext HOw.out (by repeat (first | exact Ext.refl _ | assumption | (refine Ext.trans ?_ (Ext.alloc _ _)) | (refine Ext.trans ?_ (Ext.drew _)) | (refine Ext.trans ?_ (by assumption))))) (E := IntR) (fun h => h.1) (ys := [x]) (by first | exact ints_one _ x _ hci | exact stable_ints.ext (ints_one _ x _ hci) (by repeat (first | exact Ext.refl _ | assumption | (refine Ext.trans ?_ (Ext.alloc _ _)) | (refine Ext.trans ?_ (Ext.drew _)) | (refine Ext.trans ?_ (by assumption))))) (by have := Hrl.out; rw [List.length_singleton]; omega) (by decide) (Nat.zero_le _)) ?_; intro v8 w8 h8; obtain ⟨o8, hg8, -, hb8⟩ := h8; have KX := HX.out _ _ (show Ext wr _ from (by repeat (first | exact Ext.refl _ | assumption | (refine Ext.trans ?_ (Ext.alloc _ _)) | (refine Ext.trans ?_ (Ext.drew _)) | (refine Ext.trans ?_ (by assumption))))) hg8; have KP := grown_pack (show Ext wr _ from (by repeat (first | exact Ext.refl _ | assumption | (refine Ext.trans ?_ (Ext.alloc _ _)) | (refine Ext.trans ?_ (Ext.drew _)) | (refine Ext.trans ?_ (by assumption))))) hg8 hb8 hww HL3.out; clear hg8 hb8; rw [← HAR.out] at o8; obtain ⟨a8, n8, k8, rfl, -⟩ := OwnP.shape o8; have KF := KX.2; obtain ⟨KC1, KC2⟩ := KX.1; clear hc5' hcu) | fail)
              all_goals (go_wp2_with fail; go_roundw)
              any_goals (simp [intOf]; omega)
              all_goals
                obtain ⟨p1, p2, p3, p4⟩ := KP
                obtain ⟨g8, hg8o, hg8l, hi8⟩ := OwnP.inBlock o8 HM.out (by rw [HAR.out]; simp)
                refine ⟨k + 1, w8.heap.size, by omega, by go_num, ?_, by rw [setCell_size]; exact Nat.le_refl _, Below.setCell (Below.trans hbw p4) (by show w3.heap.size ≤ bb; omega) _, SysAt.of Hm.out ((Below.heap_setCell _ _ _ _ (Ne.symm hbX)).trans (p2 X l1 (fun h => HOX.out h.symm)))⟩
                rw [← mixL_set]
                exact Hrep.out w8 _ (true, addRow col k (t.getD k [])) ⟨g8, g8 + 1, true⟩ w8.heap.size (by show H' ≤ w8.heap.size; omega) p1 (fun q hq hn => p2 q hq (fun h => hn (HY.out q h.symm))) ⟨fun _ => hi8, fun h => by cases h⟩ rfl (fun q hq => by
                  have q1 := hq.1; have q2 := hq.2; simp only at q1 q2
                  have : q = g8 := by omega
                  subst this
                  refine ⟨hg8l, ?_⟩
                  rcases p3 _ hg8o with h | h
                  · exact .inl (HY.out _ h)
                  · exact .inr h)
            · have hkn : k = t.length := by rw [← Hl7.out]; omega
              subst hkn
              have hr := mixX_end hm
              have hA : mapI (addRow col) t t.length = addCol t col := rfl
              rw [hA] at hr
              have hcall := HC3.out wr (HE.out wr ew) _ _ hr
              have hSk' := hSk
              obtain ⟨x0, x1, x2, x3, x4, x5⟩ := hSk'
              clear hm hmix hc5 hc5' hS HCol HL
              go_wp2_with fail
              refine Calls.mono hcall ?_
              rintro e wC hr2
              obtain ⟨r2, rfl, rfl, eC⟩ := ret_ext hr2
              clear hr2 hcall x0 x1 x2 x3 x4 x5 hA
              replace hSk := hSk.ext eC
              have hrows := stable_rows.ext hr eC
              have hH2 : H' ≤ wC.heap.size := Nat.le_trans hH' eC.size
              replace ew := ew.trans eC
              clear eC hr
              have R := HR.out wC ew
              have R' := R
              obtain ⟨d0, d1, d2, d3, d4, d5, f0, f1, f2, f3, f4, f5⟩ := R'
              have et := HE.out wC ew
              cases hi : isDesign mk (addCol t col) cuts with
              | false =>
                have HH := Lib.hid (H4.out hi)
                clear H4 H5 hi hrows hSk
                go_wp2_with fail
                generalize hwF : World.setCell _ _ _ = wF
                obtain ⟨wi, y0, y1, y2, y3, y4, y5⟩ := ResAt.fill R hwF
                have eF : Ext w wF := wi.above (Nat.le_succ _) et
                clear hwF
                refine bodyPost_ret (v := .tuple #[sysV noSys (.slice none 0 0), .int .i64 5]) (by simp [results, Tryz.results22, go_sem, y0, y1, y2, y3, y4, y5, sysV, noSys]) rfl ⟨_, rfl, SysRes.bad HH.out, eF⟩
              | true =>
                have HH := Lib.hid (H5.out hi)
                clear H4 H5 hi
                obtain ⟨x0, x1, x2, x3, x4, x5⟩ := hSk
                go_wp2_with fail
                generalize hwF : World.setCell _ _ _ = wF
                obtain ⟨wi, y0, y1, y2, y3, y4, y5⟩ := ResAt.fill R hwF
                have eF : Ext w wF := wi.above (Nat.le_succ _) et
                clear hwF
                refine bodyPost_ret (v := .tuple #[sysV mk (.slice (some ⟨bb, oo, none⟩) n7 k7), .int .i64 0]) (by simp [results, Tryz.results22, go_sem, y0, y1, y2, y3, y4, y5, sysV]) rfl ⟨_, rfl, ?_, eF⟩
                rw [HH.out]
                have hsF := wi.size
                refine ⟨_, rfl, stable_rows.sub (stable_rows.within hrows wi (fun q h1 h2 => by have q1 := h1.1; have q2 := h2.2; simp only at q1 q2; omega)) ⟨fun q hq => ⟨?_, ?_⟩, fun _ => rfl⟩⟩
                · have q1 := hq.1; simp only [Zone.new] at *; omega
                · have q2 := hq.2; simp only [Zone.new] at *; omega
  · have hb : (rc != 0) = true := by rw [bne_iff_ne]; exact hd0
    have HH := Lib.hid (H1.out hd0)
    clear hd0 H1 H2 H3 H4 H5 HOK HC1 HC2 HC3 HCol HEL HEB HG HR0 Hn S0 HT
    have R := R0
    obtain ⟨d0, d1, d2, d3, d4, d5, f0, f1, f2, f3, f4, f5⟩ := R0
    go_wp2_with fail
    generalize hwF : World.setCell _ _ _ = wF
    obtain ⟨wi, y0, y1, y2, y3, y4, y5⟩ := ResAt.fill R hwF
    have eF : Ext w wF := wi.above (Nat.le_succ _) et
    clear hwF
    refine bodyPost_ret (v := .tuple #[sysV noSys (.slice none 0 0), .int .i64 rc]) (by simp [results, Tryz.results22, go_sem, y0, y1, y2, y3, y4, y5, sysV, noSys]) rfl ⟨_, rfl, SysRes.bad HH.out, eF⟩
end Go.Proofs.YthgmojggpjnckaaGreat
