/- Proved: EasiestKey of the reference. -/
import Derived.Test.YtblmccofkochoaaGreatChecked
import Derived.Deep.RegionHeld3
import Derived.Test.YtblmccofkochoaaGreatUEasyLaw
import Derived.Test.YtblmccofkochoaaGreatUCands
import Derived.Test.YtblmccofkochoaaGreatURowCodeSpec
import Derived.Test.YtblmccofkochoaaGreatUChanged
namespace Go.Proofs.YtblmccofkochoaaGreat
open Go.ChangeShapes Go.WideShapes Go.ChangeAt Go.RowKit
set_option linter.unusedVariables false

/-- a list, a number and a code -/
def IntsTwo (w : World) (x : List Int × Int × Int) (r : Value) (w' : World) : Prop := ∃ u, r = .tuple #[u, .int .i64 x.2.1, .int .i64 x.2.2] ∧ IntsR (.new w w') w' u x.1
theorem IntsTwo_nil {w w' : World} {x : List Int × Int × Int} {a c : Int} (h : x = ([], a, c)) : IntsTwo w x (.tuple #[.slice none 0 0, .int .i64 a, .int .i64 c]) w' := by rw [h]; exact ⟨_, rfl, SliceR.nil _ _ _⟩
theorem IntsTwo_mk {w w' : World} {x : List Int × Int × Int} {a c : Int} {ys : List Int} {u : Value} (h : x = (ys, a, c)) (hr : IntsR (.new w w') w' u ys) : IntsTwo w x (.tuple #[u, .int .i64 a, .int .i64 c]) w' := by rw [h]; exact ⟨_, rfl, hr⟩
theorem take_next' {xs : List (List Int)} {k : Nat} (h : k < xs.length) : xs.take (k+1) = xs.take k ++ [xs.getD k []] := take_next h
theorem eas_yes {f : List Int → Nat} {L : List (List Int)} {b k : List Int} (h : easL f L = some b) (hf : f k < f b) : easL f (L ++ [k]) = some k := by
  rw [easL_snoc, h]; exact if_pos hf
theorem eas_no {f : List Int → Nat} {L : List (List Int)} {b k : List Int} (h : easL f L = some b) (hf : ¬ f k < f b) : easL f (L ++ [k]) = some b := by
  rw [easL_snoc, h]; exact if_neg hf
def BestAt (w3 : World) (Z : Zone) (k : List Int) (v : Value) : Prop := ∃ a n c y, v = .slice a n c ∧ y.Sub Z ∧ ∀ w', Ext w3 w' → IntsR y w' (.slice a n c) k
theorem rows_own {w : World} {a : Option Addr} {n cap : Nat} {z : Zone} {t : List (List Int)} (h : RowsR z w (.slice a n cap) t) {k : Nat} (hk : k < n) :
    ∃ b off, a = some ⟨b, off, none⟩ ∧ ∃ a1 n1 c1, (∀ w', Ext w w' → w'.cell? ⟨b, off + k, none⟩ = some (.slice a1 n1 c1)) ∧ BestAt w z (t.getD k []) (.slice a1 n1 c1) := by
  obtain ⟨a', n', cap', he, hn, -, -, -, -, hel⟩ := SliceR.shape h
  injection he with e1 e2 e3
  subst e1; subst e2; subst e3
  have hk' : k < t.length := by omega
  obtain ⟨b, off, rfl, -, -, -, u, y, hc, hy, -, hE⟩ := hel k hk'
  obtain ⟨a1, n1, c1, rfl, -⟩ := SliceR.shape hE
  have e : t.getD k [] = t[k] := by simp [hk']
  exact ⟨b, off, rfl, a1, n1, c1, fun w' e => e.cell hc, a1, n1, c1, y, rfl, hy, fun w' e' => by rw [e]; exact stable_ints.ext hE e'⟩

set_option maxRecDepth 20000 in
set_option maxHeartbeats 2000000 in
theorem EasiestKeySpec_c (w : World) (mk : MK) (v : Value) (z : Zone) (t : List (List Int)) (h : RowsR z w v t) (u : Value) (y : Zone) (cuts : List (List Int)) (hc : RowsR y w u cuts) (v3 : Value) (z3 : Zone) (row : List Int) (hr : IntsR z3 w v3 row) :
    Calls Tryz.prog 27 #[sysV mk v, u, v3] w (Ret w (IntsTwo w (easiest mk t cuts row))) := by
  have H1 : Hid (rowCode mk t cuts row [] ≠ 0 → easiest mk t cuts row = ([], 0, rowCode mk t cuts row [])) := easiest_bad
  have HOk : Hid (rowCode mk t cuts row [] = 0 → RowCodeOk mk t cuts row []) := rowCode_zero
  have HL : Hid (rowCode mk t cuts row [] = 0 → candL mk (fun k => decide (faults mk (t ++ [row]) (cuts ++ [k]) = 0)) 1000000 = (allK mk).filter (stays mk (t ++ [row]) cuts)) := fun h3 => by rw [candL_congr (cand_stays h3), candL_all (designOk_mk (rowCode_zero h3).toDesignOk)]
  have H2 : Hid (rowCode mk t cuts row [] = 0 → easL (changes mk t cuts row) ((allK mk).filter (stays mk (t ++ [row]) cuts)) = none → easiest mk t cuts row = ([], 0, 4)) := easiest_none
  have H3 : Hid (∀ b, rowCode mk t cuts row [] = 0 → easL (changes mk t cuts row) ((allK mk).filter (stays mk (t ++ [row]) cuts)) = some b → easiest mk t cuts row = (b, (changes mk t cuts row b : Int), 0)) := fun b => easiest_some
  have HC2 := Lib.hid (fun (w' : World) (e : Ext w w') => l24Row_c w' mk v z t (stable_rows.ext h e) u y cuts (stable_rows.ext hc e) v3 z3 row (stable_ints.ext hr e))
  have HC3 := Lib.hid (fun (h0 : rowCode mk t cuts row [] = 0) (w' : World) (e : Ext w w') => withFirst w' mk v z t (stable_rows.ext h e) v3 z3 row (stable_ints.ext hr e) (rowCode_zero h0))
  have HC4 := Lib.hid (fun (h0 : rowCode mk t cuts row [] = 0) (w' : World) (e : Ext w w') (v' : Value) (x1 : Zone) (g1 : RowsR x1 w' v' (t ++ [row])) => l16Candidates_c w' mk (designOk_mk (rowCode_zero h0).toDesignOk) v' x1 _ g1 u y cuts (stable_rows.ext hc e) (rowCode_front h0) (by have := (rowCode_zero h0).eq; simp; omega) (by have := (rowCode_zero h0).eq; have := (rowCode_zero h0).len; omega) 1000000 (by unfold I64; omega))
  have HC5 : Hid (rowCode mk t cuts row [] = 0 → ∀ (k : List Int), k ∈ (allK mk).filter (stays mk (t ++ [row]) cuts) → ∀ (w' : World) (e : Ext w w') (v4 : Value) (z4 : Zone) (g : IntsR z4 w' v4 k), Calls Tryz.prog 109 #[sysV mk v, u, v3, v4] w' (Ret w' fun r w'' => ∃ a n c, r = .slice a n c ∧ n = changes mk t cuts row k ∧ n ≤ 12)) := fun h0 k hk w' e v4 z4 g => by
    have ok := rowCode_zero h0
    refine (l24Changed_c w' mk v z t (stable_rows.ext h e) u y cuts (stable_rows.ext hc e) v3 z3 row (stable_ints.ext hr e) v4 z4 k g ok.toPartOk ok.row_len (by have := allK_key (designOk_mk ok.toDesignOk) (List.mem_filter.1 hk).1; exact this.len)).mono ?_
    rintro e w'' hr
    obtain ⟨r, rfl, o, e2⟩ := ret_ext hr
    obtain ⟨a, n, c, rfl, hn, -⟩ := OwnP.shape o
    exact ⟨_, rfl, ⟨a, n, c, rfl, hn, by rw [hn]; have := changes_le mk t cuts row k; have := ok.doors; unfold changes at *; omega⟩, e2⟩
  have HB : Hid (rowCode mk t cuts row [] = 0 → ((allK mk).filter (stays mk (t ++ [row]) cuts)).length ≤ 262144) := fun h0 => Nat.le_trans (List.length_filter_le _ _) (allK_length (designOk_mk (rowCode_zero h0).toDesignOk))
  generalize candL mk (fun k => decide (faults mk (t ++ [row]) (cuts ++ [k]) = 0)) 1000000 = cl at *
  generalize (allK mk).filter (stays mk (t ++ [row]) cuts) = L at *
  generalize changes mk t cuts row = f at *
  generalize easiest mk t cuts row = res at *
  generalize rowCode mk t cuts row [] = rc at *
  obtain ⟨a, n, cap, rfl, -⟩ := SliceR.shape h
  obtain ⟨a2, n2, cap2, rfl, -⟩ := SliceR.shape hc
  obtain ⟨a3, n3, cap3, rfl, -⟩ := SliceR.shape hr
  clear h hc hr
  unfold sysV at *
  go_enter Tryz.func27, Tryz.ntmps27
  go_wp2_with fail
  generalize hw0 : World.alloc _ _ = w0
  obtain ⟨e0, S0⟩ := sys_box hw0
  clear hw0
  refine Calls.mono (HC2.out w0 e0) ?_
  rintro e w1 hr
  obtain ⟨r, rfl, rfl, e1⟩ := ret_ext hr
  clear hr
  have HS1 := Lib.hid (S0.ext e1)
  obtain ⟨c0, c1, c2, c3, c4, c5⟩ := HS1.out
  have et := e0.trans e1
  clear S0
  by_cases hd : rc = 0
  · have hb : (rc != 0) = false := by rw [hd]; rfl
    have hcall := HC3.out hd w1 et
    have HD4 := Lib.hid (HC4.out hd)
    have HD5 := Lib.hid (HC5.out hd)
    have HDL := Lib.hid (HL.out hd)
    have HDB := Lib.hid (HB.out hd)
    have HD2 := Lib.hid (H2.out hd)
    have HD3 := Lib.hid (fun b => H3.out b hd)
    clear hd H1 H2 H3 HC2 HC3 HC4 HC5 HL HB HOk
    go_wp2_with fail
    refine Calls.mono hcall ?_
    rintro e w2 hr
    obtain ⟨r, rfl, ⟨v', rfl, g1⟩, e2⟩ := ret_ext hr
    clear hr hcall
    have et2 := et.trans e2
    have hcall := HD4.out w2 et2 v' _ g1
    rw [HDL.out] at hcall
    obtain ⟨a5, n5, k5, rfl, -⟩ := SliceR.shape g1
    clear HD4 g1
    go_wp2_with fail
    refine Calls.mono hcall ?_
    rintro e w3 hr
    obtain ⟨r, rfl, g5, e3⟩ := ret_ext hr
    clear hr hcall
    have et3 := et2.trans e3
    obtain ⟨a6, n6, k6, rfl, hn6, hn7, -⟩ := SliceR.shape g5
    have HE := Lib.hid (fun (k : Nat) (hk : k < n6) => rows_own g5 hk)
    have HDB' := HDB.out
    rw [← hn6] at HDB'
    have Hn6 := Lib.hid hn6
    clear g5 hn6
    by_cases h6 : n6 = 0
    · have HH : Hid (res = ([], 0, 4)) := HD2.out (easL_none.2 (List.eq_nil_of_length_eq_zero (by rw [← Hn6.out]; exact h6)))
      subst h6
      go_wp2_with fail
      go_ret3
      exact ⟨_, rfl, IntsTwo_nil HH.out, et3⟩
    · obtain ⟨bq, oq, rfl, a0, n0, k0, hcell0, hbest0⟩ := HE.out 0 (by omega)
      have h60 : 0 < n6 := by omega
      have h61 : (0 : Int) < (n6 : Int) := by omega
      have hb6 : ((n6 : Int) == 0) = false := by rw [beq_eq_false_iff_ne]; omega
      have h00 := hcell0 w3 (Ext.refl _)
      rw [Nat.add_zero] at h00
      have HB0 : Hid (easL f (L.take 1) = some (L.getD 0 [])) := by
        show _ = _
        have h0 : 0 < L.length := by rw [← Hn6.out]; exact h60
        cases L with
        | nil => simp at h0
        | cons x L => rfl
      have HTk : Hid (∀ k, k < n6 → L.take (k + 1) = L.take k ++ [L.getD k []]) := fun k hk => take_next (by rw [← Hn6.out]; exact hk)
      have HMem : Hid (∀ k, k < n6 → L.getD k [] ∈ L) := fun k hk => by
        have hk' : k < L.length := by rw [← Hn6.out]; exact hk
        have e : L.getD k [] = L[k] := by simp [hk']
        rw [e]; exact List.getElem_mem hk'
      have HAll : Hid (L.take n6 = L) := by show _ = _; rw [Hn6.out, List.take_length]
      have HBest0 := Lib.hid hbest0
      clear hbest0 hcell0 h6
      go_wp2_with fail
      go_loopw [11, 12] (fun s11 s12 wr => ∃ i j : Nat, 1 ≤ i ∧ i ≤ n6 ∧ j < n6 ∧ s12 = .int .i64 i ∧ BestAt w3 (.new w2 w3) (L.getD j []) s11 ∧ easL f (L.take i) = some (L.getD j []) ∧ Ext w3 wr) (fun _ s12 _ => n6 - (intOf s12).toNat)
      case atStart => exact ⟨1, 0, Nat.le_refl _, h60, h60, rfl, HBest0.out, HB0.out, Ext.refl _⟩
      case round =>
        obtain ⟨i, j, hi1, hi, hj, rfl, ⟨a4, n4, k4, y4, rfl, hy4, hr4⟩, hbest, ew⟩ := hrel
        have HBest := Lib.hid hbest
        have HR4 := Lib.hid hr4
        have HY4 := Lib.hid hy4
        have HE0 := Lib.hid (et3.trans ew)
        clear hbest hr4 hy4
        by_cases hlt : i < n6
        · obtain ⟨_, _, he, a1, n1, c1, hcell1, ⟨a1', n1', c1', y1, he1, hy1, hr1⟩⟩ := HE.out i hlt
          injection he with he; injection he with he1' he2 _
          subst he1'; subst he2
          injection he1 with q1 q2 q3
          subst q1; subst q2; subst q3
          have HC1 := Lib.hid hcell1
          have HR1 := Lib.hid hr1
          have HY1 := Lib.hid hy1
          have HCel : Hid (∀ w', Ext wr w' → w'.cell? ⟨w.heap.size, 0, none⟩ = some (.int .i64 mk.c) ∧ w'.cell? ⟨w.heap.size, 1, none⟩ = some (.int .i64 mk.d) ∧ w'.cell? ⟨w.heap.size, 2, none⟩ = some (.int .i64 mk.s) ∧ w'.cell? ⟨w.heap.size, 3, none⟩ = some (.int .i64 mk.m) ∧ w'.cell? ⟨w.heap.size, 4, none⟩ = some (.int .i64 mk.l) ∧ w'.cell? ⟨w.heap.size, 5, none⟩ = some (.slice a n cap) ∧ w'.cell? ⟨bq, oq + i, none⟩ = some (.slice a1 n1 c1)) := fun w' e => have q := HS1.out.ext (((e2.trans e3).trans ew).trans e); ⟨q.c0, q.c1, q.c2, q.c3, q.c4, q.c5, HC1.out w' (ew.trans e)⟩
          have HA1 := Lib.hid (fun (w' : World) (e : Ext wr w') => HD5.out _ (HMem.out i hlt) w' (HE0.out.trans e) _ _ (HR1.out w' (ew.trans e)))
          have HA4 := Lib.hid (fun (w' : World) (e : Ext wr w') => HD5.out _ (HMem.out j hj) w' (HE0.out.trans e) _ _ (HR4.out w' (ew.trans e)))
          have HYes := Lib.hid (fun (h : f (L.getD i []) < f (L.getD j [])) => eas_yes HBest.out h)
          have HNo := Lib.hid (fun (h : ¬ f (L.getD i []) < f (L.getD j [])) => eas_no HBest.out h)
          have HT := Lib.hid (HTk.out i hlt)
          have hin : (i : Int) < (n6 : Int) := by omega
          have hi0 : (0 : Int) ≤ (i : Int) := by omega
          clear hcell1 hr1 hy1
          generalize hfi : f (L.getD i []) = fi at *
          generalize hfj : f (L.getD j []) = fj at *
          clear hfi hfj
          go_wp2_with fail
          first | (go_region_held3 (fun w' => w'.cell? ⟨w.heap.size, 0, none⟩ = some (.int .i64 mk.c) ∧ w'.cell? ⟨w.heap.size, 1, none⟩ = some (.int .i64 mk.d) ∧ w'.cell? ⟨w.heap.size, 2, none⟩ = some (.int .i64 mk.s) ∧ w'.cell? ⟨w.heap.size, 3, none⟩ = some (.int .i64 mk.m) ∧ w'.cell? ⟨w.heap.size, 4, none⟩ = some (.int .i64 mk.l) ∧ w'.cell? ⟨w.heap.size, 5, none⟩ = some (.slice a n cap) ∧ w'.cell? ⟨bq, oq + i, none⟩ = some (.slice a1 n1 c1)) (exact HCel.out _ (by repeat (first | exact Ext.refl _ | assumption | (refine Ext.trans ?_ (Ext.alloc _ _)) | (refine Ext.trans ?_ (Ext.drew _)) | (refine Ext.trans ?_ (by assumption))))) (first | ((with_reducible refine (HA1.out _ (by repeat (first | exact Ext.refl _ | assumption | (refine Ext.trans ?_ (Ext.alloc _ _)) | (refine Ext.trans ?_ (Ext.drew _)) | (refine Ext.trans ?_ (by assumption))))).mono ?_); rintro e w7 hr7; obtain ⟨r7, rfl, ⟨a7, n7, k7, rfl, rfl, h7⟩, e7⟩ := ret_ext hr7; clear hr7; have eL7 : Ext wr w7 := (by repeat (first | exact Ext.refl _ | assumption | (refine Ext.trans ?_ (Ext.alloc _ _)) | (refine Ext.trans ?_ (Ext.drew _)) | (refine Ext.trans ?_ (by assumption)))); have cX7 := HC1.out w7 (ew.trans eL7)) | ((with_reducible refine (HA4.out _ (by repeat (first | exact Ext.refl _ | assumption | (refine Ext.trans ?_ (Ext.alloc _ _)) | (refine Ext.trans ?_ (Ext.drew _)) | (refine Ext.trans ?_ (by assumption))))).mono ?_); rintro e w8 hr8; obtain ⟨r8, rfl, ⟨a8, n8, k8, rfl, rfl, h8⟩, e8⟩ := ret_ext hr8; clear hr8; have eL8 : Ext wr w8 := (by repeat (first | exact Ext.refl _ | assumption | (refine Ext.trans ?_ (Ext.alloc _ _)) | (refine Ext.trans ?_ (Ext.drew _)) | (refine Ext.trans ?_ (by assumption)))); have cX8 := HC1.out w8 (ew.trans eL8)) | fail)) | fail
          all_goals
            by_cases hf : n7 < n8
            focus
              have HE1 : Hid (easL f (L.take (i + 1)) = some (L.getD i [])) := by show _ = _; rw [HT.out]; exact HYes.out hf
              have hbf : decide (n7 < n8) = true := decide_eq_true hf
              go_wp2_with fail
              go_roundw
              case rel => exact ⟨i + 1, i, by omega, by omega, hlt, by go_num, ⟨_, _, _, _, rfl, HY1.out, HR1.out⟩, HE1.out, by first | exact ew.trans eL8 | exact ew.trans eL7⟩
              case measure => simp [intOf] <;> omega
            have HE1 : Hid (easL f (L.take (i + 1)) = some (L.getD j [])) := by show _ = _; rw [HT.out]; exact HNo.out hf
            have hbf : decide (n7 < n8) = false := decide_eq_false hf
            go_wp2_with fail
            go_roundw
            case rel => exact ⟨i + 1, j, by omega, by omega, hj, by go_num, ⟨_, _, _, _, rfl, HY4.out, HR4.out⟩, HE1.out, by first | exact ew.trans eL8 | exact ew.trans eL7⟩
            case measure => simp [intOf] <;> omega
        · have hie : i = n6 := by omega
          have HH : Hid (res = (L.getD j [], (f (L.getD j []) : Int), 0)) := HD3.out _ (by rw [← HBest.out, hie, HAll.out])
          have hcall := HD5.out _ (HMem.out j hj) wr HE0.out _ _ (HR4.out wr ew)
          have HX := Lib.hid (HR4.out)
          obtain ⟨c0, c1, c2, c3, c4, c5⟩ := HS1.out.ext ((e2.trans e3).trans ew)
          clear hie
          generalize f (L.getD j []) = fj at *
          go_wp2_with fail
          refine Calls.mono hcall ?_
          rintro e w7 hr7
          obtain ⟨r7, rfl, ⟨a7, n7, k7, rfl, rfl, h7⟩, e7⟩ := ret_ext hr7
          clear hr7 hcall
          go_wp2_with fail
          go_ret3
          refine ⟨_, rfl, IntsTwo_mk HH.out (stable_ints.sub (HX.out w7 (ew.trans e7)) (HY4.out.trans ⟨fun k hk => ⟨Nat.le_trans et2.size hk.1, Nat.lt_of_lt_of_le hk.2 (ew.trans e7).size⟩, fun h => h⟩)), HE0.out.trans e7⟩
  · have HH := Lib.hid (H1.out hd)
    have hb : (rc != 0) = true := by rw [bne_iff_ne]; exact hd
    clear H1 H2 H3 hd
    go_wp2_with fail
    go_ret3
    exact ⟨_, rfl, IntsTwo_nil HH.out, et⟩
end Go.Proofs.YtblmccofkochoaaGreat
