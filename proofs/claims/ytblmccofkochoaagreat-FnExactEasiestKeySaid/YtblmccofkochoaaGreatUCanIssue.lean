/- Proved: CanIssue of the program. -/
import Derived.Test.YtblmccofkochoaaGreatChecked
import Derived.Test.YtblmccofkochoaaGreatUCanSpec
import Derived.Test.YtblmccofkochoaaGreatUStaysOpen
namespace Go.Proofs.YtblmccofkochoaaGreat
open Go.ChangeShapes Go.WideShapes Go.ChangeAt Go.RowKit
set_option linter.unusedVariables false

theorem withFirstI (w : World) (mk : MK) (v : Value) (z : Zone) (t : List (List Int)) (h : RowsR z w v t) (u : Value) (y : Zone) (row : List Int) {cuts keys : List (List Int)} (hr : IntsR y w u row) (ok : RowCodeOk mk t cuts row keys) :
    Calls Tryz.prog 144 #[sysV mk v, u] w (Ret w fun r w' => ∃ v', r = sysV mk v' ∧ RowsR ⟨w.heap.size, w'.heap.size, false⟩ w' v' (t ++ [row])) :=
  withRow_c w mk v z t h u y row hr (by have := ok.len; omega) (fun k hk => by rw [ok.row k hk]; have := ok.doors; omega) (by rw [ok.row_len]; have := ok.doors; omega)

set_option maxRecDepth 20000 in
set_option maxHeartbeats 1000000 in
theorem CanIssue_c (w : World) (mk : MK) (v : Value) (z : Zone) (t : List (List Int)) (h : RowsR z w v t) (u : Value) (y : Zone) (cuts : List (List Int)) (hc : RowsR y w u cuts) (v3 : Value) (z3 : Zone) (row : List Int) (hr : IntsR z3 w v3 row) (v4 : Value) (z4 : Zone) (key : List Int) (hk : IntsR z4 w v4 key) :
    Calls Tryz.prog 60 #[sysV mk v, u, v3, v4] w (Ret w fun r _ => r = BoolCode (canIssue mk t cuts row key)) := by
  have H1 : Hid (rowCode mk t cuts row [key] ≠ 0 → canIssue mk t cuts row key = (false, rowCode mk t cuts row [key])) := canIssue_bad
  have H2 : Hid (rowCode mk t cuts row [key] = 0 → canIssue mk t cuts row key = (stays mk (t ++ [row]) cuts key, 0)) := canIssue_ok
  have HC1 := Lib.hid (fun (w' : World) (e : Ext w w') (u4 : Value) (z5 : Zone) (g : RowsR z5 w' u4 [key]) => rowCode_c w' mk v z t (stable_rows.ext h e) u y cuts (stable_rows.ext hc e) v3 z3 row (stable_ints.ext hr e) u4 z5 [key] g)
  have HC2 := Lib.hid (fun (h0 : rowCode mk t cuts row [key] = 0) (w' : World) (e : Ext w w') => withFirstI w' mk v z t (stable_rows.ext h e) v3 z3 row (stable_ints.ext hr e) (rowCode_zero h0))
  have HC3 := Lib.hid (fun (h0 : rowCode mk t cuts row [key] = 0) (w' : World) (e : Ext w w') (v' : Value) (x1 : Zone) (g1 : RowsR x1 w' v' (t ++ [row])) => staysOpen_c w' mk v' x1 _ g1 u y cuts (stable_rows.ext hc e) (partOk_front (rowCode_zero h0)) (by have := (rowCode_zero h0).eq; simp; omega) (fun _ => True) (fun _ _ => trivial) (fun _ _ => trivial))
  have HC4 := Lib.hid (fun (h0 : rowCode mk t cuts row [key] = 0) (w' : World) (e : Ext w w') (v' : Value) (x1 : Zone) (g1 : RowsR x1 w' v' (t ++ [row])) (vl : Value) (zl : Zone) (hL : LocksR zl w' vl (locks mk (t ++ [row]) cuts)) (vr : Value) (zr : Zone) (hr : IntsR zr w' vr ((t ++ [row]).getD cuts.length [])) (bl br bc bs : Nat) (cl : w'.cell? ⟨bl, 0, none⟩ = some vl) (cr : w'.cell? ⟨br, 0, none⟩ = some vr) (cc : w'.cell? ⟨bc, 0, none⟩ = some u) (S0 : SysAt w' bs mk v') =>
    stays1_c w' mk v' x1 _ g1 u y cuts (stable_rows.ext hc e) (partOk_front (rowCode_zero h0)) (by have := (rowCode_zero h0).eq; simp; omega) v4 z4 key (stable_ints.ext hk e) ((rowCode_zero h0).row_keys key (List.mem_singleton.2 rfl)) vl zl hL vr zr hr bl br bc bs cl cr cc S0)
  have HKey := Lib.hid (fun (w' : World) (e : Ext w w') => stable_ints.ext hk e)
  generalize canIssue mk t cuts row key = res at *
  generalize rowCode mk t cuts row [key] = rc at *
  generalize stays mk (t ++ [row]) cuts key = q at *
  obtain ⟨a, n, cap, rfl, -⟩ := SliceR.shape h
  obtain ⟨a2, n2, cap2, rfl, -⟩ := SliceR.shape hc
  obtain ⟨a3, n3, cap3, rfl, -⟩ := SliceR.shape hr
  obtain ⟨a4, n4, cap4, rfl, -⟩ := SliceR.shape hk
  clear h hc hr hk
  unfold sysV at *
  go_enter Tryz.func60, Tryz.ntmps60
  go_wp2_with fail
  generalize hw0 : World.alloc w _ = w0
  obtain ⟨e0, S0⟩ := sys_box hw0
  generalize hwk : World.alloc w0 _ = wk
  obtain ⟨ek, gk⟩ := rows_one (HKey.out w0 e0) hwk
  have hz0 : w0.heap.size = w.heap.size + 1 := by rw [← hw0]; simp
  rw [hz0] at gk
  clear hz0
  replace S0 := S0.ext ek
  clear hw0 hwk
  have etk := e0.trans ek
  refine Calls.mono (HC1.out wk etk _ _ gk) ?_
  rintro e w1 hr
  obtain ⟨r, rfl, rfl, e1⟩ := ret_ext hr
  clear hr gk
  obtain ⟨c0, c1, c2, c3, c4, c5⟩ := S0.ext e1
  have et := etk.trans e1
  by_cases hd : rc = 0
  · have hb : (rc != 0) = false := by rw [hd]; rfl
    have HH := Lib.hid (H2.out hd)
    have hcall := HC2.out hd w1 et
    have HD3 := Lib.hid (HC3.out hd)
    have HD4 := Lib.hid (HC4.out hd)
    clear hd H1 H2 S0 HC1 HC2 HC3 HC4
    go_wp2_with fail
    refine Calls.mono hcall ?_
    rintro e w2 hr
    obtain ⟨r, rfl, ⟨v', rfl, g1⟩, e2⟩ := ret_ext hr
    clear hr hcall
    obtain ⟨a5, n5, cap5, rfl, -⟩ := SliceR.shape g1
    have et2 := et.trans e2
    have hcall := HD3.out w2 et2 _ _ g1
    have G1 := Lib.hid g1
    clear g1
    go_wp2_with fail
    refine Calls.mono hcall ?_
    rintro e w3 hr
    obtain ⟨r, rfl, ⟨bl, br, bc, bs, vl, zl, vr, zr, rfl, hL, hR, k1, k2, k3, k4⟩, e3⟩ := ret_ext hr
    clear hr hcall
    have et3 := et2.trans e3
    have hcall := HD4.out w3 et3 _ _ (stable_rows.ext G1.out e3) vl zl hL vr zr hR bl br bc bs k1 k2 k3 k4.1
    clear hL hR k1 k2 k3 k4
    go_wp2_with fail
    refine Calls.mono hcall ?_
    rintro e w4 hr
    obtain ⟨r, rfl, rfl, e4⟩ := ret_ext hr
    clear hr hcall
    go_wp2_with fail
    go_ret2
    exact ⟨_, rfl, BoolCode_mk HH.out, et3.trans e4⟩
  · have hb : (rc != 0) = true := by rw [bne_iff_ne]; exact hd
    have HH := Lib.hid (H1.out hd)
    clear hd H1 H2 S0
    go_wp2_with fail
    go_ret2
    exact ⟨_, rfl, BoolCode_mk HH.out, et⟩
end Go.Proofs.YtblmccofkochoaaGreat
