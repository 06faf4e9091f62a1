/- Proved: ExtendSystem of the program. -/
import Derived.Test.YtgagjibjnaappaaGreatChecked
import Derived.Test.YtgagjibjnaappaaGreatUExtLaw
import Derived.Test.YtgagjibjnaappaaGreatUCanIssue
namespace Go.Proofs.YtgagjibjnaappaaGreat
open Go.ChangeShapes Go.WideShapes Go.ChangeAt Go.RowKit
set_option linter.unusedVariables false

set_option maxRecDepth 20000 in
set_option maxHeartbeats 2000000 in
theorem ExtendSystem_c (w : World) (mk : MK) (v : Value) (z : Zone) (t : List (List Int)) (h : RowsR z w v t) (u : Value) (y : Zone) (cuts : List (List Int)) (hc : RowsR y w u cuts) (v3 : Value) (z3 : Zone) (row : List Int) (hr : IntsR z3 w v3 row) (v4 : Value) (z4 : Zone) (key : List Int) (hk : IntsR z4 w v4 key) :
    Calls Tryz.prog 11 #[sysV mk v, u, v3, v4] w (Ret w (SysRes2 w (extendSys mk t cuts row key))) := by
  have H1 : Hid (rowCode mk t cuts row [key] ≠ 0 → extendSys mk t cuts row key = noRes (rowCode mk t cuts row [key])) := extend_bad
  have H2 : Hid (rowCode mk t cuts row [key] = 0 → stays mk (t ++ [row]) cuts key = false → extendSys mk t cuts row key = noRes 5) := extend_state
  have H3 : Hid (rowCode mk t cuts row [key] = 0 → stays mk (t ++ [row]) cuts key = true → extendSys mk t cuts row key = ((mk, t ++ [row]), (cuts ++ [key], 0))) := extend_ok
  have HB1 : Hid (rowCode mk t cuts row [key] ≠ 0 → canIssue mk t cuts row key = (false, rowCode mk t cuts row [key])) := canIssue_bad
  have HB2 : Hid (rowCode mk t cuts row [key] = 0 → canIssue mk t cuts row key = (stays mk (t ++ [row]) cuts key, 0)) := canIssue_ok
  have HC1 := Lib.hid (fun (w' : World) (e : Ext w w') => CanIssue_c w' mk v z t (stable_rows.ext h e) u y cuts (stable_rows.ext hc e) v3 z3 row (stable_ints.ext hr e) v4 z4 key (stable_ints.ext hk e))
  have HC2 := Lib.hid (fun (h0 : rowCode mk t cuts row [key] = 0) (w' : World) (e : Ext w w') => withFirstOI w' mk v z t (stable_rows.ext h e) v3 z3 row (stable_ints.ext hr e) (rowCode_zero h0))
  have HC3 := Lib.hid (fun (h0 : rowCode mk t cuts row [key] = 0) (w' : World) (e : Ext w w') => copyLists_c w' u y cuts (stable_rows.ext hc e) (by have := (rowCode_zero h0).eq; have := (rowCode_zero h0).len; omega) (fun k hk => by have := (rowCode_zero h0).toDesignOk.rowLen hk; omega))
  have HC4 := Lib.hid (fun (h0 : rowCode mk t cuts row [key] = 0) (w' : World) (e : Ext w w') => Clone_c w' v4 z4 key (stable_ints.ext hk e) (by have := (rowCode_zero h0).keyLen; omega))
  have HM := Lib.hid (IntsR.mem hk)
  have HL : Hid (rowCode mk t cuts row [key] = 0 → cuts.length ≤ 10) := fun h0 => by have := (rowCode_zero h0).eq; have := (rowCode_zero h0).len; omega
  generalize extendSys mk t cuts row key = res at *
  generalize canIssue mk t cuts row key = cres at *
  generalize rowCode mk t cuts row [key] = rc at *
  generalize stays mk (t ++ [row]) cuts key = q at *
  obtain ⟨a, n, cap, rfl, -⟩ := SliceR.shape h
  obtain ⟨a2, n2, cap2, rfl, -⟩ := SliceR.shape hc
  obtain ⟨a3, n3, cap3, rfl, -⟩ := SliceR.shape hr
  obtain ⟨a4, n4, cap4, rfl, -⟩ := SliceR.shape hk
  clear h hc hr hk
  unfold sysV at *
  go_enter Tryz.func11, Tryz.ntmps11
  go_wp2_with fail
  generalize hw1 : World.alloc _ _ = w1
  obtain ⟨e1, S0, R0, hz1⟩ := two_box hw1
  clear hw1
  refine Calls.mono (HC1.out w1 e1) ?_
  rintro e w2 hr
  obtain ⟨r, rfl, rfl, e2⟩ := ret_ext hr
  clear hr HC1
  have et := e1.trans e2
  replace S0 := S0.ext e2
  have R := R0.ext e2
  clear R0
  by_cases hd0 : rc = 0
  · replace H2 := Lib.hid (H2.out hd0)
    replace H3 := Lib.hid (H3.out hd0)
    replace HC2 := Lib.hid (HC2.out hd0)
    replace HC3 := Lib.hid (HC3.out hd0)
    replace HC4 := Lib.hid (HC4.out hd0)
    have hcl := HL.out hd0
    rw [HB2.out hd0]
    clear H1 HB1 HB2 HL
    subst hd0
    unfold BoolCode
    simp only
    cases q with
    | false =>
      have HH := Lib.hid (H2.out rfl)
      clear H2 H3 HC2 HC3 HC4 S0
      have R' := R
      obtain ⟨d0, d1, d2, d3, d4, d5, f0, f1, f2, f3, f4, f5⟩ := R'
      go_wp2_with fail
      generalize hwF : World.setCell _ _ _ = wF
      obtain ⟨wi, y0, y1, y2, y3, y4, y5⟩ := ResAt.fill R hwF
      have eF : Ext w wF := wi.above (Nat.le_succ _) et
      clear hwF
      refine bodyPost_ret (v := .tuple #[sysV noSys (.slice none 0 0), .slice none 0 0, .int .i64 5]) (by simp [results, Tryz.results11, go_sem, y0, y1, y2, y3, y4, y5, sysV, noSys]) rfl ⟨_, rfl, SysRes2.bad HH.out eF.size, eF⟩
    | true =>
      have HH := Lib.hid (H3.out rfl)
      clear H2 H3
      obtain ⟨c0, c1, c2, c3, c4, c5⟩ := S0
      have hcall := HC2.out w2 et
      clear HC2
      go_wp2_with fail
      refine Calls.mono hcall ?_
      rintro e w3 hr
      obtain ⟨r, rfl, ⟨v', rfl, g1⟩, e3⟩ := ret_ext hr
      clear hr hcall c0 c1 c2 c3 c4 c5
      obtain ⟨a5, n5, cap5, rfl, -⟩ := SliceR.shape g1
      have et3 := et.trans e3
      have hcall := HC3.out w3 et3
      clear HC3
      go_wp2_with fail
      refine Calls.mono hcall ?_
      rintro e w4 hr
      obtain ⟨r, rfl, o4, e4⟩ := ret_ext hr
      clear hr hcall
      obtain ⟨a6, n6, cap6, rfl, -⟩ := OwnA.shape o4
      have et4 := et3.trans e4
      have hcall := HC4.out w4 et4
      clear HC4
      go_wp2_with fail
      refine Calls.mono hcall ?_
      rintro e w5 hr
      obtain ⟨r, rfl, o5, e5⟩ := ret_ext hr
      clear hr hcall
      have hx' : IntsR (.new w4 w5) w5 r key := o5.ints HM.out (Nat.le_refl _)
      obtain ⟨xa, xn, xc, rfl, -⟩ := SliceR.shape hx'
      clear o5
      have hs23 := e3.size
      have hs34 := e4.size
      have hs45 := e5.size
      have R4 := R.ext (e3.trans e4)
      have hR0 := R.lt
      have hR3 : w.heap.size + 1 < w3.heap.size := by omega
      have G1 := stable_rows.ext g1 e4
      have HG1 := Lib.hid G1
      have Het4 := Lib.hid et4
      have HR4 := Lib.hid R4
      clear G1 g1 R4 R et et3 et4
      go_wp2_with (at_builtin; (refine wpList_appendRow (E := IntsR) (L := w3.heap.size) (B := w3.heap.size) (xs := cuts) stable_ints slRepr_slice rfl _ _ 24 rfl Tryz.underlying24 Tryz.infoInts rfl o4 e5 (xa, xn, xc) key hx' rfl (by omega) (by omega) (by omega) ?_); intro v6 w6 hown6 hb6 hs6 hg6 hat6; have R6 : ResAt w6 (w.heap.size + 1) := HR4.out.of (hb6.block _ hR3); have R6' := R6; obtain ⟨d0, d1, d2, d3, d4, d5, f0, f1, f2, f3, f4, f5⟩ := R6'; obtain ⟨a9, n9, k9, rfl, -⟩ := OwnA.shape hown6)
      generalize hwF : World.setCell _ _ _ = wF
      obtain ⟨wi, y0, y1, y2, y3, y4, y5⟩ := ResAt.fill R6 hwF
      have et6 : Ext w w6 := Below.trans Het4.out (hb6.mono (by have := Het4.out.size; omega))
      have eF : Ext w wF := wi.above (Nat.le_succ _) et6
      have hr9 : RowsR ⟨w3.heap.size, w6.heap.size, true⟩ w6 (.slice a9 n9 k9) (cuts ++ [key]) := OwnR.reads hown6 (Nat.le_refl _)
      have hrl : RowsR ⟨w2.heap.size, w3.heap.size, true⟩ w6 (.slice a5 n5 cap5) (t ++ [row]) := stable_rows.keep HG1.out (fun k hk _ => hb6.block k hk.2)
      have hs46 := hb6.size
      clear hwF hown6
      refine bodyPost_ret (v := .tuple #[sysV mk (.slice a5 n5 cap5), .slice a9 n9 k9, .int .i64 0]) (by simp [results, Tryz.results11, go_sem, y0, y1, y2, y3, y4, y5, sysV]) rfl ⟨_, rfl, ?_, eF⟩
      rw [HH.out]
      have hsF := wi.size
      refine ⟨_, _, w3.heap.size, rfl, ⟨by omega, by omega⟩, stable_rows.sub (stable_rows.within hrl wi (fun q h1 h2 => by have q1 := h1.1; have q2 := h2.2; simp only at q1 q2; omega)) ⟨fun q hq => ⟨?_, ?_⟩, fun _ => rfl⟩, stable_rows.sub (stable_rows.within hr9 wi (fun q h1 h2 => by have q1 := h1.1; have q2 := h2.2; simp only at q1 q2; omega)) ⟨fun q hq => ⟨?_, ?_⟩, fun _ => rfl⟩⟩
      · have q1 := hq.1; simp only at *; omega
      · have q2 := hq.2; simp only at *; omega
      · have q1 := hq.1; simp only at *; omega
      · have q2 := hq.2; simp only at *; omega
  · have HH := Lib.hid (H1.out hd0)
    have hb : (rc != 0) = true := by rw [bne_iff_ne]; exact hd0
    rw [HB1.out hd0]
    clear hd0 H1 H2 H3 HB1 HB2 HC2 HC3 HC4 S0 HL
    unfold BoolCode
    simp only
    have R' := R
    obtain ⟨d0, d1, d2, d3, d4, d5, f0, f1, f2, f3, f4, f5⟩ := R'
    go_wp2_with fail
    generalize hwF : World.setCell _ _ _ = wF
    obtain ⟨wi, y0, y1, y2, y3, y4, y5⟩ := ResAt.fill R hwF
    have eF : Ext w wF := wi.above (Nat.le_succ _) et
    clear hwF
    refine bodyPost_ret (v := .tuple #[sysV noSys (.slice none 0 0), .slice none 0 0, .int .i64 rc]) (by simp [results, Tryz.results11, go_sem, y0, y1, y2, y3, y4, y5, sysV, noSys]) rfl ⟨_, rfl, SysRes2.bad HH.out eF.size, eF⟩
end Go.Proofs.YtgagjibjnaappaaGreat
