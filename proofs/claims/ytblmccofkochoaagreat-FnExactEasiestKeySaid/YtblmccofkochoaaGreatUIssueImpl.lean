/- Proved: IssueKeys of the program. -/
import Derived.Test.YtblmccofkochoaaGreatChecked
import Derived.Test.YtblmccofkochoaaGreatUEachIssue
import Derived.Test.YtblmccofkochoaaGreatURowsBox
import Derived.Test.YtblmccofkochoaaGreatURowCode
namespace Go.Proofs.YtblmccofkochoaaGreat
open Go.ChangeShapes Go.WideShapes Go.ChangeAt Go.RowKit
set_option linter.unusedVariables false

theorem rows_free {z : Zone} {w : World} {v : Value} {xs : List (List Int)} (h : RowsR z w v xs) : RowsR ⟨0, w.heap.size, false⟩ w v xs := by
  obtain ⟨a, cap, rfl, h1, h2, h3, h4⟩ := h
  refine ⟨a, cap, rfl, h1, h2, h3, fun ad had hpos => ?_⟩
  obtain ⟨k1, k2, k3, k4, Z, k5, k6, k7⟩ := h4 ad had hpos
  refine ⟨k1, ⟨Nat.zero_le _, k3⟩, k3, (fun h => by cases h), fun _ => ⟨0, w.heap.size, false⟩, fun i _ => Zone.Sub.refl _, (fun h => by cases h), fun i hi => ?_⟩
  obtain ⟨u, c1, c2⟩ := k7 i hi
  exact ⟨u, c1, IntsR.free c2⟩
/-- an empty list in a variable of its own -/
theorem box_new {w2 w6 : World} (h : ((w2.alloc (.cells #[] 27)).alloc (.cells #[.slice (some ⟨w2.heap.size, 0, none⟩) 0 0] 24)) = w6) : Ext w2 w6 ∧ BoxInv (w2.heap.size + 1) (fun k => k = w2.heap.size + 1 ∨ k = w2.heap.size) [] w6 := by
  subst h
  refine ⟨(Ext.alloc _ _).trans (Ext.alloc _ _), .slice (some ⟨w2.heap.size, 0, none⟩) 0 0, by simp, by simp, ?_, fun k hk => ?_, .inl rfl, fun k hk => ?_⟩
  · exact OwnA.below stable_ints (OwnA.empty (Nat.zero_le _)) (Ext.alloc _ _)
  · injection hk with hk
    simp only at hk
    exact ⟨.inr hk.symm, by omega⟩
  · simp only [World.size_alloc]
    omega
theorem visits_take {most : Int} (h0 : 0 ≤ most) : ∀ (L s : List (List Int)), (s.length : Int) ≤ most → (visits (takeStep most) (takeMore most) s L).1 = s ++ L.take (most.toNat - s.length)
  | [], s, _ => by simp [visits]
  | k :: L, s, hs => by
    have e1 : visits (takeStep most) (takeMore most) s (k :: L) = if takeMore most s k = true then visits (takeStep most) (takeMore most) (takeStep most s k) L else (takeStep most s k, false) := rfl
    have e3 : takeMore most s k = decide (((takeStep most s k).length : Int) < most) := rfl
    rw [e1, e3]
    by_cases hlt : (s.length : Int) < most
    · have e2 : takeStep most s k = s ++ [k] := by unfold takeStep; rw [if_pos hlt]
      rw [e2]
      have hl : (s ++ [k]).length = s.length + 1 := by simp
      obtain ⟨m, hm⟩ : ∃ m, most.toNat - s.length = m + 1 := ⟨most.toNat - s.length - 1, by omega⟩
      rw [hm, List.take_succ_cons]
      by_cases h2 : ((s ++ [k]).length : Int) < most
      · rw [if_pos (decide_eq_true h2), visits_take h0 L _ (by omega), hl, show most.toNat - (s.length + 1) = m by omega]
        simp
      · rw [if_neg (by rw [decide_eq_false h2]; decide)]
        have : m = 0 := by omega
        subst this
        simp
    · have e2 : takeStep most s k = s := by unfold takeStep; rw [if_neg hlt]
      rw [e2, if_neg (by rw [decide_eq_false hlt]; decide), show most.toNat - s.length = 0 by omega]
      simp

def TakeInv (b : Nat) (F : Nat → Prop) (s : List (List Int)) (w : World) : Prop := BoxInv b F s w ∧ s.length ≤ 300
theorem visitTake {b bm : Nat} {most : Int} (hm : most ≤ 300) {w0 : World} {F0 : Nat → Prop} (hc : w0.cell? ⟨bm, 0, none⟩ = some (.int .i64 most)) (hbm : ¬ F0 bm) :
    VisitK 106 #[.pointer (some ⟨b, 0, none⟩), .pointer (some ⟨bm, 0, none⟩)] w0 F0 (TakeInv b) (takeStep most) (takeMore most) (fun k => k.length ≤ 1000) where
  goes := Tryz.goesIssueKeys1
  keep := by
    rintro F s w w' ⟨⟨v, hb⟩, hl⟩ hk hs
    exact ⟨⟨v, hb.keep hk hs⟩, hl⟩
  fresh := by
    rintro F s w ⟨⟨v, hb⟩, hl⟩
    exact hb.lt
  call := by
    rintro F s w v z key ⟨hb, hl⟩ hF hK hr hok
    have hlt : bm < w0.heap.size := World.block_lt_of_cell? _ _ hc
    refine (issueKeys1_c w v z key most hb (by omega) (hK.cell hbm hc) (fun q => (hF bm q).elim hbm (fun q => by omega)) hr hok).mono ?_
    rintro e w' ⟨rfl, F', i', g', f'⟩
    refine ⟨rfl, F', ⟨i', ?_⟩, g', f'⟩
    unfold takeStep
    split
    · rw [List.length_append, List.length_singleton]; omega
    · exact hl

set_option maxRecDepth 20000 in
set_option maxHeartbeats 2000000 in
theorem IssueKeys_c (w : World) (mk : MK) (v : Value) (z : Zone) (t : List (List Int)) (h : RowsR z w v t) (u : Value) (y : Zone) (cuts : List (List Int)) (hc : RowsR y w u cuts) (v3 : Value) (z3 : Zone) (row : List Int) (hr : IntsR z3 w v3 row) (most : Int) (hm : I64 most) :
    Calls Tryz.prog 19 #[sysV mk v, u, v3, .int .i64 most] w (Ret w (RowsCode w (issueKeys mk t cuts row most))) := by
  have H1 : Hid (designCode mk t cuts ≠ 0 → issueKeys mk t cuts row most = ([], 1) ∧ rowCode mk t cuts row [] = 1) := fun h => ⟨issueKeys_bad h, by rw [rowCode_bad h]; have := designCode_val mk t cuts; omega⟩
  have H2 : Hid (designCode mk t cuts = 0 → inB most 0 300 = false → issueKeys mk t cuts row most = ([], 2)) := issueKeys_most
  have H3 : Hid (designCode mk t cuts = 0 → inB most 0 300 = true → rowCode mk t cuts row [] ≠ 0 → issueKeys mk t cuts row most = ([], rowCode mk t cuts row [])) := issueKeys_row
  have HN1 : Hid (designCode mk t cuts = 0 → rowCode mk t cuts row [] ≠ 1) := rowCode_val
  have HC1 := Lib.hid (fun (w' : World) (e : Ext w w') => rowCode_c w' mk v z t (stable_rows.ext h e) u y cuts (stable_rows.ext hc e) v3 z3 row (stable_ints.ext hr e) (.slice none 0 0) (.old w') [] (SliceR.nil _ _ _))
  have HCf : RowsR ⟨0, w.heap.size, false⟩ w u cuts := rows_free hc
  have HC2 := Lib.hid (fun (h1 : designCode mk t cuts = 0) (h0 : rowCode mk t cuts row [] = 0) (hq : inB most 0 300 = true) (w6 : World) (e : Ext w w6) (b bm r0 : Nat) (hb : w.heap.size ≤ b) (hr0 : w.heap.size ≤ r0) (hcm : w6.cell? ⟨bm, 0, none⟩ = some (.int .i64 most)) (hbm : bm ≠ b ∧ bm ≠ r0) (hI : BoxInv b (fun k => k = b ∨ k = r0) [] w6) =>
    eachIssue_c (visitTake (b := b) (bm := bm) (by have := inB_iff.1 hq; omega) hcm (fun q => by rcases q with q | q; exact hbm.1 q; exact hbm.2 q)) mk v z t (stable_rows.ext h e) u ⟨0, w.heap.size, false⟩ cuts (stable_rows.ext HCf e) v3 z3 row (stable_ints.ext hr e) (rowCode_zero h0) (fun k hk q => by have := hk.2; simp only at this; rcases q with q | q <;> omega) (fun k hk => by rw [(allK_mem hk).1]; have := (designOk_mk (rowCode_zero h0).toDesignOk).c6; omega) [] ⟨hI, by simp⟩)
  have HRes : Hid (designCode mk t cuts = 0 → rowCode mk t cuts row [] = 0 → inB most 0 300 = true → issueKeys mk t cuts row most = ((visits (takeStep most) (takeMore most) [] ((allK mk).filter (stays mk (t ++ [row]) cuts))).1, 0)) := fun h1 h0 hq => by
    have := inB_iff.1 hq
    rw [issueKeys_ok h1 hq h0, visits_take (by omega) _ _ (by simp; omega)]
    rfl
  generalize (visits (takeStep most) (takeMore most) [] ((allK mk).filter (stays mk (t ++ [row]) cuts))).1 = cl at *
  generalize issueKeys mk t cuts row most = res at *
  generalize designCode mk t cuts = dc at *
  generalize rowCode mk t cuts row [] = rc at *
  have HI := Lib.hid (fun (w' : World) => within_c w' most 0 300)
  generalize inB most 0 300 = q at *
  obtain ⟨a, n, cap, rfl, -⟩ := SliceR.shape h
  obtain ⟨a2, n2, cap2, rfl, -⟩ := SliceR.shape hc
  obtain ⟨a3, n3, cap3, rfl, -⟩ := SliceR.shape hr
  clear h hc hr HCf
  have hGo := Tryz.goesIssueKeys1
  unfold Goes at hGo
  unfold sysV at *
  go_enter Tryz.func19, Tryz.ntmps19
  go_wp2_with fail
  generalize hw0 : World.alloc (World.alloc _ _) _ = w0
  obtain ⟨e0, S0, c7⟩ : Ext w w0 ∧ SysAt w0 w.heap.size mk (.slice a n cap) ∧ w0.cell? ⟨w.heap.size + 1, 0, none⟩ = some (.int .i64 most) := by
    subst hw0
    refine ⟨(Ext.alloc _ _).trans (Ext.alloc _ _), ⟨?_, ?_, ?_, ?_, ?_, ?_⟩, ?_⟩
    all_goals (clear HC1 HC2 HRes H1 H2 H3 HN1 HI; go_simp; done)
  clear hw0
  have HS := Lib.hid S0
  have H7 := Lib.hid c7
  clear S0 c7
  refine Calls.mono (HC1.out w0 e0) ?_
  rintro e w1 hr
  obtain ⟨r, rfl, rfl, e1⟩ := ret_ext hr
  clear hr
  have et := e0.trans e1
  have c7 := e1.cell H7.out
  by_cases hd : dc = 0
  · have hn1 : (rc != 1) = true := by rw [bne_iff_ne]; exact HN1.out hd
    have H2' := Lib.hid (H2.out hd)
    have H3' := Lib.hid (H3.out hd)
    have HR' := Lib.hid (HRes.out hd)
    have HC2' := Lib.hid (HC2.out hd)
    clear H1 H2 H3 HN1 hd HRes HC2
    go_wp2_with fail
    refine Calls.mono (HI.out w1) ?_
    rintro e w2 ⟨rfl, hd2⟩
    have et2 := et.trans (Ext.ofDrew hd2)
    clear c7
    have e12 := e1.trans (Ext.ofDrew hd2)
    cases q with
    | false =>
      have HH := Lib.hid (H2'.out (by trivial))
      go_wp2_with fail
      go_ret2
      exact ⟨_, rfl, RowsCode_nil HH.out, et2⟩
    | true =>
      by_cases hr0 : rc = 0
      · have HR := Lib.hid (HR'.out hr0 (by trivial))
        have HD := Lib.hid (HC2'.out hr0 (by trivial))
        have hb : (rc != 0) = false := by rw [hr0]; rfl
        obtain ⟨c0, c1, c2, c3, c4, c5⟩ := HS.out.ext e12
        have zb := World.block_lt_of_cell? _ _ c0
        simp only at zb
        have zb' := Nat.ne_of_lt zb
        have zb'' := Nat.ne_of_gt zb
        clear H2' H3' HR' HC2' hr0
        go_wp2_with fail
        generalize hw6 : World.alloc (World.alloc _ _) _ = w6
        obtain ⟨e6, i6⟩ := box_new hw6
        clear hw6 c0 c1 c2 c3 c4 c5 zb' zb''
        have h7 := (e12.trans e6).cell H7.out
        have h72 := World.block_lt_of_cell? _ _ (e12.cell H7.out)
        simp only at h72
        refine Calls.mono (HD.out w6 (et2.trans e6) (w2.heap.size + 1) (w.heap.size + 1) w2.heap.size (Nat.le_succ_of_le et2.size) et2.size h7 ⟨by omega, by omega⟩ i6) ?_
        intro e w7 h7'
        obtain ⟨rfl, F7, ⟨⟨v7, hB7⟩, -⟩, g7, f7⟩ := h7'
        have hc7 := hB7.cell
        obtain ⟨a7, n7, k7, rfl, -⟩ := OwnA.shape hB7.own
        have es := et2.size
        have es6 := e6.size
        have HZ : Hid (RowsR (.new w w7) w7 (.slice a7 n7 k7) cl) := RowsBox.rows hB7 (L := w.heap.size) (fun k hk => by
          rcases g7 k hk with q | q
          · rcases q with q | q <;> omega
          · omega)
        have HE7 : Hid (Ext w w7) := (Frame.trans (Frame.of_ext (F := fun k => k = w2.heap.size + 1 ∨ k = w2.heap.size) (et2.trans e6)) f7 (fun i hi _ => hi)).below (B := w.heap.size) (fun k hk => by rcases hk with q | q <;> omega) (Nat.le_refl _)
        clear hB7 g7 f7 h7 i6
        go_wp2_with fail
        go_ret2
        exact ⟨_, rfl, by rw [HR.out]; exact ⟨_, rfl, HZ.out⟩, HE7.out⟩
      · have HH := Lib.hid (H3'.out (by trivial) hr0)
        have hb : (rc != 0) = true := by rw [bne_iff_ne]; exact hr0
        clear H2' H3' HR' HC2' hr0
        go_wp2_with fail
        go_ret2
        exact ⟨_, rfl, RowsCode_nil HH.out, et2⟩
  · obtain ⟨h1, h2⟩ := H1.out hd
    have HH := Lib.hid h1
    subst h2
    clear hd H1 H2 H3 HN1 HRes HC2 h1
    go_wp2_with fail
    go_ret2
    exact ⟨_, rfl, RowsCode_nil HH.out, et⟩
end Go.Proofs.YtblmccofkochoaaGreat
