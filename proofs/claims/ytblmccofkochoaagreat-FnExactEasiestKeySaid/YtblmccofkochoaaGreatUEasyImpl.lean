/- Proved: EasiestKey of the program. -/
import Derived.Test.YtblmccofkochoaaGreatChecked
import Derived.Deep.RegionHeld3
import Derived.Test.YtblmccofkochoaaGreatUEasyLaw
import Derived.Test.YtblmccofkochoaaGreatUEasySpec
import Derived.Test.YtblmccofkochoaaGreatUEachIssue
import Derived.Test.YtblmccofkochoaaGreatURowsBox
import Derived.Test.YtblmccofkochoaaGreatURowCode
import Derived.Test.YtblmccofkochoaaGreatUIssueImpl
namespace Go.Proofs.YtblmccofkochoaaGreat
open Go.ChangeShapes Go.WideShapes Go.ChangeAt Go.RowKit
set_option linter.unusedVariables false

def leastOf (f : List Int → Nat) (s : Option (List Int)) : Int := match s with
  | none => -1
  | some b => f b
/-- the best key so far and how many doors it changes -/
structure EasAt (f : List Int → Nat) (bb bl : Nat) (F : Nat → Prop) (s : Option (List Int)) (w : World) (v : Value) : Prop where
  cell : w.cell? ⟨bb, 0, none⟩ = some v
  free : w.frozen? ⟨bb, 0, none⟩ = false
  own : OwnP (Value.int .i64) 2 0 w v (s.getD [])
  row : ∀ k, v.ownBlock = some k → F k ∧ k ≠ bb ∧ k ≠ bl
  i64 : ∀ x ∈ s.getD [], I64 x
  least : w.cell? ⟨bl, 0, none⟩ = some (.int .i64 (leastOf f s))
  lfree : w.frozen? ⟨bl, 0, none⟩ = false
  box : F bb ∧ F bl ∧ bb ≠ bl
  lt : ∀ k, F k → k < w.heap.size
  small : ∀ b, s = some b → f b ≤ 12
def EasInv (f : List Int → Nat) (bb bl : Nat) (F : Nat → Prop) (s : Option (List Int)) (w : World) : Prop := ∃ v, EasAt f bb bl F s w v
theorem EasAt.keep {f : List Int → Nat} {bb bl : Nat} {F : Nat → Prop} {s : Option (List Int)} {w w' : World} {v : Value} (h : EasAt f bb bl F s w v) (hb : ∀ k, F k → w'.heap[k]? = w.heap[k]?) (hs : w.heap.size ≤ w'.heap.size) : EasAt f bb bl F s w' v :=
  ⟨(World.cell?_of_block (a := ⟨bb, 0, none⟩) (hb bb h.box.1)).trans h.cell, (World.frozen?_of_block (a := ⟨bb, 0, none⟩) (hb bb h.box.1)).trans h.free, h.own.keepA (fun k hk => hb k (h.row k hk).1), h.row, h.i64, (World.cell?_of_block (a := ⟨bl, 0, none⟩) (hb bl h.box.2.1)).trans h.least, (World.frozen?_of_block (a := ⟨bl, 0, none⟩) (hb bl h.box.2.1)).trans h.lfree, h.box, fun k hk => Nat.lt_of_lt_of_le (h.lt k hk) hs, h.small⟩
theorem EasAt.set {f : List Int → Nat} {bb bl : Nat} {F : Nat → Prop} {s : Option (List Int)} {w w2 : World} {v v8 : Value} {key : List Int} (h : EasAt f bb bl F s w v) (e : Ext w w2) (ho : OwnP (Value.int .i64) 2 w.heap.size w2 v8 key) (hm : ∀ x ∈ key, I64 x) (h12 : f key ≤ 12) :
    EasAt f bb bl (fun k => F k ∨ (w.heap.size ≤ k ∧ k < w2.heap.size)) (some key) ((w2.setCell ⟨bb, 0, none⟩ v8).setCell ⟨bl, 0, none⟩ (.int .i64 (f key))) v8 ∧ Frame F w ((w2.setCell ⟨bb, 0, none⟩ v8).setCell ⟨bl, 0, none⟩ (.int .i64 (f key))) := by
  obtain ⟨h1, h2, h3⟩ := h.box
  have q1 := h.lt bb h1
  have q2 := h.lt bl h2
  have q3 := e.size
  have hb1 : w2.heap[bb]? = w.heap[bb]? := Below.block e bb q1
  have hb2 : w2.heap[bl]? = w.heap[bl]? := Below.block e bl q2
  have hset : ∀ k, k ≠ bb → k ≠ bl → ((w2.setCell ⟨bb, 0, none⟩ v8).setCell ⟨bl, 0, none⟩ (.int .i64 (f key))).heap[k]? = w2.heap[k]? := fun k g1 g2 => (Below.heap_setCell _ _ _ _ g2).trans (Below.heap_setCell _ _ _ _ g1)
  have hsz : ((w2.setCell ⟨bb, 0, none⟩ v8).setCell ⟨bl, 0, none⟩ (.int .i64 (f key))).heap.size = w2.heap.size := by rw [setCell_size, setCell_size]
  have hrow : ∀ k, v8.ownBlock = some k → w.heap.size ≤ k ∧ k < w2.heap.size := ho.block
  have c1 : w2.cell? ⟨bb, 0, none⟩ = some v := (World.cell?_of_block (a := ⟨bb, 0, none⟩) hb1).trans h.cell
  have c2 : w2.cell? ⟨bl, 0, none⟩ = some (.int .i64 (leastOf f s)) := (World.cell?_of_block (a := ⟨bl, 0, none⟩) hb2).trans h.least
  have f1 : w2.frozen? ⟨bb, 0, none⟩ = false := (World.frozen?_of_block (a := ⟨bb, 0, none⟩) hb1).trans h.free
  have f2 : w2.frozen? ⟨bl, 0, none⟩ = false := (World.frozen?_of_block (a := ⟨bl, 0, none⟩) hb2).trans h.lfree
  have ne1 : (⟨bl, 0, none⟩ : Addr) ≠ ⟨bb, 0, none⟩ := fun q => h3 (by injection q with q _ _; exact q.symm)
  refine ⟨⟨?_, ?_, ?_, fun k hk => ?_, hm, ?_, ?_, ⟨.inl h1, .inl h2, h3⟩, fun k hk => ?_, fun b hb => by injection hb with hb; rw [← hb]; exact h12⟩, ?_⟩
  · rw [World.cell?_setCell_other _ _ _ _ ne1]; exact World.cell?_setCell_same _ _ _ c1
  · rw [World.frozen?_setCell, World.frozen?_setCell]; exact f1
  · have : OwnP (Value.int .i64) 2 0 w2 v8 key := ho.lower (Nat.zero_le _)
    exact this.keepA (fun k hk => by have := hrow k hk; exact hset k (by omega) (by omega))
  · have := hrow k hk
    exact ⟨.inr this, by omega, by omega⟩
  · exact World.cell?_setCell_same _ _ _ ((World.cell?_setCell_other _ _ _ _ ne1.symm).trans c2)
  · rw [World.frozen?_setCell, World.frozen?_setCell]; exact f2
  · rw [hsz]
    rcases hk with hk | hk
    · have := h.lt k hk; omega
    · exact hk.2
  · exact ⟨e.os, e.tape, e.output, by omega, fun k hk hn => (hset k (fun q => hn (q ▸ h1)) (fun q => hn (q ▸ h2))).trans (Below.block e k hk)⟩

theorem Tryz.goesEasiestKey1 : Goes Tryz.prog 111 := goes_of Tryz.func111 (by kernel_rfl) (by kernel_rfl)

set_option maxRecDepth 20000 in
set_option maxHeartbeats 2000000 in
theorem easiest1_c {bb bl bL bR : Nat} {F : Nat → Prop} {s : Option (List Int)} {mk : MK} {t cuts : List (List Int)} {row : List Int} (w : World) (v : Value) (z : Zone) (key : List Int) (hI : EasInv (changes mk t cuts row) bb bl F s w) (hk : IntsR z w v key) (hkl : (key.length : Int) = mk.c) (ok : RowCodeOk mk t cuts row [])
    {vl : Value} {zl : Zone} (hL : LocksR zl w vl (locks mk t cuts)) {vr : Value} {zr : Zone} (hr : IntsR zr w vr row) (cl : w.cell? ⟨bL, 0, none⟩ = some vl) (cr : w.cell? ⟨bR, 0, none⟩ = some vr) :
    Calls Tryz.prog 111 #[v, .pointer (some ⟨bL, 0, none⟩), .pointer (some ⟨bR, 0, none⟩), .pointer (some ⟨bl, 0, none⟩), .pointer (some ⟨bb, 0, none⟩)] w (fun e w' => e = .returned (.bool true) ∧ ∃ F', EasInv (changes mk t cuts row) bb bl F' (easStep (changes mk t cuts row) s key) w' ∧ (∀ k, F' k → F k ∨ w.heap.size ≤ k) ∧ Frame F w w') := by
  obtain ⟨lv, hB⟩ := hI
  have hc6 := (designOk_mk ok.toDesignOk).c6
  have HCl := Lib.hid (fun (w' : World) (e : Ext w w') => Clone_c w' v z key (stable_ints.ext hk e) (by omega))
  have HM := Lib.hid (IntsR.mem hk)
  have HCh : Hid (Calls Tryz.prog 112 #[vl, vr, v] w (Ret w fun r w'' => ∃ a n c, r = .slice a n c ∧ n = changes mk t cuts row key ∧ n ≤ 12)) := by
    have hl := locks_len mk t cuts
    have := changedDoors_c w vl zl _ hL vr zr row hr v z key hk (by rw [hl]; exact ok.row_len) (by rw [hl]; exact ok.doors.2) (fun d hd => by rw [hl] at hd; rw [lock_len hd]; omega)
    rw [hl] at this
    refine this.mono ?_
    rintro e w'' hr
    obtain ⟨r, rfl, o, e2⟩ := ret_ext hr
    obtain ⟨a, n, c, rfl, hn, -⟩ := OwnP.shape o
    exact ⟨_, rfl, ⟨a, n, c, rfl, hn, by rw [hn]; have := changes_le mk t cuts row key; have := ok.doors; unfold changes at *; omega⟩, e2⟩
  have h12 : changes mk t cuts row key ≤ 12 := by have := changes_le mk t cuts row key; have := ok.doors; omega
  generalize changes mk t cuts row = f at *
  have HB := Lib.hid hB
  obtain ⟨al, nl, cll, rfl, -⟩ := SliceR.shape hL
  obtain ⟨ar, nr, crr, rfl, -⟩ := SliceR.shape hr
  obtain ⟨a, n, c, rfl, -⟩ := SliceR.shape hk
  clear hB hk hL hr ok hkl
  go_enter Tryz.func111, Tryz.ntmps111
  go_wp2_with fail
  refine Calls.mono HCh.out ?_
  rintro e w1 hr
  obtain ⟨r, rfl, ⟨a7, n7, k7, rfl, h7, h712⟩, e1⟩ := ret_ext hr
  clear hr
  have hB1 := HB.out.keep (fun k hk => Below.block e1 k (HB.out.lt k hk)) e1.size
  have HB1 := Lib.hid hB1
  have c1 := hB1.least
  have c2 := hB1.cell
  clear hB1
  have HSet := Lib.hid (fun (w2 : World) (v8 : Value) (e : Ext w w2) (o : OwnP (Value.int .i64) 2 w.heap.size w2 v8 key) => HB.out.set e o HM.out h12)
  have hcall := HCl.out w1 e1
  have h7' := Lib.hid h7
  by_cases hmin : ∀ b, s = some b → f key < f b
  · have HS : Hid (easStep f s key = some key) := by
      show _ = _
      cases s with
      | none => rfl
      | some b => exact if_pos (hmin b rfl)
    have hlt : leastOf f s < 0 ∨ (n7 : Int) < leastOf f s := by
      cases s with
      | none => exact .inl (show (-1 : Int) < 0 by decide)
      | some b => right; have := hmin b rfl; show (n7 : Int) < (f b : Int); omega
    generalize leastOf f s = ls at *
    clear h7 h12 hmin
    by_cases h0 : ls < 0
    focus
      have hf0 : decide (ls < 0) = true := decide_eq_true h0
      go_wp2_with fail
    rotate_left
    focus
      have hf0 : ¬ ls < 0 := h0
      have hf1 : (n7 : Int) < ls := hlt.resolve_left h0
      go_wp2_with fail
    all_goals
      refine Calls.mono hcall ?_
      rintro e w2 hr
      obtain ⟨r, rfl, o2, e2⟩ := ret_ext hr
      clear hr hcall
      have e12 := e1.trans e2
      have HP := Lib.hid (HSet.out w2 r e12 (o2.lower e1.size))
      have hB2 := HB.out.keep (fun k hk => Below.block e12 k (HB.out.lt k hk)) e12.size
      have d1 := hB2.cell
      have d2 := hB2.free
      have d3 := hB2.least
      have d4 := hB2.lfree
      have d5 := hB2.box.2.2
      have d6 := Ne.symm d5
      obtain ⟨a8, n8, k8, rfl, -⟩ := OwnP.shape o2
      rw [← h7'.out] at HP
      clear hB2 o2 c1 c2
      go_wp2_with fail
      go_ret
      exact ⟨rfl, fun k => F k ∨ (w.heap.size ≤ k ∧ k < w2.heap.size), ⟨_, by rw [HS.out]; exact HP.out.1⟩, fun k hk => Or.elim hk .inl (fun q => .inr q.1), HP.out.2⟩
  · have hmin' : ∃ b, s = some b ∧ ¬ f key < f b := by
      cases s with
      | none => exact absurd (fun b h => by cases h) hmin
      | some b => exact ⟨b, rfl, fun h => hmin (fun b' hb => by injection hb with hb; subst hb; exact h)⟩
    obtain ⟨b, rfl, hb⟩ := hmin'
    have HS : Hid (easStep f (some b) key = some b) := if_neg hb
    have hl : leastOf f (some b) = (f b : Int) := rfl
    rw [hl] at c1
    have hb12 := HB.out.small b rfl
    have hf0 : ¬ ((f b : Int) < 0) := by omega
    have hf1 : ¬ (n7 < f b) := by omega
    have hf2 : ¬ ((n7 : Int) < (f b : Int)) := by omega
    generalize f b = fb at *
    clear h7 h12 hmin hb hl
    go_wp2_with fail
    go_ret
    exact ⟨rfl, F, ⟨lv, by rw [HS.out]; exact HB1.out⟩, fun k hk => .inl hk, Frame.of_ext e1⟩

theorem visitEas {bb bl bL bR : Nat} {mk : MK} {t cuts : List (List Int)} {row : List Int} (ok : RowCodeOk mk t cuts row []) {w0 : World} {F0 : Nat → Prop} {vl : Value} {zl : Zone} (hL : LocksR zl w0 vl (locks mk t cuts)) {vr : Value} {zr : Zone} (hr : IntsR zr w0 vr row) (cl : w0.cell? ⟨bL, 0, none⟩ = some vl) (cr : w0.cell? ⟨bR, 0, none⟩ = some vr)
    (hzl : ∀ k, zl.Has k → ¬ F0 k) (hzr : ∀ k, zr.Has k → ¬ F0 k) (hbL : ¬ F0 bL) (hbR : ¬ F0 bR) :
    VisitK 111 #[.pointer (some ⟨bL, 0, none⟩), .pointer (some ⟨bR, 0, none⟩), .pointer (some ⟨bl, 0, none⟩), .pointer (some ⟨bb, 0, none⟩)] w0 F0 (EasInv (changes mk t cuts row) bb bl) (easStep (changes mk t cuts row)) (fun _ _ => true) (fun k => (k.length : Int) = mk.c) where
  goes := Tryz.goesEasiestKey1
  keep := by
    rintro F s w w' ⟨v, hb⟩ hk hs
    exact ⟨v, hb.keep hk hs⟩
  fresh := by
    rintro F s w ⟨v, hb⟩
    exact hb.lt
  call := by
    rintro F s w v z key hI hF hK hk hok
    exact easiest1_c w v z key hI hk hok ok (hK.read stable_locks hL hzl) (hK.read stable_ints hr hzr) (hK.cell hbL cl) (hK.cell hbR cr)

/-- an empty list, a number and locks in variables of their own -/
theorem eas_new {f : List Int → Nat} {w3 w4 w7 : World} {vl : Value} {r0 : Nat} (e : Ext w3 w4) (hr : w3.heap.size = r0) (hw3 : Ext (w3.alloc (.cells #[] 2)) w4) (h : (((w4.alloc (.cells #[.slice (some ⟨r0, 0, none⟩) 0 0] 27)).alloc (.cells #[.int .i64 (-1)] 3)).alloc (.cells #[vl] 91)) = w7) :
    Ext w4 w7 ∧ EasInv f w4.heap.size (w4.heap.size + 1) (fun k => k = w4.heap.size ∨ k = w4.heap.size + 1 ∨ k = r0) none w7 ∧ w7.cell? ⟨w4.heap.size + 2, 0, none⟩ = some vl := by
  subst hr
  have hs : w3.heap.size + 1 ≤ w4.heap.size := by have := hw3.size; simpa using this
  have e7 : Ext w4 w7 := by rw [← h]; exact ((Ext.alloc _ _).trans (Ext.alloc _ _)).trans (Ext.alloc _ _)
  have s7 : w7.heap.size = w4.heap.size + 3 := by rw [← h]; simp
  refine ⟨e7, ⟨.slice (some ⟨w3.heap.size, 0, none⟩) 0 0, by rw [← h]; clear h e7 s7 hs; go_simp, by rw [← h]; clear h e7 s7 hs; go_simp, ?_, fun k hk => ?_, fun x hx => by simp at hx, by show _ = some (Value.int .i64 (-1)); rw [← h]; clear h e7 s7 hs; go_simp, by rw [← h]; clear h e7 s7 hs; go_simp, ⟨.inl rfl, .inr (.inl rfl), by omega⟩, fun k hk => by rcases hk with q | q | q <;> omega, fun b hb => by cases hb⟩, by rw [← h]; clear h e7 s7 hs; go_simp⟩
  · exact OwnP.ext (OwnP.ext (OwnP.empty (f := Value.int .i64) (Nat.zero_le _)) hw3) e7
  · injection hk with hk
    simp only at hk
    exact ⟨.inr (.inr hk.symm), by omega, by omega⟩

set_option maxRecDepth 20000 in
set_option maxHeartbeats 2000000 in
theorem EasiestKey_c (w : World) (mk : MK) (v : Value) (z : Zone) (t : List (List Int)) (h : RowsR z w v t) (u : Value) (y : Zone) (cuts : List (List Int)) (hc : RowsR y w u cuts) (v3 : Value) (z3 : Zone) (row : List Int) (hr : IntsR z3 w v3 row) :
    Calls Tryz.prog 28 #[sysV mk v, u, v3] w (Ret w (IntsTwo w (easiest mk t cuts row))) := by
  have H1 : Hid (rowCode mk t cuts row [] ≠ 0 → easiest mk t cuts row = ([], 0, rowCode mk t cuts row [])) := easiest_bad
  have H2 : Hid (rowCode mk t cuts row [] = 0 → easL (changes mk t cuts row) ((allK mk).filter (stays mk (t ++ [row]) cuts)) = none → easiest mk t cuts row = ([], 0, 4)) := easiest_none
  have H3 : Hid (∀ b, rowCode mk t cuts row [] = 0 → easL (changes mk t cuts row) ((allK mk).filter (stays mk (t ++ [row]) cuts)) = some b → easiest mk t cuts row = (b, (changes mk t cuts row b : Int), 0)) := fun b => easiest_some
  have HC1 := Lib.hid (fun (w' : World) (e : Ext w w') => rowCode_c w' mk v z t (stable_rows.ext h e) u y cuts (stable_rows.ext hc e) v3 z3 row (stable_ints.ext hr e) (.slice none 0 0) (.old w') [] (SliceR.nil _ _ _))
  have HC2 := Lib.hid (fun (h0 : rowCode mk t cuts row [] = 0) (w' : World) (e : Ext w w') => partLocks_c w' mk v z t (stable_rows.ext h e) u y cuts (stable_rows.ext hc e) (rowCode_zero h0).toPartOk)
  have HCf : RowsR ⟨0, w.heap.size, false⟩ w u cuts := rows_free hc
  have HRf : IntsR ⟨0, w.heap.size, false⟩ w v3 row := IntsR.free hr
  have HC3 := Lib.hid (fun (h0 : rowCode mk t cuts row [] = 0) (w7 : World) (e : Ext w w7) (bb bl bL r0 : Nat) (vl : Value) (zl : Zone) (hbb : w.heap.size + 1 < r0 ∧ r0 < bb ∧ bb < bl ∧ bl < bL) (hz : r0 < zl.lo ∧ zl.hi ≤ bb) (hL : LocksR zl w7 vl (locks mk t cuts)) (cl : w7.cell? ⟨bL, 0, none⟩ = some vl) (cr : w7.cell? ⟨w.heap.size + 1, 0, none⟩ = some v3) (hI : EasInv (changes mk t cuts row) bb bl (fun k => k = bb ∨ k = bl ∨ k = r0) none w7) =>
    eachIssue_c (visitEas (rowCode_zero h0) hL (stable_ints.ext HRf e) cl cr (fun k hk q => by have h1 := hk.1; have h2 := hk.2; rcases q with q | q | q <;> omega) (fun k hk q => by have := hk.2; simp only at this; rcases q with q | q | q <;> omega) (fun q => by rcases q with q | q | q <;> omega) (fun q => by rcases q with q | q | q <;> omega)) mk v z t (stable_rows.ext h e) u ⟨0, w.heap.size, false⟩ cuts (stable_rows.ext HCf e) v3 z3 row (stable_ints.ext hr e) (rowCode_zero h0) (fun k hk q => by have := hk.2; simp only at this; rcases q with q | q | q <;> omega) (fun k hk => (allK_key (designOk_mk (rowCode_zero h0).toDesignOk) hk).len) none hI)
  have HV : Hid ((visits (easStep (changes mk t cuts row)) (fun _ _ => true) none ((allK mk).filter (stays mk (t ++ [row]) cuts))).1 = easL (changes mk t cuts row) ((allK mk).filter (stays mk (t ++ [row]) cuts))) := visits_all _ _
  generalize (allK mk).filter (stays mk (t ++ [row]) cuts) = L at *
  generalize changes mk t cuts row = f at *
  generalize easiest mk t cuts row = res at *
  generalize rowCode mk t cuts row [] = rc at *
  obtain ⟨a, n, cap, rfl, -⟩ := SliceR.shape h
  obtain ⟨a2, n2, cap2, rfl, -⟩ := SliceR.shape hc
  obtain ⟨a3, n3, cap3, rfl, -⟩ := SliceR.shape hr
  clear h hc hr HCf HRf
  have hGo := Tryz.goesEasiestKey1
  unfold Goes at hGo
  unfold sysV at *
  go_enter Tryz.func28, Tryz.ntmps28
  go_wp2_with fail
  generalize hw0 : World.alloc (World.alloc _ _) _ = w0
  obtain ⟨e0, S0, c7⟩ : Ext w w0 ∧ SysAt w0 w.heap.size mk (.slice a n cap) ∧ w0.cell? ⟨w.heap.size + 1, 0, none⟩ = some (.slice a3 n3 cap3) := by
    subst hw0
    refine ⟨(Ext.alloc _ _).trans (Ext.alloc _ _), ⟨?_, ?_, ?_, ?_, ?_, ?_⟩, ?_⟩
    all_goals (clear HC1 HC2 HC3 H1 H2 H3 HV; go_simp; done)
  clear hw0
  have HS := Lib.hid S0
  have H7 := Lib.hid c7
  clear S0 c7
  refine Calls.mono (HC1.out w0 e0) ?_
  rintro e w1 hr
  obtain ⟨r, rfl, rfl, e1⟩ := ret_ext hr
  clear hr
  have et := e0.trans e1
  by_cases hd : rc = 0
  · have hb : (rc != 0) = false := by rw [hd]; rfl
    have H2' := Lib.hid (H2.out hd)
    have H3' := Lib.hid (fun b => H3.out b hd)
    have HC2' := Lib.hid (HC2.out hd)
    have HC3' := Lib.hid (HC3.out hd)
    obtain ⟨c0, c1, c2, c3, c4, c5⟩ := HS.out.ext e1
    have zb := World.block_lt_of_cell? _ _ (e1.cell H7.out)
    simp only at zb
    have zb0 : w.heap.size < w1.heap.size := by omega
    have zb' := Nat.ne_of_lt zb0
    have zb'' := Nat.ne_of_gt zb0
    clear H1 H2 H3 HC2 HC3 hd
    go_wp2_with fail
    generalize hw3 : World.alloc w1 _ = w3
    have e3 : Ext w1 w3 := by rw [← hw3]; exact Ext.alloc _ _
    have s3 : w3.heap.size = w1.heap.size + 1 := by rw [← hw3]; simp
    have hw3' := Lib.hid hw3
    have S3 := Lib.hid s3
    clear hw3 s3 c0 c1 c2 c3 c4 c5
    have et3 := et.trans e3
    refine Calls.mono (HC2'.out w3 et3) ?_
    rintro e w4 hr
    obtain ⟨r, rfl, hL, e4⟩ := ret_ext hr
    clear hr
    obtain ⟨al, nl, kl, rfl, -⟩ := SliceR.shape hL
    have HLk := Lib.hid hL
    clear hL
    have et4 := et3.trans e4
    obtain ⟨c0, c1, c2, c3, c4, c5⟩ := HS.out.ext ((e1.trans e3).trans e4)
    have c7 := ((e1.trans e3).trans e4).cell H7.out
    have zb4 : w.heap.size < w4.heap.size := Nat.lt_of_lt_of_le zb0 (e3.trans e4).size
    have zb4' := Nat.ne_of_lt zb4
    have zb4'' := Nat.ne_of_gt zb4
    have zc4 : w.heap.size + 1 < w4.heap.size := Nat.lt_of_lt_of_le zb (e3.trans e4).size
    have zc4' := Nat.ne_of_lt zc4
    have zc4'' := Nat.ne_of_gt zc4
    go_upto_region 5 with fail
    generalize hw7 : World.alloc (World.alloc (World.alloc _ _) _) _ = w7
    obtain ⟨e7, i7, k7⟩ := eas_new (f := f) (r0 := w1.heap.size) (e3.trans e4) rfl (by rw [hw3'.out]; exact e4) hw7
    clear hw7 c0 c1 c2 c3 c4 c5 c7 zb4' zb4'' zc4' zc4'' zb' zb''
    obtain ⟨c0, c1, c2, c3, c4, c5⟩ := HS.out.ext (((e1.trans e3).trans e4).trans e7)
    have c7 := (((e1.trans e3).trans e4).trans e7).cell H7.out
    have s3 := S3.out
    have s4 := e4.size
    have hcall := HC3'.out w7 (et4.trans e7) w4.heap.size (w4.heap.size + 1) (w4.heap.size + 2) w1.heap.size _ _ (by omega) (by show w1.heap.size < w3.heap.size ∧ w4.heap.size ≤ w4.heap.size; omega) (stable_locks.ext HLk.out e7) k7 c7 i7
    rw [HV.out] at hcall
    have HCALL := Lib.hid hcall
    clear hcall k7 i7 s3 s4
    go_wp2_with fail
    refine Calls.mono HCALL.out ?_
    intro e w8 h8
    obtain ⟨rfl, F8, ⟨v8, hB8⟩, g8, f8⟩ := h8
    have et7 := et4.trans e7
    have es := et.size
    have es4 := (e3.trans e4).size
    have HG : Hid (∀ k, F8 k → w.heap.size ≤ k) := fun k hk => by
      have := et7.size
      rcases g8 k hk with q | q
      · rcases q with q | q | q <;> omega
      · omega
    have HE8 : Hid (Ext w w8) := (Frame.trans (Frame.of_ext (F := fun k => k = w4.heap.size ∨ k = w4.heap.size + 1 ∨ k = w1.heap.size) et7) f8 (fun i hi _ => hi)).below (B := w.heap.size) (fun k hk => by rcases hk with q | q | q <;> omega) (Nat.le_refl _)
    have d1 := hB8.cell
    have d2 := hB8.least
    have HB8 := Lib.hid hB8
    obtain ⟨a8, n8, k8, rfl, -⟩ := OwnP.shape hB8.own
    clear hB8 g8 f8 c0 c1 c2 c3 c4 c5 c7
    cases hL : easL f L with
    | none =>
      rw [hL] at d2
      have hl : leastOf f none = -1 := rfl
      rw [hl] at d2
      have HH := Lib.hid (H2'.out hL)
      clear hL hl
      go_wp2_with fail
      go_ret3
      exact ⟨_, rfl, IntsTwo_nil HH.out, HE8.out⟩
    | some b =>
      have HH := Lib.hid (H3'.out b hL)
      have hl : leastOf f (some b) = (f b : Int) := rfl
      rw [hL, hl] at d2
      have HX : Hid (IntsR (.new w w8) w8 (.slice a8 n8 k8) b) := by
        have h1 := HB8.out.own
        have h2 := HB8.out.i64
        rw [hL] at h1 h2
        exact OwnP.ints (h1.raise (fun k hk => HG.out k (HB8.out.row k hk).1)) h2 (Nat.le_refl _)
      have hf0 : ¬ ((f b : Int) < 0) := by omega
      have hf1 : decide ((f b : Int) < 0) = false := decide_eq_false hf0
      generalize f b = fb at *
      clear hL hl
      go_wp2_with fail
      go_quiet (fail)
      go_wp2_with fail
      go_ret3
      exact ⟨_, rfl, IntsTwo_mk HH.out (stable_ints.ext HX.out (Ext.drewN _ _)), HE8.out.trans (Ext.drewN _ _)⟩
  · have HH := Lib.hid (H1.out hd)
    have hb : (rc != 0) = true := by rw [bne_iff_ne]; exact hd
    clear H1 H2 H3 hd
    go_wp2_with fail
    go_ret3
    exact ⟨_, rfl, IntsTwo_nil HH.out, et⟩
end Go.Proofs.YtblmccofkochoaaGreat
