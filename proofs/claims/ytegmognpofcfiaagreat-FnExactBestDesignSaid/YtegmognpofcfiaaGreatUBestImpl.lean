/- Proved: BestDesign of the program. -/
import Derived.Test.YtegmognpofcfiaaGreatChecked
import Derived.Test.YtegmognpofcfiaaGreatUBestVisit
import Derived.Test.YtegmognpofcfiaaGreatUSearchCode
import Derived.Test.YtegmognpofcfiaaGreatUGoNew
namespace Go.Proofs.YtegmognpofcfiaaGreat
open Go.ChangeShapes Go.WideShapes Go.ChangeAt Go.RowKit
set_option linter.unusedVariables false

theorem visitBest {bs bb bl : Nat} {mk : MK} {t : List (List Int)} (hs : isSystem mk t = true) {w0 : World} {F0 : Nat → Prop} {vt : Value} {zt : Zone} (hT : RowsR zt w0 vt t) (hS : SysAt w0 bs mk vt) (hz : ∀ k, zt.Has k → ¬ F0 k) (hb : ¬ F0 bs) :
    VisitD 152 #[.pointer (some ⟨bs, 0, none⟩), .pointer (some ⟨bb, 0, none⟩), .pointer (some ⟨bl, 0, none⟩)] w0 F0 (BestInv (sysWafers mk t) bb bl) (bestStep (sysWafers mk t)) (fun _ _ => true) (fun _ => 0) (Goods mk t) where
  goes := Tryz.goesBestDesign1
  size := fun _ _ => Nat.zero_le _
  keep := by
    rintro F s w w' ⟨v, hb⟩ hk hs
    exact ⟨v, hb.keep hk hs⟩
  fresh := by
    rintro F s w ⟨v, hb⟩
    exact hb.lt
  call := by
    rintro F s w v z x hI hF hK hx hg -
    have hl := (sysOk hs).len
    exact best1_c w v z x hI hx (goods_part hs hg) (by have := hg.len; omega) (hK.read stable_rows hT hz) ⟨hK.cell hb hS.c0, hK.cell hb hS.c1, hK.cell hb hS.c2, hK.cell hb hS.c3, hK.cell hb hS.c4, hK.cell hb hS.c5⟩

theorem best_new {f : List (List Int) → Int} {w1 w6 : World} {mk : MK} {v : Value} {limit : Int} {Fv : FuncId} {caps : Array Value} {t1 t2 t3 : TypeId}
    (h : ((w1.alloc (.cells #[.slice none 0 0] t1)).alloc (.cells #[.int .i64 0] t2)).alloc (.cells #[.int .i64 mk.c, .int .i64 mk.d, .int .i64 mk.s, .int .i64 mk.m, .int .i64 mk.l, v, .int .i64 limit, .int .i64 0, .bool false, .func (.func Fv) #[] caps] t3) = w6) :
    Ext w1 w6 ∧ GoAt (w1.heap.size + 1 + 1) mk v limit Fv caps (BestInv f w1.heap.size (w1.heap.size + 1)) (fun k => (k = w1.heap.size ∨ k = w1.heap.size + 1) ∨ k = w1.heap.size + 1 + 1) ⟨0, false, none⟩ w6 := by
  have e6 : Ext w1 w6 := by rw [← h]; exact ((Ext.alloc _ _).trans (Ext.alloc _ _)).trans (Ext.alloc _ _)
  have s6 : w6.heap.size = w1.heap.size + 3 := by rw [← h]; simp
  have d1 : w6.cell? ⟨w1.heap.size, 0, none⟩ = some (.slice none 0 0) := by rw [← h]; clear h e6 s6; go_simp
  have d2 : w6.cell? ⟨w1.heap.size + 1, 0, none⟩ = some (.int .i64 0) := by rw [← h]; clear h e6 s6 d1; go_simp
  have f1 : w6.frozen? ⟨w1.heap.size, 0, none⟩ = false := by rw [← h]; clear h e6 s6 d1 d2; go_simp
  have f2 : w6.frozen? ⟨w1.heap.size + 1, 0, none⟩ = false := by rw [← h]; clear h e6 s6 d1 d2 f1; go_simp
  have hI : BestInv f w1.heap.size (w1.heap.size + 1) (fun k => k = w1.heap.size ∨ k = w1.heap.size + 1) none w6 :=
    ⟨.slice none 0 0, ⟨d1, f1, OwnA.none, (fun k hk => by cases hk), ⟨.inl rfl, by omega⟩, fun k hk => by have := hk.1; omega⟩, fun _ => rfl, (fun b hb => by cases hb), d2, f2, .inr rfl, fun k hk => by omega⟩
  subst h
  have hsz : ((w1.alloc (.cells #[.slice none 0 0] t1)).alloc (.cells #[.int .i64 0] t2)).heap.size = w1.heap.size + 1 + 1 := by simp
  have hG := goAt_new (w := (w1.alloc (.cells #[.slice none 0 0] t1)).alloc (.cells #[.int .i64 0] t2)) (G := fun k => k = w1.heap.size ∨ k = w1.heap.size + 1) hI (fun k hk => by omega)
  rw [hsz] at hG
  exact ⟨e6, hG⟩

set_option maxRecDepth 20000 in
set_option maxHeartbeats 1000000 in
theorem BestDesign_c (w : World) (mk : MK) (v : Value) (z : Zone) (t : List (List Int)) (h : RowsR z w v t) (limit : Int) (hl : I64 limit) :
    Calls Tryz.prog 61 #[sysV mk v, .int .i64 limit] w (Ret w (RowsCode w (bestD mk t limit))) := by
  have H1 : Hid (searchC mk t limit ≠ 0 → bestD mk t limit = ([], searchC mk t limit)) := bestD_bad
  have HC1 := Lib.hid (fun (w' : World) (e : Ext w w') => searchCode_c w' mk v z t (stable_rows.ext h e) limit hl)
  have HT : RowsR ⟨z.lo, min z.hi w.heap.size, false⟩ w v t := shrinks_rows _ _ _ _ h
  have HGo := Lib.hid (fun (h0 : searchC mk t limit = 0) (w0 : World) (e : Ext w w0) (bs bb bl g : Nat) (F : Nat → Prop) (hF : ∀ k, F k → w.heap.size ≤ k ∧ k ≠ bs) (hS : SysAt w0 bs mk v) (hG : GoAt g mk v limit 152 #[.pointer (some ⟨bs, 0, none⟩), .pointer (some ⟨bb, 0, none⟩), .pointer (some ⟨bl, 0, none⟩)] (BestInv (sysWafers mk t) bb bl) F ⟨0, false, none⟩ w0) =>
    goN_all (visitBest (searchC_zero h0).1 (stable_rows.ext HT e) hS (fun k hk q => by have h1 := hk.2; have h2 := (hF k q).1; simp only at h1; omega) (fun q => (hF bs q).2 rfl)) (sys_mkOk (searchC_zero h0).1) (sysOk (searchC_zero h0).1) hl (searchC_zero h0).2.2 (fun x h1 h2 h3 => ⟨h1, h2, h3⟩) t.length [] F ⟨0, false, none⟩ w0 _ (fun _ => False) (.slice none 0 0) hG (fun k hk => .inl hk) (Kept.refl _ _) (stable_rows.ext HT e) (fun k hk q => by have h1 := hk.2; have h2 := (hF k q).1; simp only at h1; omega) RowsA.nil (fun k hk => hk.elim) (by simp) (by simp) (faults_nil mk t) (Int.le_refl _) (searchC_zero h0).2.1 (by have := (sysOk (searchC_zero h0).1).len; rw [if_neg (by omega)]; exact Int.le_refl _))
  have HSim := Lib.hid (fun (h0 : searchC mk t limit = 0) => all_sim (step := bestStep (sysWafers mk t)) (v0 := none) h0)
  have H2 : Hid (searchC mk t limit = 0 → (allS mk t limit).over = true → bestD mk t limit = ([], 3)) := bestD_over
  have H3 : Hid (searchC mk t limit = 0 → (allS mk t limit).over = false → bestL (sysWafers mk t) (allS mk t limit).found = none → bestD mk t limit = ([], 4)) := bestD_none
  have H4 : Hid (∀ b, searchC mk t limit = 0 → (allS mk t limit).over = false → bestL (sysWafers mk t) (allS mk t limit).found = some b → bestD mk t limit = (b, 0)) := fun b => bestD_some
  generalize hrc : searchC mk t limit = rc at *
  generalize bestD mk t limit = res at *
  obtain ⟨a, n, cap, rfl, -⟩ := SliceR.shape h
  clear h hrc
  unfold sysV at *
  go_enter Tryz.func61, Tryz.ntmps61
  go_wp2_with fail
  generalize hw0 : World.alloc _ _ = w0
  obtain ⟨e0, S0⟩ := sys_box hw0
  clear hw0
  have HS := Lib.hid S0
  clear S0
  refine Calls.mono (HC1.out w0 e0) ?_
  rintro e w1 hr
  obtain ⟨r, rfl, rfl, e1⟩ := ret_ext hr
  clear hr
  have et := e0.trans e1
  by_cases hd : rc = 0
  · have H2' := Lib.hid (H2.out hd)
    have H3' := Lib.hid (H3.out hd)
    have H4' := Lib.hid (fun b => H4.out b hd)
    have HGo' := Lib.hid (HGo.out hd)
    have HSim' := Lib.hid (HSim.out hd)
    have hb0 : (rc != 0) = false := by rw [hd]; rfl
    obtain ⟨c0, c1, c2, c3, c4, c5⟩ := HS.out.ext e1
    have zb := World.block_lt_of_cell? _ _ c0
    simp only at zb
    have zb' := Nat.ne_of_lt zb
    have zb'' := Nat.ne_of_gt zb
    have HSx := Lib.hid (HS.out.ext e1)
    have HT2 := Lib.hid et
    clear hd H1 H2 H3 H4 HGo HSim HC1 HS et e0 e1 HT
    generalize goV mk t limit (bestStep (sysWafers mk t)) (fun _ _ => true) t.length [] ⟨0, false, none⟩ = gv at *
    generalize allS mk t limit = st at *
    generalize sysWafers mk t = f at *
    go_wp2_with fail
    generalize hw6 : World.alloc (World.alloc (World.alloc w1 _) _) _ = w6
    obtain ⟨e6, i6⟩ := best_new (f := f) hw6
    have S6 := HSx.out.ext e6
    have hle := HT2.out.size
    clear hw6 c0 c1 c2 c3 c4 c5 zb' zb''
    refine Calls.mono (HGo'.out w6 (HT2.out.trans e6) w.heap.size w1.heap.size (w1.heap.size + 1) (w1.heap.size + 1 + 1) _ (fun k hk => by rcases hk with (q | q) | q <;> omega) S6 i6) ?_
    rintro e w7 ⟨rfl, F7, i7, g7, f7⟩
    have HE7 : Hid (Ext w w7) := (Frame.trans (Frame.of_ext (F := fun k => (k = w1.heap.size ∨ k = w1.heap.size + 1) ∨ k = w1.heap.size + 1 + 1) (HT2.out.trans e6)) f7 (fun i hi _ => hi)).below (B := w.heap.size) (fun k hk => by rcases hk with (q | q) | q <;> omega) (Nat.le_refl _)
    obtain ⟨gb, gs⟩ := gv
    obtain ⟨x1, x2, x3⟩ := HSim'.out
    simp only at x1 x2 x3 i7 ⊢
    obtain ⟨G7, ⟨v7, hB7⟩, hG7⟩ := i7.val
    have c8 := i7.c8
    rw [x2] at c8
    have hc7 := hB7.rows.cell
    have hnil := hB7.nil
    have hfull := hB7.full
    obtain ⟨a7, n7, k7, rfl, -⟩ := OwnA.shape hB7.rows.own
    have e6s := e6.size
    have HZ : Hid (RowsR (.new w w7) w7 (.slice a7 n7 k7) (gs.val.getD [])) := RowsBox.rows hB7.rows (L := w.heap.size) (fun k hk => by
      have h1 := (hG7 k hk.1).1
      rcases g7 k h1 with q | q
      · rcases q with (q | q) | q <;> omega
      · omega)
    have HV : Hid (gs.val = bestL f st.found) := x3
    have hq := fun (wq : World) => Lib.run_eql_slice_nil (P := Tryz.prog) wq 26 29 a7 n7 k7 0 0 Tryz.underlying26
    clear hB7 hG7 g7 f7 i7 i6 S6 e6 HGo' HSim' x1 x2 x3 HSx
    obtain ⟨tries, over, found⟩ := st
    simp only at c8 H2' H3' H4' HV
    cases over with
    | true =>
      have HH := Lib.hid (H2'.out rfl)
      clear hnil hfull
      go_wp2_with fail
      go_ret2
      exact ⟨_, rfl, RowsCode_nil HH.out, HE7.out⟩
    | false =>
      cases hv : gs.val with
      | none =>
        have HH := Lib.hid (H3'.out rfl (by rw [← HV.out]; exact hv))
        have hz := hnil hv
        injection hz with z1 z2 z3
        subst z1; subst z2; subst z3
        clear hnil hfull hv
        go_wp2_with fail
        go_ret2
        exact ⟨_, rfl, RowsCode_nil HH.out, HE7.out⟩
      | some b =>
        have HH := Lib.hid (H4'.out b rfl (by rw [← HV.out]; exact hv))
        obtain ⟨ad, n', c', hz⟩ := hfull b hv
        injection hz with z1 z2 z3
        subst z1
        have HZ2 : Hid (RowsR (.new w w7) w7 (.slice (some ad) n7 k7) b) := by have := HZ.out; rw [hv] at this; exact this
        clear hnil hfull hv z2 z3 HZ
        go_wp2_with fail
        go_ret2
        exact ⟨_, rfl, by rw [HH.out]; exact ⟨_, rfl, HZ2.out⟩, HE7.out⟩
  · have HH := Lib.hid (H1.out hd)
    have hb0 : (rc != 0) = true := by rw [bne_iff_ne]; exact hd
    clear hd H1 H2 H3 H4 HGo HSim HC1 HT
    go_wp2_with fail
    go_ret2
    exact ⟨_, rfl, RowsCode_nil HH.out, et⟩
end Go.Proofs.YtegmognpofcfiaaGreat
