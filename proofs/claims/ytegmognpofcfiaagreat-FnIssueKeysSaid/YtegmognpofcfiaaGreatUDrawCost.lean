/- Proved: the draw of a system, a design and prices: DrawCostOf. -/
import Derived.Test.YtegmognpofcfiaaGreatChecked
import Derived.Deep.RegionLaw
import Derived.Deep.RegionHeld3
import Derived.Deep.Cut
import Derived.Test.YtegmognpofcfiaaGreatUDrawDesign
namespace Go.Proofs.YtegmognpofcfiaaGreat
open Go.ChangeShapes Go.WideShapes Go.ChangeAt Go.RowKit
set_option linter.unusedVariables false

theorem ext_put6 {w w' : World} {B : Nat} (h : Ext w w') (hB : w.heap.size ≤ B) (u0 u1 u2 u3 u4 u5 : Value) : Ext w ((((((w'.setCell ⟨B, 0, none⟩ u0).setCell ⟨B, 1, none⟩ u1).setCell ⟨B, 2, none⟩ u2).setCell ⟨B, 3, none⟩ u3).setCell ⟨B, 4, none⟩ u4).setCell ⟨B, 5, none⟩ u5) :=
  Below.setCell (Below.setCell (Below.setCell (Below.setCell (Below.setCell (Below.setCell h (p := ⟨B, 0, none⟩) hB _) (p := ⟨B, 1, none⟩) hB _) (p := ⟨B, 2, none⟩) hB _) (p := ⟨B, 3, none⟩) hB _) (p := ⟨B, 4, none⟩) hB _) (p := ⟨B, 5, none⟩) hB _
theorem ints_put6 {L B : Nat} {b : Bool} {w' : World} {v : Value} {t : List Int} (h : IntsR ⟨L, w'.heap.size, b⟩ w' v t) (hB : B < L) (u0 u1 u2 u3 u4 u5 : Value) :
    IntsR ⟨B, ((((((w'.setCell ⟨B, 0, none⟩ u0).setCell ⟨B, 1, none⟩ u1).setCell ⟨B, 2, none⟩ u2).setCell ⟨B, 3, none⟩ u3).setCell ⟨B, 4, none⟩ u4).setCell ⟨B, 5, none⟩ u5).heap.size, false⟩ ((((((w'.setCell ⟨B, 0, none⟩ u0).setCell ⟨B, 1, none⟩ u1).setCell ⟨B, 2, none⟩ u2).setCell ⟨B, 3, none⟩ u3).setCell ⟨B, 4, none⟩ u4).setCell ⟨B, 5, none⟩ u5) v t := by
  rw [put6_size]
  exact stable_ints.sub (stable_ints.keep h (fun k hk _ => put6_other (by have := hk.1; simp only at this; omega) _ _ _ _ _ _)) ⟨fun k hk => ⟨by have := hk.1; simp only at this ⊢; omega, hk.2⟩, fun h => by cases h⟩
/-- a system, cuts and a list that a draw hands back -/
def SysCutsIntsD (w : World) (r : Value) (w' : World) : Prop := ∃ (mk : MK) (v : Value) (t : List (List Int)) (u : Value) (cuts : List (List Int)) (p : Value) (ps : List Int), r = .tuple #[sysV mk v, u, p] ∧ RowsR ⟨w.heap.size, w'.heap.size, false⟩ w' v t ∧ RowsR ⟨w.heap.size, w'.heap.size, false⟩ w' u cuts ∧ IntsR ⟨w.heap.size, w'.heap.size, false⟩ w' p ps

set_option maxRecDepth 20000 in
set_option maxHeartbeats 2000000 in
theorem DrawCostOf_c (w : World) (vb : Value) (zb : Zone) (xs : List Int) (h : BytesR zb w vb xs) : Calls Tryz.prog 13 #[vb] w (Ret w (SysCutsIntsD w)) := by
  have R0 := res_new w 28
  have e0 : Ext w (w.alloc (.cells #[.int .i64 0, .int .i64 0, .int .i64 0, .int .i64 0, .int .i64 0, .slice none 0 0] 28)) := Ext.alloc _ _
  have hsz0 : (w.alloc (.cells #[.int .i64 0, .int .i64 0, .int .i64 0, .int .i64 0, .int .i64 0, .slice none 0 0] 28)).heap.size = w.heap.size + 1 := by simp
  have hcall := l01From_c _ vb zb xs (stable_bytes.ext h e0)
  obtain ⟨ab, nb, kb, rfl, -⟩ := BytesR.shape h
  clear h
  go_enter Tryz.func13, Tryz.ntmps13
  go_wp2_with fail
  generalize w.alloc (.cells #[.int .i64 0, .int .i64 0, .int .i64 0, .int .i64 0, .int .i64 0, .slice none 0 0] 28) = w0 at *
  refine Calls.mono hcall ?_
  rintro e w1 hr
  obtain ⟨_, rfl, ⟨g, hg, rfl, hsrc⟩, e1⟩ := ret_ext hr
  clear hr hcall
  have hwg : w.heap.size ≠ g := by omega
  have hwg' : w.heap.size ≤ g := by omega
  have R1 := R0.ext e1
  have HE1 := Lib.hid (e0.trans e1)
  have hs1 := e1.size
  have hw1 : w.heap.size < w1.heap.size := by omega
  have hg1 : g < w1.heap.size := hsrc.lt
  have hcall := l21Draw_c w1 g hsrc
  clear R0 e0 e1 hsz0 hs1 hg hsrc
  go_wp2_with fail
  refine Calls.mono hcall ?_
  rintro e w2 ⟨_, rfl, ⟨mk, v, t, u, cuts, rfl, -, ht, -, -, hc, -⟩, hd2⟩
  clear hcall
  obtain ⟨a, n, k, rfl, -⟩ := SliceR.shape ht
  obtain ⟨a2, n2, k2, rfl, -⟩ := SliceR.shape hc
  have R2 := R1.dr hd2 hwg
  unfold sysV
  go_wp2_with fail
  generalize hwb : World.alloc w2 _ = wb
  obtain ⟨eb, Sb⟩ := sys_box hwb
  have hdb : Dr g w1 wb := by rw [← hwb]; exact hd2.alloc _
  have hsb : wb.heap.size = w2.heap.size + 1 := by rw [← hwb]; simp
  clear hwb
  obtain ⟨b, hb⟩ : ∃ b, w2.heap.size = b := ⟨_, rfl⟩
  have hs2 := hd2.size
  have HR := Lib.hid (R2.ext eb)
  have HSb := Lib.hid Sb
  have HT := Lib.hid (stable_rows.ext ht eb)
  have HC := Lib.hid (stable_rows.ext hc eb)
  rw [hb] at HSb hsb HT HC
  have hbg : b ≠ g := by omega
  have hgb : g < wb.heap.size := by omega
  have hwbb : w.heap.size ≠ b := by omega
  have hwbb' : b ≠ w.heap.size := by omega
  have HDb := Lib.hid hdb
  rw [hb]
  have hr0 : Dr g wb wb := Dr.refl hdb.src
  have hcall := l01Next_c wb g hdb.src 20 (by unfold I64; omega)
  clear R1 R2 Sb ht hc eb hd2 hs2 hdb hb hsb
  go_wp2_with fail
  refine Calls.mono hcall ?_
  rintro e w3 ⟨_, rfl, ⟨p0, rfl, h00, h01⟩, hd3⟩
  clear hcall
  have hcall := l01Next_c w3 g hd3.src 20 (by unfold I64; omega)
  go_wp2_with fail
  refine Calls.mono hcall ?_
  rintro e w4 ⟨_, rfl, ⟨p1, rfl, h10, h11⟩, hd4⟩
  clear hcall
  replace hd4 := hd3.trans hd4
  have hcall := l01Next_c w4 g hd4.src 20 (by unfold I64; omega)
  go_wp2_with fail
  refine Calls.mono hcall ?_
  rintro e w5 ⟨_, rfl, ⟨p2, rfl, h20, h21⟩, hd5⟩
  clear hcall hd3
  replace hd5 := hd4.trans hd5
  clear hd4
  have hs5 := hd5.size
  have HS5 := Lib.hid hs5
  have ho := OwnP.lit (f := Value.int .i64) (e := 2) (B := w5.heap.size) (w := w5) (Nat.le_refl _) [p0, p1, p2] #[.int .i64 p0, .int .i64 p1, .int .i64 p2] rfl (by simp [maxLen])
  have hp : ∀ y ∈ [p0, p1, p2], I64 y := by simp [I64]; omega
  have HP := Lib.hid hp
  have hd6 := hd5.alloc (.cells #[.int .i64 p0, .int .i64 p1, .int .i64 p2] 2)
  have hcall := l01Next_c _ g hd6.src 20 (by unfold I64; omega)
  clear hr0 hd5 h00 h01 h10 h11 h20 h21 hp
  go_wp2_with fail
  generalize w5.alloc (.cells #[.int .i64 p0, .int .i64 p1, .int .i64 p2] 2) = w6 at *
  refine Calls.mono hcall ?_
  rintro e w7 ⟨_, rfl, ⟨x, rfl, hx0, hx1⟩, hd7⟩
  clear hcall
  have ho7 : OwnP (Value.int .i64) 2 w5.heap.size w7 (.slice (some ⟨w5.heap.size, 0, none⟩) 3 3) [p0, p1, p2] := ho.dr hd7 (by omega)
  replace hd7 := hd6.trans hd7
  obtain ⟨bp, hbp⟩ : ∃ bp, w5.heap.size = bp := ⟨_, rfl⟩
  rw [hbp] at hs5 ho7 ⊢
  have hn1 : b ≠ bp := by have := HSb.out.lt; omega
  have hn2 : bp ≠ b := Ne.symm hn1
  have hn3 : w.heap.size ≠ bp := by omega
  have hn4 : bp ≠ w.heap.size := Ne.symm hn3
  have hwp : wb.heap.size ≤ bp := hs5
  have hn5 : g < bp := by omega
  have hn6 : w.heap.size < bp := by omega
  have HFin : Hid (∀ w' p ps, Dr g wb w' → OwnP (Value.int .i64) 2 bp w' p ps → (∀ y ∈ ps, I64 y) → Ret w (SysCutsIntsD w) (.returned (.tuple #[.agg #[.int .i64 mk.c, .int .i64 mk.d, .int .i64 mk.s, .int .i64 mk.m, .int .i64 mk.l, .slice a n k], .slice a2 n2 k2, p]))
      ((((((w'.setCell ⟨w.heap.size, 0, none⟩ (.int .i64 mk.c)).setCell ⟨w.heap.size, 1, none⟩ (.int .i64 mk.d)).setCell ⟨w.heap.size, 2, none⟩ (.int .i64 mk.s)).setCell ⟨w.heap.size, 3, none⟩ (.int .i64 mk.m)).setCell ⟨w.heap.size, 4, none⟩ (.int .i64 mk.l)).setCell ⟨w.heap.size, 5, none⟩ (.slice a n k))) := fun w' p ps hd ho hm => by
    have hz : ∀ {v t}, RowsR ⟨w1.heap.size, b, false⟩ wb v t → b ≤ wb.heap.size → RowsR ⟨w1.heap.size, w'.heap.size, false⟩ w' v t := fun h hb => stable_rows.sub (stable_rows.dr h hd (.inl hg1)) ⟨fun k hk => ⟨hk.1, Nat.lt_of_lt_of_le hk.2 (Nat.le_trans hb hd.size)⟩, fun h => h⟩
    have hbl := Nat.le_of_lt HSb.out.lt
    exact ⟨_, rfl, ⟨mk, _, t, _, cuts, _, ps, rfl, rows_put6 (hz HT.out hbl) hw1 _ _ _ _ _ _, rows_put6 (hz HC.out hbl) hw1 _ _ _ _ _ _, ints_put6 (OwnP.ints ho hm (Nat.le_refl _)) hn6 _ _ _ _ _ _⟩, ext_put6 (Below.trans HE1.out ((HDb.out.trans hd).back hwg')) (Nat.le_refl _) _ _ _ _ _ _⟩
  have HO7 := Lib.hid ho7
  have HD7 := Lib.hid hd7
  clear ho hd6 hs5 hbp
  by_cases e0 : x = 0
  · subst e0
    have hcall := pickL_c w7 g hd7.src [-1, 1000, 1001] #[.int .i64 (-1), .int .i64 1000, .int .i64 1001] rfl (by simp [I64]) (by simp) (by simp) rfl rfl
    have hd8 := hd7.alloc (.cells #[.int .i64 (-1), .int .i64 1000, .int .i64 1001] 2)
    have ho8 := ho7.alloc (.cells #[.int .i64 (-1), .int .i64 1000, .int .i64 1001] 2)
    clear ho7 hd7
    go_wp2_with fail
    refine Calls.mono hcall ?_
    rintro e w8 ⟨_, rfl, ⟨y, rfl, hyl⟩, hd9⟩
    have hy : I64 y := by simp only [List.mem_cons, List.not_mem_nil, or_false] at hyl; unfold I64; omega
    clear hcall hyl
    have ho9 := ho8.dr hd9 hn5
    replace hd9 := hd8.trans hd9
    have hst := ho9.store 1 y
    have HSt := Lib.hid hst
    have HM9 : Hid (∀ z ∈ [p0, p1, p2].set 1 y, I64 z) := fun z hz => by
      rcases List.mem_or_eq_of_mem_set hz with hz | hz
      · exact HP.out z hz
      · rw [hz]; exact hy
    have hput := hd9.put (p := ⟨bp, 1, none⟩) (hwp) (.int .i64 y)
    have HPut := Lib.hid hput
    have m12 : w8.cell? ⟨bp, 1, none⟩ = some (.int .i64 p1) ∧ w8.frozen? ⟨bp, 1, none⟩ = false := (ho9.at (k := 1) (by omega)).elim (fun _ q => q)
    obtain ⟨m1, m2⟩ := m12
    have HD9 := Lib.hid hd9
    clear ho8 hd8 hd9 ho9 hst hput
    go_upto_region 9 with fail
    clear m1 m2
    generalize w8.setCell ⟨bp, 1, none⟩ (.int .i64 y) = w9 at *
    obtain ⟨c0, c1, c2, c3, c4, c5⟩ := HSb.out.dr HPut.out hbg
    obtain ⟨r0, r1, r2, r3, r4, r5, f0, f1, f2, f3, f4, f5⟩ := HR.out.dr HPut.out hwg
    go_wp2_with fail
    refine bodyPost_ret (v := .tuple #[.agg #[.int .i64 mk.c, .int .i64 mk.d, .int .i64 mk.s, .int .i64 mk.m, .int .i64 mk.l, .slice a n k], .slice a2 n2 k2, .slice (some ⟨bp, 0, none⟩) 3 3]) (by simp [results, Tryz.results13, go_sem, r0, r1, r2, r3, r4, r5]) rfl (HFin.out _ _ _ HPut.out HSt.out HM9.out)
  · by_cases e1 : x = 1
    · subst e1
      have hs7 := hd7.size
      obtain ⟨c0, c1, c2, c3, c4, c5⟩ := HSb.out.dr hd7 hbg
      obtain ⟨r0, r1, r2, r3, r4, r5, f0, f1, f2, f3, f4, f5⟩ := HR.out.dr hd7 hwg
      have hl3 : [p0, p1, p2].length ≤ 1000000 := by simp
      have HL3 := Lib.hid hl3
      have hb7 : bp ≤ w7.heap.size := Nat.le_of_lt (ho7.block _ rfl).2
      clear ho7 hd7 hl3
      go_wp2_with (at_builtin; (refine wpList_drawInt (g := g) (w0 := wb) (B := bp) rfl _ _ 29 rfl Tryz.underlying29 Tryz.infoI64 rfl HO7.out 1 rfl HL3.out HD7.out hwp hb7 ?_); intro v8 w8 hown8 hd8 hs8; have HO8 := Lib.hid hown8; have HD8 := Lib.hid hd8; clear c0 c1 c2 c3 c4 c5 r0 r1 r2 r3 r4 r5 f0 f1 f2 f3 f4 f5 hown8; obtain ⟨c0, c1, c2, c3, c4, c5⟩ := HSb.out.dr hd8 hbg; obtain ⟨r0, r1, r2, r3, r4, r5, f0, f1, f2, f3, f4, f5⟩ := HR.out.dr hd8 hwg; clear hd8)
      go_wp2_with fail
      refine bodyPost_ret (v := .tuple #[.agg #[.int .i64 mk.c, .int .i64 mk.d, .int .i64 mk.s, .int .i64 mk.m, .int .i64 mk.l, .slice a n k], .slice a2 n2 k2, v8]) (by simp [results, Tryz.results13, go_sem, r0, r1, r2, r3, r4, r5]) rfl (HFin.out _ _ _ HD8.out HO8.out (ints_snoc HP.out (by unfold I64; omega)))
    · obtain ⟨c0, c1, c2, c3, c4, c5⟩ := HSb.out.dr hd7 hbg
      obtain ⟨r0, r1, r2, r3, r4, r5, f0, f1, f2, f3, f4, f5⟩ := HR.out.dr hd7 hwg
      clear ho7 hd7
      go_wp2_with fail
      refine bodyPost_ret (v := .tuple #[.agg #[.int .i64 mk.c, .int .i64 mk.d, .int .i64 mk.s, .int .i64 mk.m, .int .i64 mk.l, .slice a n k], .slice a2 n2 k2, .slice (some ⟨bp, 0, none⟩) 3 3]) (by simp [results, Tryz.results13, go_sem, r0, r1, r2, r3, r4, r5]) rfl (HFin.out _ _ _ HD7.out HO7.out HP.out)
end Go.Proofs.YtegmognpofcfiaaGreat
