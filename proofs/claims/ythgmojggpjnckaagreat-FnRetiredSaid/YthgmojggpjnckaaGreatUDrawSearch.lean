/- Proved: the draws of searches for designs: l17Draw, l17DrawLimit, DrawFindDesign, DrawBestDesign, DrawSparedWafers. -/
import Derived.Test.YthgmojggpjnckaaGreatChecked
import Derived.Deep.RegionLaw
import Derived.Deep.RegionHeld3
import Derived.Deep.Cut
import Derived.Test.YthgmojggpjnckaaGreatUDrawDesign
import Derived.Test.YthgmojggpjnckaaGreatUDrawCost
namespace Go.Proofs.YthgmojggpjnckaaGreat
open Go.ChangeShapes Go.WideShapes Go.ChangeAt Go.RowKit
set_option linter.unusedVariables false

/-- a system that a draw hands back, of any kind -/
def SysA (w : World) (r : Value) (w' : World) : Prop := ∃ (mk : MK) (v : Value) (t : List (List Int)), r = sysV mk v ∧ RowsR ⟨w.heap.size, w'.heap.size, false⟩ w' v t
/-- a system's box that may be written -/
def SysF (b : Nat) (mk : MK) (v : Value) (w : World) : Prop := SysAt w b mk v ∧ ∀ i, w.frozen? ⟨b, i, none⟩ = false
theorem SysF.new (w : World) (mk : MK) (v : Value) (t : TypeId) : SysF w.heap.size mk v (w.alloc (.cells #[.int .i64 mk.c, .int .i64 mk.d, .int .i64 mk.s, .int .i64 mk.m, .int .i64 mk.l, v] t)) :=
  ⟨(sys_box rfl).2, fun i => frozen_of_row _ _ _ _ t (heap_alloc_new w _)⟩
theorem SysF.dr {b g : Nat} {mk : MK} {v : Value} {w w' : World} (h : SysF b mk v w) (hd : Dr g w w') (hb : b ≠ g) : SysF b mk v w' :=
  ⟨h.1.dr hd hb, fun i => (hd.frozen (p := ⟨b, i, none⟩) h.1.lt hb).trans (h.2 i)⟩
theorem SysF.put5 {b : Nat} {c d s m l : Int} {v : Value} {w : World} (h : SysF b ⟨c, d, s, m, l⟩ v w) (c' d' s' m' l' : Int) :
    SysF b ⟨c', d', s', m', l'⟩ v (((((w.setCell ⟨b, 0, none⟩ (.int .i64 c')).setCell ⟨b, 1, none⟩ (.int .i64 d')).setCell ⟨b, 2, none⟩ (.int .i64 s')).setCell ⟨b, 3, none⟩ (.int .i64 m')).setCell ⟨b, 4, none⟩ (.int .i64 l')) := by
  obtain ⟨⟨c0, c1, c2, c3, c4, c5⟩, f⟩ := h
  refine ⟨⟨?_, ?_, ?_, ?_, ?_, ?_⟩, fun i => ?_⟩
  all_goals (try simp only [World.frozen?_setCell])
  all_goals first | exact f i | (go_simp; done)
theorem SysF.put3 {b : Nat} {c d s m l : Int} {v : Value} {w : World} (h : SysF b ⟨c, d, s, m, l⟩ v w) (m' : Int) : SysF b ⟨c, d, s, m', l⟩ v (w.setCell ⟨b, 3, none⟩ (.int .i64 m')) := by
  obtain ⟨⟨c0, c1, c2, c3, c4, c5⟩, f⟩ := h
  refine ⟨⟨?_, ?_, ?_, ?_, ?_, ?_⟩, fun i => ?_⟩
  all_goals (try simp only [World.frozen?_setCell])
  all_goals first | exact f i | (go_simp; done)
theorem rows_alloc {L : Nat} {w : World} {o : Obj} {v : Value} {t : List (List Int)} (h : RowsR ⟨L, w.heap.size, false⟩ w v t) : RowsR ⟨L, (w.alloc o).heap.size, false⟩ (w.alloc o) v t := stable_rows.sub (stable_rows.ext h (Ext.alloc _ _)) ⟨fun k hk => ⟨hk.1, Nat.lt_of_lt_of_le hk.2 (Ext.alloc _ _).size⟩, fun h => h⟩
theorem rows_put5 {L H b : Nat} {w : World} {v : Value} {t : List (List Int)} (h : RowsR ⟨L, H, false⟩ w v t) (hH : H ≤ b) (u0 u1 u2 u3 u4 : Value) : RowsR ⟨L, H, false⟩ (((((w.setCell ⟨b, 0, none⟩ u0).setCell ⟨b, 1, none⟩ u1).setCell ⟨b, 2, none⟩ u2).setCell ⟨b, 3, none⟩ u3).setCell ⟨b, 4, none⟩ u4) v t :=
  stable_rows.keep h (fun k hk _ => by
    have hk2 : k ≠ b := by have := hk.2; simp only at this; omega
    rw [Below.heap_setCell _ _ _ _ hk2, Below.heap_setCell _ _ _ _ hk2, Below.heap_setCell _ _ _ _ hk2, Below.heap_setCell _ _ _ _ hk2, Below.heap_setCell _ _ _ _ hk2])
theorem rows_put1 {L H b i : Nat} {w : World} {v : Value} {t : List (List Int)} (h : RowsR ⟨L, H, false⟩ w v t) (hH : H ≤ b) (u : Value) : RowsR ⟨L, H, false⟩ (w.setCell ⟨b, i, none⟩ u) v t :=
  stable_rows.keep h (fun k hk _ => by
    have hk2 : k ≠ b := by have := hk.2; simp only at this; omega
    rw [Below.heap_setCell _ _ _ _ hk2])
theorem ResAt.put5 {a b : Nat} {w : World} (h : ResAt w a) (hab : a ≠ b) (u0 u1 u2 u3 u4 : Value) : ResAt (((((w.setCell ⟨b, 0, none⟩ u0).setCell ⟨b, 1, none⟩ u1).setCell ⟨b, 2, none⟩ u2).setCell ⟨b, 3, none⟩ u3).setCell ⟨b, 4, none⟩ u4) a :=
  ((((h.putOther hab).putOther hab).putOther hab).putOther hab).putOther hab
theorem dr_put5 {g b : Nat} {w w' : World} (h : Dr g w w') (hb : w.heap.size ≤ b) (u0 u1 u2 u3 u4 : Value) : Dr g w (((((w'.setCell ⟨b, 0, none⟩ u0).setCell ⟨b, 1, none⟩ u1).setCell ⟨b, 2, none⟩ u2).setCell ⟨b, 3, none⟩ u3).setCell ⟨b, 4, none⟩ u4) :=
  Dr.put (Dr.put (Dr.put (Dr.put (Dr.put h (p := ⟨b, 0, none⟩) hb _) (p := ⟨b, 1, none⟩) hb _) (p := ⟨b, 2, none⟩) hb _) (p := ⟨b, 3, none⟩) hb _) (p := ⟨b, 4, none⟩) hb _

set_option maxRecDepth 20000 in
set_option maxHeartbeats 2000000 in
theorem l17Draw_c (w : World) (g : Nat) (h : Src g w) : Calls Tryz.prog 133 #[.pointer (some ⟨g, 0, none⟩)] w (DrawR g w (SysA w)) := by
  have hlt := h.lt
  have hd0 := (Dr.refl h).alloc (.cells #[.int .i64 0, .int .i64 0, .int .i64 0, .int .i64 0, .int .i64 0, .slice none 0 0] 32)
  have R0 := res_new w 32
  have hsz0 : (w.alloc (.cells #[.int .i64 0, .int .i64 0, .int .i64 0, .int .i64 0, .int .i64 0, .slice none 0 0] 32)).heap.size = w.heap.size + 1 := by simp
  have hcall := l01Next_c _ g hd0.src 20 (by unfold I64; omega)
  clear h
  go_enter Tryz.func133, Tryz.ntmps133
  go_wp2_with fail
  generalize w.alloc (.cells #[.int .i64 0, .int .i64 0, .int .i64 0, .int .i64 0, .int .i64 0, .slice none 0 0] 32) = w0 at *
  refine Calls.mono hcall ?_
  rintro e w1 ⟨_, rfl, ⟨x, rfl, hx0, hx1⟩, hd1⟩
  clear hcall
  have hsa := hd1.size
  have hwg : w.heap.size ≠ g := by omega
  replace R0 := R0.dr hd1 hwg
  replace hd1 := hd0.trans hd1
  have hgt : g < w1.heap.size := by omega
  have hlo : w.heap.size < w1.heap.size := by omega
  clear hd0 hsa hsz0
  by_cases e0 : x = 0
  · subst e0
    have hcall := l15Draw_c w1 g hd1.src
    go_wp2_with fail
    refine Calls.mono hcall ?_
    rintro e w2 ⟨_, rfl, ⟨mk, v, t, u, cuts, rfl, -, ht, -, -, -, -⟩, hd2⟩
    clear hcall
    obtain ⟨a, n, k, rfl, -⟩ := SliceR.shape ht
    have R2 := R0.dr hd2 hwg
    have hs2 := hd2.size
    unfold sysV
    go_upto_region 3 with fail
    generalize hwb : World.alloc w2 _ = wb
    obtain ⟨eb, Sb⟩ := sys_box hwb
    have HD := Lib.hid (hd1.trans (show Dr g w1 wb by rw [← hwb]; exact hd2.alloc _))
    have HT' : Hid (RowsR ⟨w1.heap.size, wb.heap.size, false⟩ wb (.slice a n k) t) := by rw [← hwb]; exact rows_alloc ht
    clear hwb
    obtain ⟨b, hb⟩ : ∃ b, w2.heap.size = b := ⟨_, rfl⟩
    rw [hb] at Sb ⊢
    have hwb' : w.heap.size ≠ b := by omega
    have hwb'' : b ≠ w.heap.size := by omega
    obtain ⟨c0, c1, c2, c3, c4, c5⟩ := Sb
    obtain ⟨r0, r1, r2, r3, r4, r5, f0, f1, f2, f3, f4, f5⟩ := R2.ext eb
    clear ht hd1 hd2 R0 R2 eb hb hs2
    go_wp2_with fail
    refine bodyPost_ret (v := .agg #[.int .i64 mk.c, .int .i64 mk.d, .int .i64 mk.s, .int .i64 mk.m, .int .i64 mk.l, .slice a n k]) (by simp [results, Tryz.results133, go_sem, r0, r1, r2, r3, r4, r5]) rfl ⟨_, rfl, ⟨mk, _, t, rfl, rows_put6 HT'.out hlo _ _ _ _ _ _⟩, put6 HD.out (Nat.le_refl _) _ _ _ _ _ _⟩
  · have hcall := l15Valid_c w1 g hd1.src
    go_wp2_with fail
    refine Calls.mono hcall ?_
    rintro e w2 ⟨_, rfl, ⟨mk, v, t, rfl, -, hown, -, -⟩, hd2⟩
    clear hcall
    obtain ⟨a, n, k, rfl, -⟩ := OwnR.shape hown
    have hT2 : RowsR ⟨w1.heap.size, w2.heap.size, false⟩ w2 (.slice a n k) t := stable_rows.sub (OwnR.rows hown) ⟨fun k hk => hk, fun h => by cases h⟩
    have R2 := R0.dr hd2 hwg
    have hs2 := hd2.size
    have hd3 := hd1.trans hd2
    clear hown R0 hd1 hd2
    obtain ⟨c, d, s, m, l⟩ := mk
    unfold sysV
    go_wp2_with fail
    have hSf := SysF.new w2 ⟨c, d, s, m, l⟩ (.slice a n k) 32
    have hd4 := hd3.alloc (.cells #[.int .i64 c, .int .i64 d, .int .i64 s, .int .i64 m, .int .i64 l, .slice a n k] 32)
    have hR4 := R2.ext (Ext.alloc w2 (.cells #[.int .i64 c, .int .i64 d, .int .i64 s, .int .i64 m, .int .i64 l, .slice a n k] 32))
    have hT4 := stable_rows.ext hT2 (Ext.alloc w2 (.cells #[.int .i64 c, .int .i64 d, .int .i64 s, .int .i64 m, .int .i64 l, .slice a n k] 32))
    have hs4 : (w2.alloc (.cells #[.int .i64 c, .int .i64 d, .int .i64 s, .int .i64 m, .int .i64 l, .slice a n k] 32)).heap.size = w2.heap.size + 1 := by simp
    simp only at hSf
    generalize w2.alloc (.cells #[.int .i64 c, .int .i64 d, .int .i64 s, .int .i64 m, .int .i64 l, .slice a n k] 32) = w4 at *
    obtain ⟨b, hb⟩ : ∃ b, w2.heap.size = b := ⟨_, rfl⟩
    rw [hb] at hSf hT4 hs4 ⊢
    have hbg : b ≠ g := by omega
    have hwb : w.heap.size < b := by omega
    have hwb2 := Nat.ne_of_lt hwb
    have hwb3 := Nat.ne_of_gt hwb
    have hgw : g < w1.heap.size := hgt
    clear hT2 R2 hd3 hs2 hb
    refine (l01Next_c w4 g hd4.src 2 (by unfold I64; omega)).mono ?_
    rintro e w5 ⟨_, rfl, ⟨x1, rfl, h10, h11⟩, hd5⟩
    have hcall := l01Next_c w5 g hd5.src 2 (by unfold I64; omega)
    replace hSf := hSf.dr hd5 hbg
    replace hR4 := hR4.dr hd5 hwg
    replace hT4 := stable_rows.dr hT4 hd5 (.inl hgw)
    replace hd4 := hd4.trans hd5
    clear hd5
    go_wp2_with fail
    refine Calls.mono hcall ?_
    rintro e w6 ⟨_, rfl, ⟨x2, rfl, h20, h21⟩, hd6⟩
    clear hcall
    replace hSf := hSf.dr hd6 hbg
    replace hR4 := hR4.dr hd6 hwg
    replace hT4 := stable_rows.dr hT4 hd6 (.inl hgw)
    replace hd4 := hd4.trans hd6
    have hs6 := hd4.size
    clear hd6
    have HP := Lib.hid (hSf.put5 (2 + x1) (2 + x2) 1 2 1)
    have HRp := Lib.hid (hR4.put5 (b := b) hwb2 (.int .i64 (2 + x1)) (.int .i64 (2 + x2)) (.int .i64 1) (.int .i64 2) (.int .i64 1))
    have HTp := Lib.hid (rows_put5 (b := b) hT4 (Nat.le_refl _) (.int .i64 (2 + x1)) (.int .i64 (2 + x2)) (.int .i64 1) (.int .i64 2) (.int .i64 1))
    have HDp := Lib.hid (dr_put5 (b := b) hd4 (Nat.le_of_lt hwb) (.int .i64 (2 + x1)) (.int .i64 (2 + x2)) (.int .i64 1) (.int .i64 2) (.int .i64 1))
    obtain ⟨⟨c0, c1, c2, c3, c4, c5⟩, hf⟩ := hSf
    have f0 := hf 0
    have f1 := hf 1
    have f2 := hf 2
    have f3 := hf 3
    have f4 := hf 4
    clear hf hR4 hT4 hd4
    go_wp2_with fail
    clear c0 c1 c2 c3 c4 c5 f0 f1 f2 f3 f4
    generalize (((((w6.setCell ⟨b, 0, none⟩ (.int .i64 (2 + x1))).setCell ⟨b, 1, none⟩ (.int .i64 (2 + x2))).setCell ⟨b, 2, none⟩ (.int .i64 1)).setCell ⟨b, 3, none⟩ (.int .i64 2)).setCell ⟨b, 4, none⟩ (.int .i64 1)) = w7 at *
    refine (l01Next_c w7 g HDp.out.src 3 (by unfold I64; omega)).mono ?_
    rintro e w8 ⟨_, rfl, ⟨x3, rfl, h30, h31⟩, hd8⟩
    have hSf := HP.out.dr hd8 hbg
    have hR8 := HRp.out.dr hd8 hwg
    have hT8 := stable_rows.dr HTp.out hd8 (.inl hgw)
    have hd9 := HDp.out.trans hd8
    have hs8 : b + 1 ≤ w8.heap.size := by
      have := hSf.1.lt
      omega
    have hfin : ∀ {W : World}, W.heap.size = w8.heap.size → RowsR ⟨w1.heap.size, b, false⟩ W (.slice a n k) t → RowsR ⟨w1.heap.size, W.heap.size, false⟩ W (.slice a n k) t := fun hs h => stable_rows.sub h ⟨fun k hk => ⟨hk.1, by have := hk.2; simp only at this ⊢; omega⟩, fun h => h⟩
    have HFin := Lib.hid (fun (W : World) => @hfin W)
    clear HP HRp HTp HDp hd8 hfin
    generalize 2 + x1 = y1 at *
    generalize 2 + x2 = y2 at *
    by_cases e3 : x3 = 0
    · subst e3
      have HP := Lib.hid (hSf.put3 1)
      have HRp := Lib.hid (hR8.putOther (p := ⟨b, 3, none⟩) (u := .int .i64 1) hwb2)
      have HTp := Lib.hid (rows_put1 (b := b) (i := 3) hT8 (Nat.le_refl _) (.int .i64 1))
      have HDp := Lib.hid (hd9.put (p := ⟨b, 3, none⟩) (Nat.le_of_lt hwb) (.int .i64 1))
      have hs9 : (w8.setCell ⟨b, 3, none⟩ (.int .i64 1)).heap.size = w8.heap.size := by simp [World.setCell]
      obtain ⟨⟨c0, c1, c2, c3, c4, c5⟩, hf⟩ := hSf
      have f3 := hf 3
      clear hf hR8 hT8 hd9
      go_upto_region 8 with fail
      clear c0 c1 c2 c3 c4 c5 f3
      generalize w8.setCell ⟨b, 3, none⟩ (.int .i64 1) = w9 at *
      obtain ⟨⟨c0, c1, c2, c3, c4, c5⟩, -⟩ := HP.out
      obtain ⟨r0, r1, r2, r3, r4, r5, g0, g1, g2, g3, g4, g5⟩ := HRp.out
      go_wp2_with fail
      refine bodyPost_ret (v := .agg #[.int .i64 y1, .int .i64 y2, .int .i64 1, .int .i64 1, .int .i64 1, .slice a n k]) (by simp [results, Tryz.results133, go_sem, r0, r1, r2, r3, r4, r5]) rfl ⟨_, rfl, ⟨⟨y1, y2, 1, 1, 1⟩, _, t, rfl, rows_put6 (HFin.out _ hs9 HTp.out) hlo _ _ _ _ _ _⟩, put6 HDp.out (Nat.le_refl _) _ _ _ _ _ _⟩
    · have HTp := Lib.hid (HFin.out _ rfl hT8)
      have HDp := Lib.hid hd9
      obtain ⟨⟨c0, c1, c2, c3, c4, c5⟩, -⟩ := hSf
      obtain ⟨r0, r1, r2, r3, r4, r5, g0, g1, g2, g3, g4, g5⟩ := hR8
      clear hT8 hd9
      go_wp2_with fail
      refine bodyPost_ret (v := .agg #[.int .i64 y1, .int .i64 y2, .int .i64 1, .int .i64 2, .int .i64 1, .slice a n k]) (by simp [results, Tryz.results133, go_sem, r0, r1, r2, r3, r4, r5]) rfl ⟨_, rfl, ⟨⟨y1, y2, 1, 2, 1⟩, _, t, rfl, rows_put6 HTp.out hlo _ _ _ _ _ _⟩, put6 HDp.out (Nat.le_refl _) _ _ _ _ _ _⟩

/-- a system and a limit -/
def SysLimD (w : World) (r : Value) (w' : World) : Prop := ∃ (mk : MK) (v : Value) (t : List (List Int)) (limit : Int), r = .tuple #[sysV mk v, .int .i64 limit] ∧ I64 limit ∧ RowsR ⟨w.heap.size, w'.heap.size, false⟩ w' v t

/-- a system and cuts -/
def SysCutsE (w : World) (r : Value) (w' : World) : Prop := ∃ (mk : MK) (v : Value) (t : List (List Int)) (u : Value) (cuts : List (List Int)), r = .tuple #[sysV mk v, u] ∧ RowsR ⟨w.heap.size, w'.heap.size, false⟩ w' v t ∧ RowsR ⟨w.heap.size, w'.heap.size, false⟩ w' u cuts
end Go.Proofs.YthgmojggpjnckaaGreat
