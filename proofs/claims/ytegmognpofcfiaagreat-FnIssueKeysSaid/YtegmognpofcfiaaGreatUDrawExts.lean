/- Proved: the draws of the laws on further keys: DrawChangedDoors, DrawExtendSystem, DrawIssueKeys, DrawEasiestKey. -/
import Derived.Test.YtegmognpofcfiaaGreatChecked
import Derived.Deep.RegionLaw
import Derived.Deep.RegionHeld3
import Derived.Deep.Cut
import Derived.Test.YtegmognpofcfiaaGreatUDrawExt
namespace Go.Proofs.YtegmognpofcfiaaGreat
open Go.ChangeShapes Go.WideShapes Go.ChangeAt Go.RowKit
set_option linter.unusedVariables false

def ExtD3 (w : World) (r : Value) (w' : World) : Prop := ∃ (mk : MK) (v : Value) (t : List (List Int)) (u : Value) (cuts : List (List Int)) (p : Value) (row : List Int), r = .tuple #[sysV mk v, u, p] ∧ RowsR ⟨w.heap.size, w'.heap.size, false⟩ w' v t ∧ RowsR ⟨w.heap.size, w'.heap.size, false⟩ w' u cuts ∧ IntsR ⟨w.heap.size, w'.heap.size, false⟩ w' p row
def ExtDN (w : World) (r : Value) (w' : World) : Prop := ∃ (mk : MK) (v : Value) (t : List (List Int)) (u : Value) (cuts : List (List Int)) (p : Value) (row : List Int) (y : Int), r = .tuple #[sysV mk v, u, p, .int .i64 y] ∧ I64 y ∧ RowsR ⟨w.heap.size, w'.heap.size, false⟩ w' v t ∧ RowsR ⟨w.heap.size, w'.heap.size, false⟩ w' u cuts ∧ IntsR ⟨w.heap.size, w'.heap.size, false⟩ w' p row

set_option maxRecDepth 20000 in
set_option maxHeartbeats 1000000 in
theorem DrawChangedDoors_c (w : World) (vb : Value) (zb : Zone) (xs : List Int) (h : BytesR zb w vb xs) : Calls Tryz.prog 22 #[vb] w (Ret w (ExtD w)) := by
  have R0 := res_new w 28
  have e0 : Ext w (w.alloc (.cells #[.int .i64 0, .int .i64 0, .int .i64 0, .int .i64 0, .int .i64 0, .slice none 0 0] 28)) := Ext.alloc _ _
  have hsz0 : (w.alloc (.cells #[.int .i64 0, .int .i64 0, .int .i64 0, .int .i64 0, .int .i64 0, .slice none 0 0] 28)).heap.size = w.heap.size + 1 := by simp
  have hcall := l01From_c _ vb zb xs (stable_bytes.ext h e0)
  obtain ⟨ab, nb, kb, rfl, -⟩ := BytesR.shape h
  clear h
  go_enter Tryz.func22, Tryz.ntmps22
  go_wp2_with fail
  generalize w.alloc (.cells #[.int .i64 0, .int .i64 0, .int .i64 0, .int .i64 0, .int .i64 0, .slice none 0 0] 28) = w0 at *
  refine Calls.mono hcall ?_
  rintro e w1 hr
  obtain ⟨_, rfl, ⟨g, hg, rfl, hsrc⟩, e1⟩ := ret_ext hr
  clear hr hcall
  have hwg : w.heap.size ≠ g := by omega
  have hwg' : w.heap.size ≤ g := by omega
  have R1 := R0.ext e1
  have HE1 := Lib.hid (e0.trans e1)
  have hs1 := e1.size
  have hw1 : w.heap.size < w1.heap.size := by omega
  have hg1 : g < w1.heap.size := hsrc.lt
  have hcall := l24Draw_c w1 g hsrc
  clear R0 e0 e1 hsz0 hs1 hg hsrc
  go_wp2_with fail
  refine Calls.mono hcall ?_
  rintro e w2 ⟨_, rfl, ⟨mk, v, t, u, cuts, p, row, q, key, rfl, ht, hc, hp, hq⟩, hd2⟩
  clear hcall
  obtain ⟨a, n, k, rfl, -⟩ := SliceR.shape ht
  obtain ⟨a2, n2, k2, rfl, -⟩ := SliceR.shape hc
  obtain ⟨a3, n3, k3, rfl, -⟩ := SliceR.shape hp
  obtain ⟨a4, n4, k4, rfl, -⟩ := SliceR.shape hq
  unfold sysV
  have HX : Hid (RowsR ⟨w1.heap.size, w2.heap.size, false⟩ w2 (.slice a n k) t ∧ RowsR ⟨w1.heap.size, w2.heap.size, false⟩ w2 (.slice a2 n2 k2) cuts ∧ IntsR ⟨w1.heap.size, w2.heap.size, false⟩ w2 (.slice a3 n3 k3) row ∧ IntsR ⟨w1.heap.size, w2.heap.size, false⟩ w2 (.slice a4 n4 k4) key) := ⟨ht, hc, hp, hq⟩
  have HD := Lib.hid hd2
  obtain ⟨r0, r1, r2, r3, r4, r5, f0, f1, f2, f3, f4, f5⟩ := R1.dr hd2 hwg
  clear ht hc hp hq hd2 R1
  go_wp2_with fail
  refine bodyPost_ret (v := .tuple #[.agg #[.int .i64 mk.c, .int .i64 mk.d, .int .i64 mk.s, .int .i64 mk.m, .int .i64 mk.l, .slice a n k], .slice a2 n2 k2, .slice a3 n3 k3, .slice a4 n4 k4]) (by simp [results, Tryz.results22, go_sem, r0, r1, r2, r3, r4, r5]) rfl ⟨_, rfl, ⟨mk, _, t, _, cuts, _, row, _, key, rfl, rows_put6 HX.out.1 hw1 _ _ _ _ _ _, rows_put6 HX.out.2.1 hw1 _ _ _ _ _ _, ints_put6 HX.out.2.2.1 hw1 _ _ _ _ _ _, ints_put6 HX.out.2.2.2 hw1 _ _ _ _ _ _⟩, ext_put6 (Below.trans HE1.out (HD.out.back hwg')) (Nat.le_refl _) _ _ _ _ _ _⟩

set_option maxRecDepth 20000 in
set_option maxHeartbeats 1000000 in
theorem DrawExtendSystem_c (w : World) (vb : Value) (zb : Zone) (xs : List Int) (h : BytesR zb w vb xs) : Calls Tryz.prog 39 #[vb] w (Ret w (ExtD w)) := by
  have R0 := res_new w 28
  have e0 : Ext w (w.alloc (.cells #[.int .i64 0, .int .i64 0, .int .i64 0, .int .i64 0, .int .i64 0, .slice none 0 0] 28)) := Ext.alloc _ _
  have hsz0 : (w.alloc (.cells #[.int .i64 0, .int .i64 0, .int .i64 0, .int .i64 0, .int .i64 0, .slice none 0 0] 28)).heap.size = w.heap.size + 1 := by simp
  have hcall := l01From_c _ vb zb xs (stable_bytes.ext h e0)
  obtain ⟨ab, nb, kb, rfl, -⟩ := BytesR.shape h
  clear h
  go_enter Tryz.func39, Tryz.ntmps39
  go_wp2_with fail
  generalize w.alloc (.cells #[.int .i64 0, .int .i64 0, .int .i64 0, .int .i64 0, .int .i64 0, .slice none 0 0] 28) = w0 at *
  refine Calls.mono hcall ?_
  rintro e w1 hr
  obtain ⟨_, rfl, ⟨g, hg, rfl, hsrc⟩, e1⟩ := ret_ext hr
  clear hr hcall
  have hwg : w.heap.size ≠ g := by omega
  have hwg' : w.heap.size ≤ g := by omega
  have R1 := R0.ext e1
  have HE1 := Lib.hid (e0.trans e1)
  have hs1 := e1.size
  have hw1 : w.heap.size < w1.heap.size := by omega
  have hg1 : g < w1.heap.size := hsrc.lt
  have hcall := l24Draw_c w1 g hsrc
  clear R0 e0 e1 hsz0 hs1 hg hsrc
  go_wp2_with fail
  refine Calls.mono hcall ?_
  rintro e w2 ⟨_, rfl, ⟨mk, v, t, u, cuts, p, row, q, key, rfl, ht, hc, hp, hq⟩, hd2⟩
  clear hcall
  obtain ⟨a, n, k, rfl, -⟩ := SliceR.shape ht
  obtain ⟨a2, n2, k2, rfl, -⟩ := SliceR.shape hc
  obtain ⟨a3, n3, k3, rfl, -⟩ := SliceR.shape hp
  obtain ⟨a4, n4, k4, rfl, -⟩ := SliceR.shape hq
  unfold sysV
  have HX : Hid (RowsR ⟨w1.heap.size, w2.heap.size, false⟩ w2 (.slice a n k) t ∧ RowsR ⟨w1.heap.size, w2.heap.size, false⟩ w2 (.slice a2 n2 k2) cuts ∧ IntsR ⟨w1.heap.size, w2.heap.size, false⟩ w2 (.slice a3 n3 k3) row ∧ IntsR ⟨w1.heap.size, w2.heap.size, false⟩ w2 (.slice a4 n4 k4) key) := ⟨ht, hc, hp, hq⟩
  have HD := Lib.hid hd2
  obtain ⟨r0, r1, r2, r3, r4, r5, f0, f1, f2, f3, f4, f5⟩ := R1.dr hd2 hwg
  clear ht hc hp hq hd2 R1
  go_wp2_with fail
  refine bodyPost_ret (v := .tuple #[.agg #[.int .i64 mk.c, .int .i64 mk.d, .int .i64 mk.s, .int .i64 mk.m, .int .i64 mk.l, .slice a n k], .slice a2 n2 k2, .slice a3 n3 k3, .slice a4 n4 k4]) (by simp [results, Tryz.results39, go_sem, r0, r1, r2, r3, r4, r5]) rfl ⟨_, rfl, ⟨mk, _, t, _, cuts, _, row, _, key, rfl, rows_put6 HX.out.1 hw1 _ _ _ _ _ _, rows_put6 HX.out.2.1 hw1 _ _ _ _ _ _, ints_put6 HX.out.2.2.1 hw1 _ _ _ _ _ _, ints_put6 HX.out.2.2.2 hw1 _ _ _ _ _ _⟩, ext_put6 (Below.trans HE1.out (HD.out.back hwg')) (Nat.le_refl _) _ _ _ _ _ _⟩

set_option maxRecDepth 20000 in
set_option maxHeartbeats 1000000 in
theorem DrawEasiestKey_c (w : World) (vb : Value) (zb : Zone) (xs : List Int) (h : BytesR zb w vb xs) : Calls Tryz.prog 47 #[vb] w (Ret w (ExtD3 w)) := by
  have R0 := res_new w 28
  have e0 : Ext w (w.alloc (.cells #[.int .i64 0, .int .i64 0, .int .i64 0, .int .i64 0, .int .i64 0, .slice none 0 0] 28)) := Ext.alloc _ _
  have hsz0 : (w.alloc (.cells #[.int .i64 0, .int .i64 0, .int .i64 0, .int .i64 0, .int .i64 0, .slice none 0 0] 28)).heap.size = w.heap.size + 1 := by simp
  have hcall := l01From_c _ vb zb xs (stable_bytes.ext h e0)
  obtain ⟨ab, nb, kb, rfl, -⟩ := BytesR.shape h
  clear h
  go_enter Tryz.func47, Tryz.ntmps47
  go_wp2_with fail
  generalize w.alloc (.cells #[.int .i64 0, .int .i64 0, .int .i64 0, .int .i64 0, .int .i64 0, .slice none 0 0] 28) = w0 at *
  refine Calls.mono hcall ?_
  rintro e w1 hr
  obtain ⟨_, rfl, ⟨g, hg, rfl, hsrc⟩, e1⟩ := ret_ext hr
  clear hr hcall
  have hwg : w.heap.size ≠ g := by omega
  have hwg' : w.heap.size ≤ g := by omega
  have R1 := R0.ext e1
  have HE1 := Lib.hid (e0.trans e1)
  have hs1 := e1.size
  have hw1 : w.heap.size < w1.heap.size := by omega
  have hg1 : g < w1.heap.size := hsrc.lt
  have hcall := l24Draw_c w1 g hsrc
  clear R0 e0 e1 hsz0 hs1 hg hsrc
  go_wp2_with fail
  refine Calls.mono hcall ?_
  rintro e w2 ⟨_, rfl, ⟨mk, v, t, u, cuts, p, row, q, key, rfl, ht, hc, hp, hq⟩, hd2⟩
  clear hcall
  obtain ⟨a, n, k, rfl, -⟩ := SliceR.shape ht
  obtain ⟨a2, n2, k2, rfl, -⟩ := SliceR.shape hc
  obtain ⟨a3, n3, k3, rfl, -⟩ := SliceR.shape hp
  obtain ⟨a4, n4, k4, rfl, -⟩ := SliceR.shape hq
  unfold sysV
  go_upto_region 2 with fail
  generalize hwb : World.alloc w2 _ = wb
  obtain ⟨eb, Sb⟩ := sys_box hwb
  have hdb : Dr g w1 wb := by rw [← hwb]; exact hd2.alloc _
  clear hwb
  obtain ⟨b, hb⟩ : ∃ b, w2.heap.size = b := ⟨_, rfl⟩
  have hs2 := hd2.size
  rw [hb] at Sb ⊢
  have hbg : b ≠ g := by omega
  have hwb' : w.heap.size ≠ b := by omega
  have hwb'' : b ≠ w.heap.size := by omega
  have hz : ∀ {v t}, RowsR ⟨w1.heap.size, w2.heap.size, false⟩ w2 v t → RowsR ⟨w1.heap.size, wb.heap.size, false⟩ wb v t := fun h => stable_rows.sub (stable_rows.ext h eb) ⟨fun k hk => ⟨hk.1, Nat.lt_of_lt_of_le hk.2 eb.size⟩, fun h => h⟩
  have hy : ∀ {v t}, IntsR ⟨w1.heap.size, w2.heap.size, false⟩ w2 v t → IntsR ⟨w1.heap.size, wb.heap.size, false⟩ wb v t := fun h => stable_ints.sub (stable_ints.ext h eb) ⟨fun k hk => ⟨hk.1, Nat.lt_of_lt_of_le hk.2 eb.size⟩, fun h => h⟩
  have HX : Hid (RowsR ⟨w1.heap.size, wb.heap.size, false⟩ wb (.slice a n k) t ∧ RowsR ⟨w1.heap.size, wb.heap.size, false⟩ wb (.slice a2 n2 k2) cuts ∧ IntsR ⟨w1.heap.size, wb.heap.size, false⟩ wb (.slice a3 n3 k3) row) := ⟨hz ht, hz hc, hy hp⟩
  have HD := Lib.hid hdb
  have HS := Lib.hid Sb
  have R2 := (R1.dr hd2 hwg).ext eb
  have HR := Lib.hid R2
  obtain ⟨r0, r1, r2, r3, r4, r5, f0, f1, f2, f3, f4, f5⟩ := R2
  obtain ⟨c0, c1, c2, c3, c4, c5⟩ := Sb
  clear hz hy ht hc hp hq hd2 hdb R1 eb hs2 hb
  go_wp2_with fail
  refine bodyPost_ret (v := .tuple #[.agg #[.int .i64 mk.c, .int .i64 mk.d, .int .i64 mk.s, .int .i64 mk.m, .int .i64 mk.l, .slice a n k], .slice a2 n2 k2, .slice a3 n3 k3]) (by simp [results, Tryz.results47, go_sem, r0, r1, r2, r3, r4, r5]) rfl ⟨_, rfl, ⟨mk, _, t, _, cuts, _, row, rfl, rows_put6 HX.out.1 hw1 _ _ _ _ _ _, rows_put6 HX.out.2.1 hw1 _ _ _ _ _ _, ints_put6 HX.out.2.2 hw1 _ _ _ _ _ _⟩, ext_put6 (Below.trans HE1.out (HD.out.back hwg')) (Nat.le_refl _) _ _ _ _ _ _⟩

set_option maxRecDepth 20000 in
set_option maxHeartbeats 1000000 in
theorem DrawIssueKeys_c (w : World) (vb : Value) (zb : Zone) (xs : List Int) (h : BytesR zb w vb xs) : Calls Tryz.prog 44 #[vb] w (Ret w (ExtDN w)) := by
  have R0 := res_new w 28
  have e0 : Ext w (w.alloc (.cells #[.int .i64 0, .int .i64 0, .int .i64 0, .int .i64 0, .int .i64 0, .slice none 0 0] 28)) := Ext.alloc _ _
  have hsz0 : (w.alloc (.cells #[.int .i64 0, .int .i64 0, .int .i64 0, .int .i64 0, .int .i64 0, .slice none 0 0] 28)).heap.size = w.heap.size + 1 := by simp
  have hcall := l01From_c _ vb zb xs (stable_bytes.ext h e0)
  obtain ⟨ab, nb, kb, rfl, -⟩ := BytesR.shape h
  clear h
  go_enter Tryz.func44, Tryz.ntmps44
  go_wp2_with fail
  generalize w.alloc (.cells #[.int .i64 0, .int .i64 0, .int .i64 0, .int .i64 0, .int .i64 0, .slice none 0 0] 28) = w0 at *
  refine Calls.mono hcall ?_
  rintro e w1 hr
  obtain ⟨_, rfl, ⟨g, hg, rfl, hsrc⟩, e1⟩ := ret_ext hr
  clear hr hcall
  have hwg : w.heap.size ≠ g := by omega
  have hwg' : w.heap.size ≤ g := by omega
  have R1 := R0.ext e1
  have HE1 := Lib.hid (e0.trans e1)
  have hs1 := e1.size
  have hw1 : w.heap.size < w1.heap.size := by omega
  have hg1 : g < w1.heap.size := hsrc.lt
  have hcall := l24Draw_c w1 g hsrc
  clear R0 e0 e1 hsz0 hs1 hg hsrc
  go_wp2_with fail
  refine Calls.mono hcall ?_
  rintro e w2 ⟨_, rfl, ⟨mk, v, t, u, cuts, p, row, q, key, rfl, ht, hc, hp, hq⟩, hd2⟩
  clear hcall
  obtain ⟨a, n, k, rfl, -⟩ := SliceR.shape ht
  obtain ⟨a2, n2, k2, rfl, -⟩ := SliceR.shape hc
  obtain ⟨a3, n3, k3, rfl, -⟩ := SliceR.shape hp
  obtain ⟨a4, n4, k4, rfl, -⟩ := SliceR.shape hq
  unfold sysV
  go_wp2_with fail
  generalize hwb : World.alloc w2 _ = wb
  obtain ⟨eb, Sb⟩ := sys_box hwb
  have hdb : Dr g w1 wb := by rw [← hwb]; exact hd2.alloc _
  clear hwb
  obtain ⟨b, hb⟩ : ∃ b, w2.heap.size = b := ⟨_, rfl⟩
  have hs2 := hd2.size
  rw [hb] at Sb ⊢
  have hbg : b ≠ g := by omega
  have hwb' : w.heap.size ≠ b := by omega
  have hwb'' : b ≠ w.heap.size := by omega
  have hz : ∀ {v t}, RowsR ⟨w1.heap.size, w2.heap.size, false⟩ w2 v t → RowsR ⟨w1.heap.size, wb.heap.size, false⟩ wb v t := fun h => stable_rows.sub (stable_rows.ext h eb) ⟨fun k hk => ⟨hk.1, Nat.lt_of_lt_of_le hk.2 eb.size⟩, fun h => h⟩
  have hy : ∀ {v t}, IntsR ⟨w1.heap.size, w2.heap.size, false⟩ w2 v t → IntsR ⟨w1.heap.size, wb.heap.size, false⟩ wb v t := fun h => stable_ints.sub (stable_ints.ext h eb) ⟨fun k hk => ⟨hk.1, Nat.lt_of_lt_of_le hk.2 eb.size⟩, fun h => h⟩
  have HX : Hid (RowsR ⟨w1.heap.size, wb.heap.size, false⟩ wb (.slice a n k) t ∧ RowsR ⟨w1.heap.size, wb.heap.size, false⟩ wb (.slice a2 n2 k2) cuts ∧ IntsR ⟨w1.heap.size, wb.heap.size, false⟩ wb (.slice a3 n3 k3) row) := ⟨hz ht, hz hc, hy hp⟩
  have HD := Lib.hid hdb
  have HS := Lib.hid Sb
  have R2 := (R1.dr hd2 hwg).ext eb
  have HR := Lib.hid R2
  have hr0 : Dr g wb wb := Dr.refl hdb.src
  have HCe : Hid (∀ w', Dr g wb w' → w'.cell? ⟨b, 0, none⟩ = some (.int .i64 mk.c) ∧ w'.cell? ⟨b, 1, none⟩ = some (.int .i64 mk.d) ∧ w'.cell? ⟨b, 2, none⟩ = some (.int .i64 mk.s) ∧ w'.cell? ⟨b, 3, none⟩ = some (.int .i64 mk.m) ∧ w'.cell? ⟨b, 4, none⟩ = some (.int .i64 mk.l) ∧ w'.cell? ⟨b, 5, none⟩ = some (.slice a n k)) := fun w' hd => by
    have q := HS.out.dr hd hbg
    exact ⟨q.c0, q.c1, q.c2, q.c3, q.c4, q.c5⟩
  have HCp : Hid (∀ w' u0 u1 u2 u3 u4 u5, Dr g wb w' → ((((((w'.setCell ⟨w.heap.size, 0, none⟩ u0).setCell ⟨w.heap.size, 1, none⟩ u1).setCell ⟨w.heap.size, 2, none⟩ u2).setCell ⟨w.heap.size, 3, none⟩ u3).setCell ⟨w.heap.size, 4, none⟩ u4).setCell ⟨w.heap.size, 5, none⟩ u5).cell? ⟨b, 0, none⟩ = some (.int .i64 mk.c) ∧ ((((((w'.setCell ⟨w.heap.size, 0, none⟩ u0).setCell ⟨w.heap.size, 1, none⟩ u1).setCell ⟨w.heap.size, 2, none⟩ u2).setCell ⟨w.heap.size, 3, none⟩ u3).setCell ⟨w.heap.size, 4, none⟩ u4).setCell ⟨w.heap.size, 5, none⟩ u5).cell? ⟨b, 1, none⟩ = some (.int .i64 mk.d) ∧ ((((((w'.setCell ⟨w.heap.size, 0, none⟩ u0).setCell ⟨w.heap.size, 1, none⟩ u1).setCell ⟨w.heap.size, 2, none⟩ u2).setCell ⟨w.heap.size, 3, none⟩ u3).setCell ⟨w.heap.size, 4, none⟩ u4).setCell ⟨w.heap.size, 5, none⟩ u5).cell? ⟨b, 2, none⟩ = some (.int .i64 mk.s) ∧ ((((((w'.setCell ⟨w.heap.size, 0, none⟩ u0).setCell ⟨w.heap.size, 1, none⟩ u1).setCell ⟨w.heap.size, 2, none⟩ u2).setCell ⟨w.heap.size, 3, none⟩ u3).setCell ⟨w.heap.size, 4, none⟩ u4).setCell ⟨w.heap.size, 5, none⟩ u5).cell? ⟨b, 3, none⟩ = some (.int .i64 mk.m) ∧ ((((((w'.setCell ⟨w.heap.size, 0, none⟩ u0).setCell ⟨w.heap.size, 1, none⟩ u1).setCell ⟨w.heap.size, 2, none⟩ u2).setCell ⟨w.heap.size, 3, none⟩ u3).setCell ⟨w.heap.size, 4, none⟩ u4).setCell ⟨w.heap.size, 5, none⟩ u5).cell? ⟨b, 4, none⟩ = some (.int .i64 mk.l) ∧ ((((((w'.setCell ⟨w.heap.size, 0, none⟩ u0).setCell ⟨w.heap.size, 1, none⟩ u1).setCell ⟨w.heap.size, 2, none⟩ u2).setCell ⟨w.heap.size, 3, none⟩ u3).setCell ⟨w.heap.size, 4, none⟩ u4).setCell ⟨w.heap.size, 5, none⟩ u5).cell? ⟨b, 5, none⟩ = some (.slice a n k)) := fun w' u0 u1 u2 u3 u4 u5 hd => by
    have e := put6_other (w := w') hwb'' u0 u1 u2 u3 u4 u5
    obtain ⟨p0, p1, p2, p3, p4, p5⟩ := HCe.out w' hd
    exact ⟨(World.cell?_of_block (a := ⟨b, 0, none⟩) e).trans p0, (World.cell?_of_block (a := ⟨b, 1, none⟩) e).trans p1, (World.cell?_of_block (a := ⟨b, 2, none⟩) e).trans p2, (World.cell?_of_block (a := ⟨b, 3, none⟩) e).trans p3, (World.cell?_of_block (a := ⟨b, 4, none⟩) e).trans p4, (World.cell?_of_block (a := ⟨b, 5, none⟩) e).trans p5⟩
  have hgb : g < wb.heap.size := hdb.src.lt
  have HPick : Hid (∀ w', Drew (wb.alloc (.cells #[.int .i64 0, .int .i64 1, .int .i64 3, .int .i64 20, .int .i64 300, .int .i64 301, .int .i64 (-1)] 2)) w' → Calls Tryz.prog 92 #[.pointer (some ⟨g, 0, none⟩), .slice (some ⟨wb.heap.size, 0, none⟩) 7 7] w' (DrawR g w' fun r _ => ∃ y, r = .int .i64 y ∧ y ∈ ([0, 1, 3, 20, 300, 301, -1] : List Int))) := fun w' hdq => by
    have hlit : IntsR ⟨wb.heap.size, wb.heap.size + 1, true⟩ (wb.alloc (.cells #[.int .i64 0, .int .i64 1, .int .i64 3, .int .i64 20, .int .i64 300, .int .i64 301, .int .i64 (-1)] 2)) (.slice (some ⟨wb.heap.size, 0, none⟩) 7 7) [0, 1, 3, 20, 300, 301, -1] := by
      have := OwnP.ints (OwnP.lit (f := Value.int .i64) (e := 2) (B := wb.heap.size) (w := wb) (Nat.le_refl _) [0, 1, 3, 20, 300, 301, -1] #[.int .i64 0, .int .i64 1, .int .i64 3, .int .i64 20, .int .i64 300, .int .i64 301, .int .i64 (-1)] rfl (by simp [maxLen])) (by simp [I64]) (Nat.le_refl _)
      rw [World.size_alloc] at this
      exact this
    have hsr : Src g w' := by obtain ⟨m, rfl⟩ := hdq; exact (hr0.src.alloc _).drewN m
    refine (l01Pick_c w' g hsr _ _ _ (stable_ints.ext hlit (Ext.ofDrew hdq)) (.inl (by show g < wb.heap.size; exact hgb)) (by simp)).mono ?_
    rintro e w'' ⟨v, rfl, ⟨y, hy, rfl⟩, hd⟩
    exact ⟨_, rfl, ⟨y, rfl, hy⟩, hd⟩
  clear hz hy ht hc hp hq hd2 hdb R1 R2 Sb eb hs2 hb
  go_wp2_with fail
  first | (go_region_held3 (fun w' => w'.cell? ⟨b, 0, none⟩ = some (.int .i64 mk.c) ∧ w'.cell? ⟨b, 1, none⟩ = some (.int .i64 mk.d) ∧ w'.cell? ⟨b, 2, none⟩ = some (.int .i64 mk.s) ∧ w'.cell? ⟨b, 3, none⟩ = some (.int .i64 mk.m) ∧ w'.cell? ⟨b, 4, none⟩ = some (.int .i64 mk.l) ∧ w'.cell? ⟨b, 5, none⟩ = some (.slice a n k)) (first | with_reducible exact HCp.out _ _ _ _ _ _ _ hd77 | exact HCe.out _ (by (repeat (first | assumption | (refine Dr.drew ?_) | (refine Dr.alloc ?_ _) | (refine Dr.trans ?_ (by assumption)))); done) | fail) (first | (go_at_call 92; (with_reducible refine (HPick.out _ ?_).mono ?_); (first | exact ⟨0, rfl⟩ | exact ⟨1, rfl⟩ | exact ⟨2, rfl⟩); rintro e w7 ⟨_, rfl, ⟨y7, rfl, hy7⟩, hd7⟩; have hd77 : Dr g wb w7 := (by (repeat (first | assumption | (refine Dr.drew ?_) | (refine Dr.alloc ?_ _) | (refine Dr.trans ?_ (by assumption)))); done); obtain ⟨r0, r1, r2, r3, r4, r5, f0, f1, f2, f3, f4, f5⟩ := HR.out.dr hd77 hwg) | fail)) | fail
  have hyy : I64 y7 := by simp only [List.mem_cons, List.not_mem_nil, or_false] at hy7; unfold I64; omega
  have HY := Lib.hid hyy
  have HD7 := Lib.hid hd77
  clear hyy hy7 hd7 hd77
  have HX7 : Hid (RowsR ⟨w1.heap.size, w7.heap.size, false⟩ w7 (.slice a n k) t ∧ RowsR ⟨w1.heap.size, w7.heap.size, false⟩ w7 (.slice a2 n2 k2) cuts ∧ IntsR ⟨w1.heap.size, w7.heap.size, false⟩ w7 (.slice a3 n3 k3) row) :=
    ⟨stable_rows.sub (stable_rows.dr HX.out.1 HD7.out (.inl hg1)) ⟨fun k hk => ⟨hk.1, Nat.lt_of_lt_of_le hk.2 HD7.out.size⟩, fun h => h⟩, stable_rows.sub (stable_rows.dr HX.out.2.1 HD7.out (.inl hg1)) ⟨fun k hk => ⟨hk.1, Nat.lt_of_lt_of_le hk.2 HD7.out.size⟩, fun h => h⟩, stable_ints.sub (stable_ints.dr HX.out.2.2 HD7.out (.inl hg1)) ⟨fun k hk => ⟨hk.1, Nat.lt_of_lt_of_le hk.2 HD7.out.size⟩, fun h => h⟩⟩
  go_wp2_with fail
  refine bodyPost_ret (v := .tuple #[.agg #[.int .i64 mk.c, .int .i64 mk.d, .int .i64 mk.s, .int .i64 mk.m, .int .i64 mk.l, .slice a n k], .slice a2 n2 k2, .slice a3 n3 k3, .int .i64 y7]) (by simp [results, Tryz.results44, go_sem, r0, r1, r2, r3, r4, r5]) rfl ⟨_, rfl, ⟨mk, _, t, _, cuts, _, row, y7, rfl, HY.out, rows_put6 HX7.out.1 hw1 _ _ _ _ _ _, rows_put6 HX7.out.2.1 hw1 _ _ _ _ _ _, ints_put6 HX7.out.2.2 hw1 _ _ _ _ _ _⟩, ext_put6 (Below.trans HE1.out ((HD.out.trans HD7.out).back hwg')) (Nat.le_refl _) _ _ _ _ _ _⟩
end Go.Proofs.YtegmognpofcfiaaGreat
