/- Proved: the draw of the law on retired rows. -/
import Derived.Test.YthgmojggpjnckaaGreatChecked
import Derived.Deep.RegionLaw
import Derived.Deep.RegionHeld3
import Derived.Deep.Cut
import Derived.Test.YthgmojggpjnckaaGreatUDrawRet
import Derived.Test.YthgmojggpjnckaaGreatUDrawSearch
namespace Go.Proofs.YthgmojggpjnckaaGreat
open Go.ChangeShapes Go.WideShapes Go.ChangeAt Go.RowKit
set_option linter.unusedVariables false

/-- a system, cuts and a row's number -/
def SysCutsKeyD (w : World) (r : Value) (w' : World) : Prop := ∃ (mk : MK) (v : Value) (t : List (List Int)) (u : Value) (cuts : List (List Int)) (key : Int), r = .tuple #[sysV mk v, u, .int .i64 key] ∧ I64 key ∧ RowsR ⟨w.heap.size, w'.heap.size, false⟩ w' v t ∧ RowsR ⟨w.heap.size, w'.heap.size, false⟩ w' u cuts

set_option maxRecDepth 20000 in
set_option maxHeartbeats 2000000 in
theorem DrawRetireKey_c (w : World) (vb : Value) (zb : Zone) (xs : List Int) (h : BytesR zb w vb xs) : Calls Tryz.prog 18 #[vb] w (Ret w (SysCutsKeyD w)) := by
  have R0 := res_new w 32
  have e0 : Ext w (w.alloc (.cells #[.int .i64 0, .int .i64 0, .int .i64 0, .int .i64 0, .int .i64 0, .slice none 0 0] 32)) := Ext.alloc _ _
  have hsz0 : (w.alloc (.cells #[.int .i64 0, .int .i64 0, .int .i64 0, .int .i64 0, .int .i64 0, .slice none 0 0] 32)).heap.size = w.heap.size + 1 := by simp
  have hcall := l01From_c _ vb zb xs (stable_bytes.ext h e0)
  obtain ⟨ab, nb, kb, rfl, -⟩ := BytesR.shape h
  clear h
  go_enter Tryz.func18, Tryz.ntmps18
  go_wp2_with fail
  generalize w.alloc (.cells #[.int .i64 0, .int .i64 0, .int .i64 0, .int .i64 0, .int .i64 0, .slice none 0 0] 32) = w0 at *
  refine Calls.mono hcall ?_
  rintro e w1 hr
  obtain ⟨_, rfl, ⟨g, hg, rfl, hsrc⟩, e1⟩ := ret_ext hr
  clear hr hcall
  have hwg : w.heap.size ≠ g := by omega
  have hwg' : w.heap.size ≤ g := by omega
  have R1 := R0.ext e1
  have HE1 := Lib.hid (e0.trans e1)
  have hs1 := e1.size
  have hw1 : w.heap.size < w1.heap.size := by omega
  have hg1 : g < w1.heap.size := hsrc.lt
  have hcall := l21Draw_c w1 g hsrc
  clear R0 e0 e1 hsz0 hs1 hg hsrc
  go_wp2_with fail
  refine Calls.mono hcall ?_
  rintro e w2 ⟨_, rfl, ⟨mk, v, t, u, cuts, rfl, q1, ht, q2, q3, hc, q4⟩, hd2⟩
  clear hcall
  obtain ⟨a, n, k, rfl, hnt, -⟩ := SliceR.shape ht
  have hn14 : n ≤ 14 := by omega
  clear q1 q2 q3 q4 hnt
  obtain ⟨a2, n2, k2, rfl, -⟩ := SliceR.shape hc
  have R2 := R1.dr hd2 hwg
  unfold sysV
  go_wp2_with fail
  generalize hwb : World.alloc w2 _ = wb
  obtain ⟨eb, Sb⟩ := sys_box hwb
  have hdb : Dr g w1 wb := by rw [← hwb]; exact hd2.alloc _
  have hsb : wb.heap.size = w2.heap.size + 1 := by rw [← hwb]; simp
  have HX : Hid (RowsR ⟨w1.heap.size, wb.heap.size, false⟩ wb (.slice a n k) t ∧ RowsR ⟨w1.heap.size, wb.heap.size, false⟩ wb (.slice a2 n2 k2) cuts) := by rw [← hwb]; exact ⟨rows_alloc ht, rows_alloc hc⟩
  clear hwb
  obtain ⟨b, hb⟩ : ∃ b, w2.heap.size = b := ⟨_, rfl⟩
  have hs2 := hd2.size
  rw [hb] at Sb ⊢
  have hbg : b ≠ g := by omega
  have hwb' : w.heap.size ≠ b := by omega
  have hwb'' : b ≠ w.heap.size := by omega
  have HD := Lib.hid hdb
  have HS := Lib.hid Sb
  have R2 := R2.ext eb
  have HR := Lib.hid R2
  have hr0 : Dr g wb wb := Dr.refl hdb.src
  have HCe : Hid (∀ w', Dr g wb w' → w'.cell? ⟨b, 0, none⟩ = some (.int .i64 mk.c) ∧ w'.cell? ⟨b, 1, none⟩ = some (.int .i64 mk.d) ∧ w'.cell? ⟨b, 2, none⟩ = some (.int .i64 mk.s) ∧ w'.cell? ⟨b, 3, none⟩ = some (.int .i64 mk.m) ∧ w'.cell? ⟨b, 4, none⟩ = some (.int .i64 mk.l) ∧ w'.cell? ⟨b, 5, none⟩ = some (.slice a n k)) := fun w' hd => by
    have q := HS.out.dr hd hbg
    exact ⟨q.c0, q.c1, q.c2, q.c3, q.c4, q.c5⟩
  have HCp : Hid (∀ w' u0 u1 u2 u3 u4 u5, Dr g wb w' → ((((((w'.setCell ⟨w.heap.size, 0, none⟩ u0).setCell ⟨w.heap.size, 1, none⟩ u1).setCell ⟨w.heap.size, 2, none⟩ u2).setCell ⟨w.heap.size, 3, none⟩ u3).setCell ⟨w.heap.size, 4, none⟩ u4).setCell ⟨w.heap.size, 5, none⟩ u5).cell? ⟨b, 0, none⟩ = some (.int .i64 mk.c) ∧ ((((((w'.setCell ⟨w.heap.size, 0, none⟩ u0).setCell ⟨w.heap.size, 1, none⟩ u1).setCell ⟨w.heap.size, 2, none⟩ u2).setCell ⟨w.heap.size, 3, none⟩ u3).setCell ⟨w.heap.size, 4, none⟩ u4).setCell ⟨w.heap.size, 5, none⟩ u5).cell? ⟨b, 1, none⟩ = some (.int .i64 mk.d) ∧ ((((((w'.setCell ⟨w.heap.size, 0, none⟩ u0).setCell ⟨w.heap.size, 1, none⟩ u1).setCell ⟨w.heap.size, 2, none⟩ u2).setCell ⟨w.heap.size, 3, none⟩ u3).setCell ⟨w.heap.size, 4, none⟩ u4).setCell ⟨w.heap.size, 5, none⟩ u5).cell? ⟨b, 2, none⟩ = some (.int .i64 mk.s) ∧ ((((((w'.setCell ⟨w.heap.size, 0, none⟩ u0).setCell ⟨w.heap.size, 1, none⟩ u1).setCell ⟨w.heap.size, 2, none⟩ u2).setCell ⟨w.heap.size, 3, none⟩ u3).setCell ⟨w.heap.size, 4, none⟩ u4).setCell ⟨w.heap.size, 5, none⟩ u5).cell? ⟨b, 3, none⟩ = some (.int .i64 mk.m) ∧ ((((((w'.setCell ⟨w.heap.size, 0, none⟩ u0).setCell ⟨w.heap.size, 1, none⟩ u1).setCell ⟨w.heap.size, 2, none⟩ u2).setCell ⟨w.heap.size, 3, none⟩ u3).setCell ⟨w.heap.size, 4, none⟩ u4).setCell ⟨w.heap.size, 5, none⟩ u5).cell? ⟨b, 4, none⟩ = some (.int .i64 mk.l) ∧ ((((((w'.setCell ⟨w.heap.size, 0, none⟩ u0).setCell ⟨w.heap.size, 1, none⟩ u1).setCell ⟨w.heap.size, 2, none⟩ u2).setCell ⟨w.heap.size, 3, none⟩ u3).setCell ⟨w.heap.size, 4, none⟩ u4).setCell ⟨w.heap.size, 5, none⟩ u5).cell? ⟨b, 5, none⟩ = some (.slice a n k)) := fun w' u0 u1 u2 u3 u4 u5 hd => by
    have e := put6_other (w := w') hwb'' u0 u1 u2 u3 u4 u5
    obtain ⟨p0, p1, p2, p3, p4, p5⟩ := HCe.out w' hd
    exact ⟨(World.cell?_of_block (a := ⟨b, 0, none⟩) e).trans p0, (World.cell?_of_block (a := ⟨b, 1, none⟩) e).trans p1, (World.cell?_of_block (a := ⟨b, 2, none⟩) e).trans p2, (World.cell?_of_block (a := ⟨b, 3, none⟩) e).trans p3, (World.cell?_of_block (a := ⟨b, 4, none⟩) e).trans p4, (World.cell?_of_block (a := ⟨b, 5, none⟩) e).trans p5⟩
  have HL := Lib.hid (fun (w' : World) (h : Src g w') => l11DrawKey_c w' g h a n k hn14)
  clear hn14 ht hc hd2 hdb R1 R2 Sb eb hs2 hb
  go_wp2_with fail
  first | (go_region_held3 (fun w' => w'.cell? ⟨b, 0, none⟩ = some (.int .i64 mk.c) ∧ w'.cell? ⟨b, 1, none⟩ = some (.int .i64 mk.d) ∧ w'.cell? ⟨b, 2, none⟩ = some (.int .i64 mk.s) ∧ w'.cell? ⟨b, 3, none⟩ = some (.int .i64 mk.m) ∧ w'.cell? ⟨b, 4, none⟩ = some (.int .i64 mk.l) ∧ w'.cell? ⟨b, 5, none⟩ = some (.slice a n k)) (first | with_reducible exact HCp.out _ _ _ _ _ _ _ hd77 | exact HCe.out _ (by (repeat (first | assumption | (refine Dr.drew ?_) | (refine Dr.alloc ?_ _) | (refine Dr.trans ?_ (by assumption)))); done) | fail) (first | (go_at_call 68; (with_reducible refine (HL.out _ (Dr.src (g := g) (w := wb) (by (repeat (first | assumption | (refine Dr.drew ?_) | (refine Dr.alloc ?_ _) | (refine Dr.trans ?_ (by assumption)))); done))).mono ?_); rintro e w7 ⟨_, rfl, ⟨y7, rfl, hy7⟩, hd7⟩; have hd77 : Dr g wb w7 := (by (repeat (first | assumption | (refine Dr.drew ?_) | (refine Dr.alloc ?_ _) | (refine Dr.trans ?_ (by assumption)))); done); obtain ⟨r0, r1, r2, r3, r4, r5, f0, f1, f2, f3, f4, f5⟩ := HR.out.dr hd77 hwg) | fail)) | fail
  have HY := Lib.hid hy7
  have HD7 := Lib.hid hd77
  clear hy7 hd7 hd77
  have HX7 : Hid (RowsR ⟨w1.heap.size, w7.heap.size, false⟩ w7 (.slice a n k) t) := stable_rows.sub (stable_rows.dr HX.out.1 HD7.out (.inl hg1)) ⟨fun k hk => ⟨hk.1, Nat.lt_of_lt_of_le hk.2 HD7.out.size⟩, fun h => h⟩
  have HX8 : Hid (RowsR ⟨w1.heap.size, w7.heap.size, false⟩ w7 (.slice a2 n2 k2) cuts) := stable_rows.sub (stable_rows.dr HX.out.2 HD7.out (.inl hg1)) ⟨fun k hk => ⟨hk.1, Nat.lt_of_lt_of_le hk.2 HD7.out.size⟩, fun h => h⟩
  go_wp2_with fail
  refine bodyPost_ret (v := .tuple #[.agg #[.int .i64 mk.c, .int .i64 mk.d, .int .i64 mk.s, .int .i64 mk.m, .int .i64 mk.l, .slice a n k], .slice a2 n2 k2, .int .i64 y7]) (by simp [results, Tryz.results18, go_sem, r0, r1, r2, r3, r4, r5]) rfl ⟨_, rfl, ⟨mk, _, t, _, cuts, y7, rfl, HY.out, rows_put6 HX7.out hw1 _ _ _ _ _ _, rows_put6 HX8.out hw1 _ _ _ _ _ _⟩, ext_put6 (Below.trans HE1.out ((HD.out.trans HD7.out).back hwg')) (Nat.le_refl _) _ _ _ _ _ _⟩
end Go.Proofs.YthgmojggpjnckaaGreat
