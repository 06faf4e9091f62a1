/- Proved: the draws of the law on doors: DrawSharedLocks, DrawThinDoors. -/
import Derived.Test.YthgmojggpjnckaaGreatChecked
import Derived.Deep.RegionLaw
import Derived.Deep.RegionHeld3
import Derived.Deep.Cut
import Derived.Test.YthgmojggpjnckaaGreatUPkF3
import Derived.Test.YthgmojggpjnckaaGreatURegionStep
namespace Go.Proofs.YthgmojggpjnckaaGreat
open Go.ChangeShapes Go.WideShapes Go.ChangeAt Go.RowKit
set_option linter.unusedVariables false

set_option maxRecDepth 20000 in
set_option maxHeartbeats 2000000 in
theorem DrawThinDoors_c (w : World) (vb : Value) (zb : Zone) (xs : List Int) (h : BytesR zb w vb xs) : Calls Tryz.prog 35 #[vb] w (Ret w (SysCutsKeyD w)) := by
  have R0 := res_new w 32
  have e0 : Ext w (w.alloc (.cells #[.int .i64 0, .int .i64 0, .int .i64 0, .int .i64 0, .int .i64 0, .slice none 0 0] 32)) := Ext.alloc _ _
  have hsz0 : (w.alloc (.cells #[.int .i64 0, .int .i64 0, .int .i64 0, .int .i64 0, .int .i64 0, .slice none 0 0] 32)).heap.size = w.heap.size + 1 := by simp
  have hcall := l01From_c _ vb zb xs (stable_bytes.ext h e0)
  obtain ⟨ab, nb, kb, rfl, -⟩ := BytesR.shape h
  clear h
  go_enter Tryz.func35, Tryz.ntmps35
  go_wp2_with fail
  generalize w.alloc (.cells #[.int .i64 0, .int .i64 0, .int .i64 0, .int .i64 0, .int .i64 0, .slice none 0 0] 32) = w0 at *
  refine Calls.mono hcall ?_
  rintro e w1 hr
  obtain ⟨_, rfl, ⟨g, hg, rfl, hsrc⟩, e1⟩ := ret_ext hr
  clear hr hcall
  have hwg : w.heap.size ≠ g := by omega
  have hwg' : w.heap.size ≤ g := by omega
  have R1 := R0.ext e1
  have HE1 := Lib.hid (e0.trans e1)
  have hs1 := e1.size
  have hw1 : w.heap.size < w1.heap.size := by omega
  have hg1 : g < w1.heap.size := hsrc.lt
  have hcall := l21Draw_c w1 g hsrc
  clear R0 e0 e1 hsz0 hs1 hg hsrc
  go_wp2_with fail
  refine Calls.mono hcall ?_
  rintro e w2 ⟨_, rfl, ⟨mk, v, t, u, cuts, rfl, q1, ht, q2, q3, hc, q4⟩, hd2⟩
  clear hcall
  obtain ⟨a, n, k, rfl, -⟩ := SliceR.shape ht
  clear q2 q3 q4
  obtain ⟨a2, n2, k2, rfl, -⟩ := SliceR.shape hc
  have R2 := R1.dr hd2 hwg
  unfold sysV
  go_wp2_with fail
  generalize hwb : World.alloc w2 _ = wb
  obtain ⟨eb, Sb⟩ := sys_box hwb
  have hdb : Dr g w1 wb := by rw [← hwb]; exact hd2.alloc _
  have hsb : wb.heap.size = w2.heap.size + 1 := by rw [← hwb]; simp
  have HX : Hid (RowsR ⟨w1.heap.size, wb.heap.size, false⟩ wb (.slice a n k) t ∧ RowsR ⟨w1.heap.size, wb.heap.size, false⟩ wb (.slice a2 n2 k2) cuts) := by rw [← hwb]; exact ⟨rows_alloc ht, rows_alloc hc⟩
  clear hwb
  obtain ⟨b, hb⟩ : ∃ b, w2.heap.size = b := ⟨_, rfl⟩
  have hs2 := hd2.size
  rw [hb] at Sb ⊢
  have hbg : b ≠ g := by omega
  have hwb' : w.heap.size ≠ b := by omega
  have hwb'' : b ≠ w.heap.size := by omega
  have HD := Lib.hid hdb
  have HS := Lib.hid Sb
  have R2 := R2.ext eb
  have HR := Lib.hid R2
  have hr0 : Dr g wb wb := Dr.refl hdb.src
  have HCe : Hid (∀ w', Dr g wb w' → w'.cell? ⟨b, 0, none⟩ = some (.int .i64 mk.c) ∧ w'.cell? ⟨b, 1, none⟩ = some (.int .i64 mk.d) ∧ w'.cell? ⟨b, 2, none⟩ = some (.int .i64 mk.s) ∧ w'.cell? ⟨b, 3, none⟩ = some (.int .i64 mk.m) ∧ w'.cell? ⟨b, 4, none⟩ = some (.int .i64 mk.l) ∧ w'.cell? ⟨b, 5, none⟩ = some (.slice a n k)) := fun w' hd => by
    have q := HS.out.dr hd hbg
    exact ⟨q.c0, q.c1, q.c2, q.c3, q.c4, q.c5⟩
  have HCp : Hid (∀ w' u0 u1 u2 u3 u4 u5, Dr g wb w' → ((((((w'.setCell ⟨w.heap.size, 0, none⟩ u0).setCell ⟨w.heap.size, 1, none⟩ u1).setCell ⟨w.heap.size, 2, none⟩ u2).setCell ⟨w.heap.size, 3, none⟩ u3).setCell ⟨w.heap.size, 4, none⟩ u4).setCell ⟨w.heap.size, 5, none⟩ u5).cell? ⟨b, 0, none⟩ = some (.int .i64 mk.c) ∧ ((((((w'.setCell ⟨w.heap.size, 0, none⟩ u0).setCell ⟨w.heap.size, 1, none⟩ u1).setCell ⟨w.heap.size, 2, none⟩ u2).setCell ⟨w.heap.size, 3, none⟩ u3).setCell ⟨w.heap.size, 4, none⟩ u4).setCell ⟨w.heap.size, 5, none⟩ u5).cell? ⟨b, 1, none⟩ = some (.int .i64 mk.d) ∧ ((((((w'.setCell ⟨w.heap.size, 0, none⟩ u0).setCell ⟨w.heap.size, 1, none⟩ u1).setCell ⟨w.heap.size, 2, none⟩ u2).setCell ⟨w.heap.size, 3, none⟩ u3).setCell ⟨w.heap.size, 4, none⟩ u4).setCell ⟨w.heap.size, 5, none⟩ u5).cell? ⟨b, 2, none⟩ = some (.int .i64 mk.s) ∧ ((((((w'.setCell ⟨w.heap.size, 0, none⟩ u0).setCell ⟨w.heap.size, 1, none⟩ u1).setCell ⟨w.heap.size, 2, none⟩ u2).setCell ⟨w.heap.size, 3, none⟩ u3).setCell ⟨w.heap.size, 4, none⟩ u4).setCell ⟨w.heap.size, 5, none⟩ u5).cell? ⟨b, 3, none⟩ = some (.int .i64 mk.m) ∧ ((((((w'.setCell ⟨w.heap.size, 0, none⟩ u0).setCell ⟨w.heap.size, 1, none⟩ u1).setCell ⟨w.heap.size, 2, none⟩ u2).setCell ⟨w.heap.size, 3, none⟩ u3).setCell ⟨w.heap.size, 4, none⟩ u4).setCell ⟨w.heap.size, 5, none⟩ u5).cell? ⟨b, 4, none⟩ = some (.int .i64 mk.l) ∧ ((((((w'.setCell ⟨w.heap.size, 0, none⟩ u0).setCell ⟨w.heap.size, 1, none⟩ u1).setCell ⟨w.heap.size, 2, none⟩ u2).setCell ⟨w.heap.size, 3, none⟩ u3).setCell ⟨w.heap.size, 4, none⟩ u4).setCell ⟨w.heap.size, 5, none⟩ u5).cell? ⟨b, 5, none⟩ = some (.slice a n k)) := fun w' u0 u1 u2 u3 u4 u5 hd => by
    have e := put6_other (w := w') hwb'' u0 u1 u2 u3 u4 u5
    obtain ⟨p0, p1, p2, p3, p4, p5⟩ := HCe.out w' hd
    exact ⟨(World.cell?_of_block (a := ⟨b, 0, none⟩) e).trans p0, (World.cell?_of_block (a := ⟨b, 1, none⟩) e).trans p1, (World.cell?_of_block (a := ⟨b, 2, none⟩) e).trans p2, (World.cell?_of_block (a := ⟨b, 3, none⟩) e).trans p3, (World.cell?_of_block (a := ⟨b, 4, none⟩) e).trans p4, (World.cell?_of_block (a := ⟨b, 5, none⟩) e).trans p5⟩
  have hgb : g < wb.heap.size := hdb.src.lt
  have hmd := q1.2.1
  have hwd : IntKind.i64.wrap (mk.d + 1) = mk.d + 1 := IntWalk.i64_in _ (by omega)
  have HPick : Hid (∀ w', Drew (wb.alloc (.cells #[.int .i64 1, .int .i64 2, .int .i64 2, .int .i64 3, .int .i64 mk.d, .int .i64 (mk.d + 1), .int .i64 0] 2)) w' → Calls Tryz.prog 48 #[.pointer (some ⟨g, 0, none⟩), .slice (some ⟨wb.heap.size, 0, none⟩) 7 7] w' (DrawR g w' fun r _ => ∃ y, r = .int .i64 y ∧ I64 y)) := fun w' hdq => by
    have hall : ∀ y ∈ ([1, 2, 2, 3, mk.d, mk.d + 1, 0] : List Int), I64 y := fun y hy => by
      simp only [List.mem_cons, List.not_mem_nil, or_false] at hy
      unfold I64; omega
    have hlit : IntsR ⟨wb.heap.size, wb.heap.size + 1, true⟩ (wb.alloc (.cells #[.int .i64 1, .int .i64 2, .int .i64 2, .int .i64 3, .int .i64 mk.d, .int .i64 (mk.d + 1), .int .i64 0] 2)) (.slice (some ⟨wb.heap.size, 0, none⟩) 7 7) [1, 2, 2, 3, mk.d, mk.d + 1, 0] := by
      have := OwnP.ints (OwnP.lit (f := Value.int .i64) (e := 2) (B := wb.heap.size) (w := wb) (Nat.le_refl _) [1, 2, 2, 3, mk.d, mk.d + 1, 0] #[.int .i64 1, .int .i64 2, .int .i64 2, .int .i64 3, .int .i64 mk.d, .int .i64 (mk.d + 1), .int .i64 0] rfl (by simp [maxLen])) hall (Nat.le_refl _)
      rw [World.size_alloc] at this
      exact this
    have hsr : Src g w' := by obtain ⟨m, rfl⟩ := hdq; exact (hr0.src.alloc _).drewN m
    refine (l01Pick_c w' g hsr _ _ _ (stable_ints.ext hlit (Ext.ofDrew hdq)) (.inl (by show g < wb.heap.size; exact hgb)) (by simp)).mono ?_
    rintro e w'' ⟨v, rfl, ⟨y, hy, rfl⟩, hd⟩
    exact ⟨_, rfl, ⟨y, rfl, hall y hy⟩, hd⟩
  clear q1 hmd ht hc hd2 hdb R1 R2 Sb eb hs2 hb hsb
  go_wp2_with fail
  refine wp_region_noPanic ?_
  refine wp_region_held_drew (S := (fun w' => w'.cell? ⟨b, 0, none⟩ = some (.int .i64 mk.c) ∧ w'.cell? ⟨b, 1, none⟩ = some (.int .i64 mk.d) ∧ w'.cell? ⟨b, 2, none⟩ = some (.int .i64 mk.s) ∧ w'.cell? ⟨b, 3, none⟩ = some (.int .i64 mk.m) ∧ w'.cell? ⟨b, 4, none⟩ = some (.int .i64 mk.l) ∧ w'.cell? ⟨b, 5, none⟩ = some (.slice a n k))) (by kernel_rfl) (HCe.out _ hr0.drew) (fun hHeld => ?_)
  (refine take_at 0 15 (v := ?_) rfl rfl (by kernel_rfl) (by kernel_rfl) (by kernel_rfl) (fun _ _ _ h => h) (by rfl) ?_ (by assumption) ?_; rotate_left; focus (intro w999 hSw; (try dsimp only at hSw); go_simp <;> with_reducible rfl); (try simp only [Act.put, List.setIfInBounds_toArray, List.set_cons_zero, List.set_cons_succ]))
  (refine take_at 1 16 (v := ?_) rfl rfl (by kernel_rfl) (by kernel_rfl) (by kernel_rfl) (fun _ _ _ h => h) (by rfl) ?_ (by assumption) ?_; rotate_left; focus (intro w999 hSw; (try dsimp only at hSw); go_simp <;> with_reducible rfl); (try simp only [Act.put, List.setIfInBounds_toArray, List.set_cons_zero, List.set_cons_succ]))
  (refine take_at 2 17 (v := ?_) rfl rfl (by kernel_rfl) (by kernel_rfl) (by kernel_rfl) (fun _ _ _ h => h) (by rfl) ?_ (by assumption) ?_; rotate_left; focus (intro w999 hSw; (try dsimp only at hSw); go_simp <;> with_reducible rfl); (try simp only [Act.put, List.setIfInBounds_toArray, List.set_cons_zero, List.set_cons_succ]))
  (refine take_at 3 18 (v := ?_) rfl rfl (by kernel_rfl) (by kernel_rfl) (by kernel_rfl) (fun _ _ _ h => h) (by rfl) ?_ (by assumption) ?_; rotate_left; focus (intro w999 hSw; (try dsimp only at hSw); go_simp <;> with_reducible rfl); (try simp only [Act.put, List.setIfInBounds_toArray, List.set_cons_zero, List.set_cons_succ]))
  (refine take_at 4 19 (v := ?_) rfl rfl (by kernel_rfl) (by kernel_rfl) (by kernel_rfl) (fun _ _ _ h => h) (by rfl) ?_ (by assumption) ?_; rotate_left; focus (intro w999 hSw; (try dsimp only at hSw); go_simp <;> with_reducible rfl); (try simp only [Act.put, List.setIfInBounds_toArray, List.set_cons_zero, List.set_cons_succ]))
  (refine take_at 5 20 (v := ?_) rfl rfl (by kernel_rfl) (by kernel_rfl) (by kernel_rfl) (fun _ _ _ h => h) (by rfl) ?_ (by assumption) ?_; rotate_left; focus (intro w999 hSw; (try dsimp only at hSw); go_simp <;> with_reducible rfl); (try simp only [Act.put, List.setIfInBounds_toArray, List.set_cons_zero, List.set_cons_succ]))
  (refine take_at 6 21 (v := ?_) rfl rfl (by kernel_rfl) (by kernel_rfl) (by kernel_rfl) (fun _ _ _ h => h) (by rfl) ?_ (by assumption) ?_; rotate_left; focus (intro w999 hSw; (try dsimp only at hSw); go_simp <;> with_reducible rfl); (try simp only [Act.put, List.setIfInBounds_toArray, List.set_cons_zero, List.set_cons_succ]))
  (refine take_at 7 22 (v := ?_) rfl rfl (by kernel_rfl) (by kernel_rfl) (by kernel_rfl) (fun _ _ _ h => h) (by rfl) ?_ (by assumption) ?_; rotate_left; focus (intro w999 hSw; (try dsimp only at hSw); go_simp <;> with_reducible rfl); (try simp only [Act.put, List.setIfInBounds_toArray, List.set_cons_zero, List.set_cons_succ]))
  (refine take_at 8 23 (v := ?_) rfl rfl (by kernel_rfl) (by kernel_rfl) (by kernel_rfl) (fun _ _ _ h => h) (by rfl) ?_ (by assumption) ?_; rotate_left; focus (intro w999 hSw; (try dsimp only at hSw); go_simp <;> with_reducible rfl); (try simp only [Act.put, List.setIfInBounds_toArray, List.set_cons_zero, List.set_cons_succ]))
  (refine take_at 9 24 (v := ?_) rfl rfl (by kernel_rfl) (by kernel_rfl) (by kernel_rfl) (fun _ _ _ h => h) (by rfl) ?_ (by assumption) ?_; rotate_left; focus (intro w999 hSw; (try dsimp only at hSw); go_simp <;> with_reducible rfl); (try simp only [Act.put, List.setIfInBounds_toArray, List.set_cons_zero, List.set_cons_succ]))
  (refine wpAnyH_ready (rs := [10]) (by kernel_rfl) (by simp) ?_; refine AllReadyH.cons rfl (fun K hK => ?_) AllReadyH.nil; go_simp)
  (refine hK.out _ _ ?_ (fun hHeld => ?_))
  · exact HCe.out _ (hr0.drew.alloc _)
  (clear hK K; try simp only [Act.put, List.setIfInBounds_toArray, List.set_cons_zero, List.set_cons_succ])
  (refine wpAnyH_ready (rs := [11]) (by kernel_rfl) (by simp) ?_; refine AllReadyH.cons rfl (fun K hK => ?_) AllReadyH.nil; go_simp)
  refine (HPick.out _ ⟨1, rfl⟩).mono ?_
  rintro e w7 ⟨_, rfl, ⟨y7, rfl, hy7⟩, hd7⟩
  have hd77 : Dr g wb w7 := (hr0.drew.alloc _).trans hd7
  obtain ⟨r0, r1, r2, r3, r4, r5, f0, f1, f2, f3, f4, f5⟩ := HR.out.dr hd77 hwg
  (refine hK.out _ _ ?_ (fun hHeld => ?_))
  · exact HCe.out _ hd77
  (clear hK K; try simp only [Act.put, List.setIfInBounds_toArray, List.set_cons_zero, List.set_cons_succ])
  (refine wpAnyH_ready (rs := [12]) (by kernel_rfl) (by simp) ?_; refine AllReadyH.cons rfl (fun K hK => ?_) AllReadyH.nil; go_simp)
  (refine hK.out _ _ ?_ (fun hHeld => ?_))
  · exact HCp.out _ _ _ _ _ _ _ hd77
  (clear hK K; try simp only [Act.put, List.setIfInBounds_toArray, List.set_cons_zero, List.set_cons_succ])
  (refine take_at 13 3 (v := ?_) rfl rfl (by kernel_rfl) (by kernel_rfl) (by kernel_rfl) (fun _ _ _ h => h) (by rfl) ?_ (by assumption) ?_; rotate_left; focus (intro w999 hSw; (try dsimp only at hSw); go_simp <;> with_reducible rfl); (try simp only [Act.put, List.setIfInBounds_toArray, List.set_cons_zero, List.set_cons_succ]))
  (refine take_at 14 4 (v := ?_) rfl rfl (by kernel_rfl) (by kernel_rfl) (by kernel_rfl) (fun _ _ _ h => h) (by rfl) ?_ (by assumption) ?_; rotate_left; focus (intro w999 hSw; (try dsimp only at hSw); go_simp <;> with_reducible rfl); (try simp only [Act.put, List.setIfInBounds_toArray, List.set_cons_zero, List.set_cons_succ]))
  refine wpAnyH_done (by kernel_rfl) ?_ _
  refine NoPanic.normal ?_
  have HY := Lib.hid hy7
  have HD7 := Lib.hid hd77
  clear hy7 hd7 hd77
  have HX7 : Hid (RowsR ⟨w1.heap.size, w7.heap.size, false⟩ w7 (.slice a n k) t) := stable_rows.sub (stable_rows.dr HX.out.1 HD7.out (.inl hg1)) ⟨fun k hk => ⟨hk.1, Nat.lt_of_lt_of_le hk.2 HD7.out.size⟩, fun h => h⟩
  have HX8 : Hid (RowsR ⟨w1.heap.size, w7.heap.size, false⟩ w7 (.slice a2 n2 k2) cuts) := stable_rows.sub (stable_rows.dr HX.out.2 HD7.out (.inl hg1)) ⟨fun k hk => ⟨hk.1, Nat.lt_of_lt_of_le hk.2 HD7.out.size⟩, fun h => h⟩
  go_wp2_with fail
  refine bodyPost_ret (v := .tuple #[.agg #[.int .i64 mk.c, .int .i64 mk.d, .int .i64 mk.s, .int .i64 mk.m, .int .i64 mk.l, .slice a n k], .slice a2 n2 k2, .int .i64 (y7)]) (by simp [results, Tryz.results35, go_sem, r0, r1, r2, r3, r4, r5]) rfl ⟨_, rfl, ⟨mk, _, t, _, cuts, _, rfl, HY.out, rows_put6 HX7.out hw1 _ _ _ _ _ _, rows_put6 HX8.out hw1 _ _ _ _ _ _⟩, ext_put6 (Below.trans HE1.out ((HD.out.trans HD7.out).back hwg')) (Nat.le_refl _) _ _ _ _ _ _⟩

set_option maxRecDepth 20000 in
set_option maxHeartbeats 1000000 in
theorem DrawSharedLocks_c (w : World) (vb : Value) (zb : Zone) (xs : List Int) (h : BytesR zb w vb xs) : Calls Tryz.prog 30 #[vb] w (Ret w (SysCutsE w)) := by
  have R0 := res_new w 32
  have e0 : Ext w (w.alloc (.cells #[.int .i64 0, .int .i64 0, .int .i64 0, .int .i64 0, .int .i64 0, .slice none 0 0] 32)) := Ext.alloc _ _
  have hsz0 : (w.alloc (.cells #[.int .i64 0, .int .i64 0, .int .i64 0, .int .i64 0, .int .i64 0, .slice none 0 0] 32)).heap.size = w.heap.size + 1 := by simp
  have hcall := l01From_c _ vb zb xs (stable_bytes.ext h e0)
  obtain ⟨ab, nb, kb, rfl, -⟩ := BytesR.shape h
  clear h
  go_enter Tryz.func30, Tryz.ntmps30
  go_wp2_with fail
  generalize w.alloc (.cells #[.int .i64 0, .int .i64 0, .int .i64 0, .int .i64 0, .int .i64 0, .slice none 0 0] 32) = w0 at *
  refine Calls.mono hcall ?_
  rintro e w1 hr
  obtain ⟨_, rfl, ⟨g, hg, rfl, hsrc⟩, e1⟩ := ret_ext hr
  clear hr hcall
  have hwg : w.heap.size ≠ g := by omega
  have hwg' : w.heap.size ≤ g := by omega
  have R1 := R0.ext e1
  have HE1 := Lib.hid (e0.trans e1)
  have hs1 := e1.size
  have hw1 : w.heap.size < w1.heap.size := by omega
  have hcall := l21Draw_c w1 g hsrc
  clear R0 e0 e1 hsz0 hs1 hg hsrc
  go_wp2_with fail
  refine Calls.mono hcall ?_
  rintro e w2 ⟨_, rfl, ⟨mk, v, t, u, cuts, rfl, -, ht, -, -, hc, -⟩, hd2⟩
  clear hcall
  obtain ⟨a, n, k, rfl, -⟩ := SliceR.shape ht
  obtain ⟨a2, n2, k2, rfl, -⟩ := SliceR.shape hc
  have HX := Lib.hid ht
  have HC := Lib.hid hc
  have HD := Lib.hid hd2
  obtain ⟨r0, r1, r2, r3, r4, r5, f0, f1, f2, f3, f4, f5⟩ := R1.dr hd2 hwg
  unfold sysV
  clear ht hc hd2 R1
  go_wp2_with fail
  refine bodyPost_ret (v := .tuple #[.agg #[.int .i64 mk.c, .int .i64 mk.d, .int .i64 mk.s, .int .i64 mk.m, .int .i64 mk.l, .slice a n k], .slice a2 n2 k2]) (by simp [results, Tryz.results30, go_sem, r0, r1, r2, r3, r4, r5]) rfl ⟨_, rfl, ⟨mk, _, t, _, cuts, rfl, rows_put6 HX.out hw1 _ _ _ _ _ _, rows_put6 HC.out hw1 _ _ _ _ _ _⟩, ext_put6 (Below.trans HE1.out (HD.out.back hwg')) (Nat.le_refl _) _ _ _ _ _ _⟩
end Go.Proofs.YthgmojggpjnckaaGreat
