/- Proved: the draws of the law on wafers: DrawWafersFor, DrawMostOpeners, DrawSpareKeys, DrawLeastWafers. -/
import Derived.Test.YthgmojggpjnckaaGreatChecked
import Derived.Deep.RegionLaw
import Derived.Deep.RegionHeld3
import Derived.Lib.MinMax
import Derived.Test.YthgmojggpjnckaaGreatUDrawGrid
namespace Go.Proofs.YthgmojggpjnckaaGreat
open Go.ChangeShapes Go.WideShapes Go.ChangeAt Go.RowKit
set_option linter.unusedVariables false

/-- a maker and a number that a draw hands back -/
def MkNumD (r : Value) : Prop := ∃ (mk : MK) (n : Int), r = .tuple #[mk.v, .int .i64 n] ∧ I64 n
theorem put5_heap {w : World} {B k : Nat} (hk : k ≠ B) (u0 u1 u2 u3 u4 : Value) : (((((w.setCell ⟨B, 0, none⟩ u0).setCell ⟨B, 1, none⟩ u1).setCell ⟨B, 2, none⟩ u2).setCell ⟨B, 3, none⟩ u3).setCell ⟨B, 4, none⟩ u4).heap[k]? = w.heap[k]? := by
  rw [Below.heap_setCell _ _ _ _ hk, Below.heap_setCell _ _ _ _ hk, Below.heap_setCell _ _ _ _ hk, Below.heap_setCell _ _ _ _ hk, Below.heap_setCell _ _ _ _ hk]
theorem ext_put5 {w w' : World} {B : Nat} (h : Ext w w') (hB : w.heap.size ≤ B) (u0 u1 u2 u3 u4 : Value) : Ext w (((((w'.setCell ⟨B, 0, none⟩ u0).setCell ⟨B, 1, none⟩ u1).setCell ⟨B, 2, none⟩ u2).setCell ⟨B, 3, none⟩ u3).setCell ⟨B, 4, none⟩ u4) :=
  Below.setCell (Below.setCell (Below.setCell (Below.setCell (Below.setCell h (p := ⟨B, 0, none⟩) hB _) (p := ⟨B, 1, none⟩) hB _) (p := ⟨B, 2, none⟩) hB _) (p := ⟨B, 3, none⟩) hB _) (p := ⟨B, 4, none⟩) hB _
theorem Box5.ext {b : Nat} {mk : MK} {w w' : World} (h : Box5 b mk w) (e : Ext w w') : Box5 b mk w' :=
  ⟨h.1.ext e, fun i => (World.frozen?_of_block (a := ⟨b, i, none⟩) (Below.block e b (World.block_lt_of_cell? _ _ h.1.1))).trans (h.2 i)⟩
theorem MkAt.drG {b g : Nat} {mk : MK} {w w' : World} (h : MkAt w b mk) (hd : Dr g w w') (hb : b ≠ g) : MkAt w' b mk := by
  obtain ⟨c0, c1, c2, c3, c4⟩ := h
  exact ⟨hd.cell c0 hb, hd.cell c1 hb, hd.cell c2 hb, hd.cell c3 hb, hd.cell c4 hb⟩
theorem MkAt.put5 {b B : Nat} {mk : MK} {w : World} (h : MkAt w b mk) (hb : b ≠ B) (u0 u1 u2 u3 u4 : Value) : MkAt (((((w.setCell ⟨B, 0, none⟩ u0).setCell ⟨B, 1, none⟩ u1).setCell ⟨B, 2, none⟩ u2).setCell ⟨B, 3, none⟩ u3).setCell ⟨B, 4, none⟩ u4) b mk := by
  have e := put5_heap (w := w) hb u0 u1 u2 u3 u4
  obtain ⟨c0, c1, c2, c3, c4⟩ := h
  exact ⟨(World.cell?_of_block (a := ⟨b, 0, none⟩) e).trans c0, (World.cell?_of_block (a := ⟨b, 1, none⟩) e).trans c1, (World.cell?_of_block (a := ⟨b, 2, none⟩) e).trans c2, (World.cell?_of_block (a := ⟨b, 3, none⟩) e).trans c3, (World.cell?_of_block (a := ⟨b, 4, none⟩) e).trans c4⟩

set_option maxRecDepth 20000 in
set_option maxHeartbeats 2000000 in
theorem DrawWafersFor_c (w : World) (vb : Value) (zb : Zone) (xs : List Int) (h : BytesR zb w vb xs) : Calls Tryz.prog 7 #[vb] w (Ret w fun r _ => MkNumD r) := by
  have B0 := Box5.new w ⟨0, 0, 0, 0, 0⟩ 25
  have e0 : Ext w (w.alloc (.cells #[.int .i64 0, .int .i64 0, .int .i64 0, .int .i64 0, .int .i64 0] 25)) := Ext.alloc _ _
  have hsz0 : (w.alloc (.cells #[.int .i64 0, .int .i64 0, .int .i64 0, .int .i64 0, .int .i64 0] 25)).heap.size = w.heap.size + 1 := by simp
  have hcall := l01From_c _ vb zb xs (stable_bytes.ext h e0)
  obtain ⟨ab, nb, kb, rfl, -⟩ := BytesR.shape h
  clear h
  go_enter Tryz.func7, Tryz.ntmps7
  go_wp2_with fail
  generalize w.alloc (.cells #[.int .i64 0, .int .i64 0, .int .i64 0, .int .i64 0, .int .i64 0] 25) = w0 at *
  refine Calls.mono hcall ?_
  rintro e w1 hr
  obtain ⟨_, rfl, ⟨g, hg, rfl, hsrc⟩, e1⟩ := ret_ext hr
  clear hr hcall
  have hwg : w.heap.size ≠ g := by omega
  have hwg' : w.heap.size ≤ g := by omega
  have B1 := B0.ext e1
  have HE1 := Lib.hid (e0.trans e1)
  have hs1 := e1.size
  have hw1 : w.heap.size < w1.heap.size := by omega
  have hcall := l02Draw_c w1 g hsrc
  clear B0 e0 e1 hsz0 hs1 hg hsrc
  go_wp2_with fail
  refine Calls.mono hcall ?_
  rintro e w2 ⟨_, rfl, ⟨mk, rfl, hR⟩, hd2⟩
  clear hcall
  have B2 := B1.dr hd2 hwg
  unfold MK.v
  go_wp2_with fail
  generalize hwb : World.alloc w2 _ = wb
  obtain ⟨eb, Sb⟩ := mk_box hwb
  have hdb : Dr g w1 wb := by rw [← hwb]; exact hd2.alloc _
  clear hwb
  obtain ⟨b, hb⟩ : ∃ b, w2.heap.size = b := ⟨_, rfl⟩
  have hs2 := hd2.size
  have hgl := hd2.src.lt
  rw [hb] at Sb ⊢
  have hbg : b ≠ g := by omega
  have hwb' : w.heap.size ≠ b := by omega
  have hwb'' : b ≠ w.heap.size := by omega
  have HD := Lib.hid hdb
  have HS := Lib.hid (fun (w' : World) (hd : Dr g wb w') => Sb.drG hd hbg)
  have HB := Lib.hid (B2.ext eb)
  have hr0 : Dr g wb wb := Dr.refl hdb.src
  have HL := Lib.hid (fun (w' : World) (h : Dr g wb w') (n : Int) (hn : I64 n) => l01Next_c w' g h.src n hn)
  clear hR hd2 hdb B1 B2 Sb eb hs2 hb hgl
  go_wp2_with fail
  refine wp_region_noPanic ?_
  refine wp_region_held_drew (S := (fun w' => w'.cell? ⟨b, 0, none⟩ = some (.int .i64 mk.c) ∧ w'.cell? ⟨b, 1, none⟩ = some (.int .i64 mk.d) ∧ w'.cell? ⟨b, 2, none⟩ = some (.int .i64 mk.s) ∧ w'.cell? ⟨b, 3, none⟩ = some (.int .i64 mk.m) ∧ w'.cell? ⟨b, 4, none⟩ = some (.int .i64 mk.l))) (by kernel_rfl) (HS.out _ hr0.drew) (fun hHeld => ?_)
  (refine take_at 0 10 (v := ?_) rfl rfl (by kernel_rfl) (by kernel_rfl) (by kernel_rfl) (fun _ _ _ h => h) (by rfl) ?_ (by assumption) ?_; rotate_left; focus (intro w999 hSw; (try dsimp only at hSw); go_simp <;> with_reducible rfl); (try simp only [Act.put, List.setIfInBounds_toArray, List.set_cons_zero, List.set_cons_succ]))
  (refine take_at 1 11 (v := ?_) rfl rfl (by kernel_rfl) (by kernel_rfl) (by kernel_rfl) (fun _ _ _ h => h) (by rfl) ?_ (by assumption) ?_; rotate_left; focus (intro w999 hSw; (try dsimp only at hSw); go_simp <;> with_reducible rfl); (try simp only [Act.put, List.setIfInBounds_toArray, List.set_cons_zero, List.set_cons_succ]))
  (refine take_at 2 12 (v := ?_) rfl rfl (by kernel_rfl) (by kernel_rfl) (by kernel_rfl) (fun _ _ _ h => h) (by rfl) ?_ (by assumption) ?_; rotate_left; focus (intro w999 hSw; (try dsimp only at hSw); go_simp <;> with_reducible rfl); (try simp only [Act.put, List.setIfInBounds_toArray, List.set_cons_zero, List.set_cons_succ]))
  (refine take_at 5 15 (v := ?_) rfl rfl (by kernel_rfl) (by kernel_rfl) (by kernel_rfl) (fun _ _ _ h => h) (by rfl) ?_ (by assumption) ?_; rotate_left; focus (intro w999 hSw; (try dsimp only at hSw); go_simp <;> with_reducible rfl); (try simp only [Act.put, List.setIfInBounds_toArray, List.set_cons_zero, List.set_cons_succ]))
  (refine wpAnyH_ready (rs := [3]) (by kernel_rfl) (by simp) ?_; refine AllReadyH.cons rfl (fun K hK => ?_) AllReadyH.nil; go_simp)
  refine (HL.out _ hr0.drew 40 (by unfold I64; omega)).mono ?_
  rintro e w3 ⟨_, rfl, ⟨y1, rfl, y10, y11⟩, hd3⟩
  have hd33 : Dr g wb w3 := hr0.drew.trans hd3
  have hy1 : 0 ≤ y1 ∧ y1 ≤ 40 := by omega
  have hw1y : IntKind.i64.wrap (1 + y1) = 1 + y1 := IntWalk.i64_in _ (by omega)
  clear y10 y11 hd3
  (refine hK.out _ _ ?_ (fun hHeld => ?_))
  · exact HS.out _ hd33
  (clear hK K; try simp only [Act.put, List.setIfInBounds_toArray, List.set_cons_zero, List.set_cons_succ])
  (refine take_at 4 14 (v := ?_) rfl rfl (by kernel_rfl) (by kernel_rfl) (by kernel_rfl) (fun _ _ _ h => h) (by rfl) ?_ (by assumption) ?_; rotate_left; focus (intro w999 hSw; (try dsimp only at hSw); go_simp <;> with_reducible rfl); (try simp only [Act.put, List.setIfInBounds_toArray, List.set_cons_zero, List.set_cons_succ]))
  (refine wpAnyH_ready (rs := [6]) (by kernel_rfl) (by simp) ?_; refine AllReadyH.cons rfl (fun K hK => ?_) AllReadyH.nil; go_simp)
  refine (HL.out _ hd33 300 (by unfold I64; omega)).mono ?_
  rintro e w4 ⟨_, rfl, ⟨y2, rfl, y20, y21⟩, hd4⟩
  have hd44 : Dr g wb w4 := hd33.trans hd4
  have hy2 : 0 ≤ y2 ∧ y2 ≤ 300 := by omega
  have hw2y : IntKind.i64.wrap (1 + y2) = 1 + y2 := IntWalk.i64_in _ (by omega)
  clear y20 y21 hd4
  (refine hK.out _ _ ?_ (fun hHeld => ?_))
  · exact HS.out _ hd44
  (clear hK K; try simp only [Act.put, List.setIfInBounds_toArray, List.set_cons_zero, List.set_cons_succ])
  (refine take_at 7 17 (v := ?_) rfl rfl (by kernel_rfl) (by kernel_rfl) (by kernel_rfl) (fun _ _ _ h => h) (by rfl) ?_ (by assumption) ?_; rotate_left; focus (intro w999 hSw; (try dsimp only at hSw); go_simp <;> with_reducible rfl); (try simp only [Act.put, List.setIfInBounds_toArray, List.set_cons_zero, List.set_cons_succ]))
  (refine wpAnyH_ready (rs := [8]) (by kernel_rfl) (by simp) ?_; refine AllReadyH.cons rfl (fun K hK => ?_) AllReadyH.nil; go_simp)
  (refine hK.out _ _ ?_ (fun hHeld => ?_))
  · exact HS.out _ (hd44.alloc _)
  (clear hK K; try simp only [Act.put, List.setIfInBounds_toArray, List.set_cons_zero, List.set_cons_succ])
  have hall : ∀ y ∈ ([1, 2, 3, 4, 1 + y1, 1 + y2, 0, 1000000000000, 1000000000001] : List Int), I64 y := fun y hy => by
    simp only [List.mem_cons, List.not_mem_nil, or_false] at hy
    unfold I64; omega
  (refine wpAnyH_ready (rs := [9]) (by kernel_rfl) (by simp) ?_; refine AllReadyH.cons rfl (fun K hK => ?_) AllReadyH.nil; go_simp)
  refine (pickL_c w4 g hd44.src [1, 2, 3, 4, 1 + y1, 1 + y2, 0, 1000000000000, 1000000000001] #[.int .i64 1, .int .i64 2, .int .i64 3, .int .i64 4, .int .i64 (1 + y1), .int .i64 (1 + y2), .int .i64 0, .int .i64 1000000000000, .int .i64 1000000000001] rfl hall (by simp) (by simp) rfl rfl).mono ?_
  rintro e w7 ⟨_, rfl, ⟨y7, rfl, hyl⟩, hd7⟩
  have hd77 : Dr g wb w7 := (hd44.alloc _).trans hd7
  have hy7 : I64 y7 := hall _ hyl
  have HY := Lib.hid hy7
  have HX : Hid (Ext w (((((w7.setCell ⟨w.heap.size, 0, none⟩ (.int .i64 mk.c)).setCell ⟨w.heap.size, 1, none⟩ (.int .i64 mk.d)).setCell ⟨w.heap.size, 2, none⟩ (.int .i64 mk.s)).setCell ⟨w.heap.size, 3, none⟩ (.int .i64 mk.m)).setCell ⟨w.heap.size, 4, none⟩ (.int .i64 mk.l))) := ext_put5 (Below.trans HE1.out ((HD.out.trans hd77).back hwg')) (Nat.le_refl _) _ _ _ _ _
  obtain ⟨⟨r0, r1, r2, r3, r4⟩, fz⟩ := HB.out.dr hd77 hwg
  have f0 := fz 0
  have f1 := fz 1
  have f2 := fz 2
  have f3 := fz 3
  have f4 := fz 4
  have HCp : Hid (MkAt (((((w7.setCell ⟨w.heap.size, 0, none⟩ (.int .i64 mk.c)).setCell ⟨w.heap.size, 1, none⟩ (.int .i64 mk.d)).setCell ⟨w.heap.size, 2, none⟩ (.int .i64 mk.s)).setCell ⟨w.heap.size, 3, none⟩ (.int .i64 mk.m)).setCell ⟨w.heap.size, 4, none⟩ (.int .i64 mk.l)) b mk) := (HS.out _ hd77).put5 hwb'' _ _ _ _ _
  clear fz
  (refine hK.out _ _ ?_ (fun hHeld => ?_))
  · exact HS.out _ hd77
  (clear hK K; try simp only [Act.put, List.setIfInBounds_toArray, List.set_cons_zero, List.set_cons_succ])
  (refine wpAnyH_ready (rs := [10]) (by kernel_rfl) (by simp) ?_; refine AllReadyH.cons rfl (fun K hK => ?_) AllReadyH.nil; go_simp)
  (refine hK.out _ _ ?_ (fun hHeld => ?_))
  · exact HCp.out
  (clear hK K; try simp only [Act.put, List.setIfInBounds_toArray, List.set_cons_zero, List.set_cons_succ])
  (refine take_at 11 3 (v := ?_) rfl rfl (by kernel_rfl) (by kernel_rfl) (by kernel_rfl) (fun _ _ _ h => h) (by rfl) ?_ (by assumption) ?_; rotate_left; focus (intro w999 hSw; (try dsimp only at hSw); go_simp <;> with_reducible rfl); (try simp only [Act.put, List.setIfInBounds_toArray, List.set_cons_zero, List.set_cons_succ]))
  refine wpAnyH_done (by kernel_rfl) ?_ _
  refine NoPanic.normal ?_
  go_wp2_with fail
  refine bodyPost_ret (v := .tuple #[.agg #[.int .i64 mk.c, .int .i64 mk.d, .int .i64 mk.s, .int .i64 mk.m, .int .i64 mk.l], .int .i64 y7]) (by simp [results, Tryz.results7, go_sem, r0, r1, r2, r3, r4]) rfl ⟨_, rfl, ⟨mk, _, rfl, HY.out⟩, HX.out⟩

set_option maxRecDepth 20000 in
set_option maxHeartbeats 2000000 in
theorem DrawMostOpeners_c (w : World) (vb : Value) (zb : Zone) (xs : List Int) (h : BytesR zb w vb xs) : Calls Tryz.prog 10 #[vb] w (Ret w fun r _ => MkNumD r) := by
  have B0 := Box5.new w ⟨0, 0, 0, 0, 0⟩ 25
  have e0 : Ext w (w.alloc (.cells #[.int .i64 0, .int .i64 0, .int .i64 0, .int .i64 0, .int .i64 0] 25)) := Ext.alloc _ _
  have hsz0 : (w.alloc (.cells #[.int .i64 0, .int .i64 0, .int .i64 0, .int .i64 0, .int .i64 0] 25)).heap.size = w.heap.size + 1 := by simp
  have hcall := l01From_c _ vb zb xs (stable_bytes.ext h e0)
  obtain ⟨ab, nb, kb, rfl, -⟩ := BytesR.shape h
  clear h
  go_enter Tryz.func10, Tryz.ntmps10
  go_wp2_with fail
  generalize w.alloc (.cells #[.int .i64 0, .int .i64 0, .int .i64 0, .int .i64 0, .int .i64 0] 25) = w0 at *
  refine Calls.mono hcall ?_
  rintro e w1 hr
  obtain ⟨_, rfl, ⟨g, hg, rfl, hsrc⟩, e1⟩ := ret_ext hr
  clear hr hcall
  have hwg : w.heap.size ≠ g := by omega
  have hwg' : w.heap.size ≤ g := by omega
  have B1 := B0.ext e1
  have HE1 := Lib.hid (e0.trans e1)
  have hs1 := e1.size
  have hw1 : w.heap.size < w1.heap.size := by omega
  have hcall := l02Draw_c w1 g hsrc
  clear B0 e0 e1 hsz0 hs1 hg hsrc
  go_wp2_with fail
  refine Calls.mono hcall ?_
  rintro e w2 ⟨_, rfl, ⟨mk, rfl, hR⟩, hd2⟩
  clear hcall
  have B2 := B1.dr hd2 hwg
  unfold MK.v
  go_wp2_with fail
  generalize hwb : World.alloc w2 _ = wb
  obtain ⟨eb, Sb⟩ := mk_box hwb
  have hdb : Dr g w1 wb := by rw [← hwb]; exact hd2.alloc _
  clear hwb
  obtain ⟨b, hb⟩ : ∃ b, w2.heap.size = b := ⟨_, rfl⟩
  have hs2 := hd2.size
  have hgl := hd2.src.lt
  rw [hb] at Sb ⊢
  have hbg : b ≠ g := by omega
  have hwb' : w.heap.size ≠ b := by omega
  have hwb'' : b ≠ w.heap.size := by omega
  have HD := Lib.hid hdb
  have HS := Lib.hid (fun (w' : World) (hd : Dr g wb w') => Sb.drG hd hbg)
  have HB := Lib.hid (B2.ext eb)
  have hr0 : Dr g wb wb := Dr.refl hdb.src
  have HL := Lib.hid (fun (w' : World) (h : Dr g wb w') (n : Int) (hn : I64 n) => l01Next_c w' g h.src n hn)
  have hmc := hR.1
  have hmd := hR.2.1
  clear hR hd2 hdb B1 B2 Sb eb hs2 hb hgl
  go_wp2_with fail
  refine wp_region_noPanic ?_
  refine wp_region_held_drew (S := (fun w' => w'.cell? ⟨b, 0, none⟩ = some (.int .i64 mk.c) ∧ w'.cell? ⟨b, 1, none⟩ = some (.int .i64 mk.d) ∧ w'.cell? ⟨b, 2, none⟩ = some (.int .i64 mk.s) ∧ w'.cell? ⟨b, 3, none⟩ = some (.int .i64 mk.m) ∧ w'.cell? ⟨b, 4, none⟩ = some (.int .i64 mk.l))) (by kernel_rfl) (HS.out _ hr0.drew) (fun hHeld => ?_)
  obtain ⟨X, hX⟩ : ∃ X, X = mk.c * (mk.d - 1) := ⟨_, rfl⟩
  have hXb : -9 ≤ X ∧ X ≤ 72 := by
    have h1 : mk.c * (mk.d - 1) ≤ 9 * 8 := by
      rcases Int.le_total 0 (mk.d - 1) with q | q
      · exact Int.mul_le_mul (by omega) (by omega) q (by omega)
      · have : mk.c * (mk.d - 1) ≤ 0 := Int.mul_nonpos_of_nonneg_of_nonpos (by omega) q
        omega
    have h2 : -9 ≤ mk.c * (mk.d - 1) := by
      rcases Int.le_total 0 (mk.d - 1) with q | q
      · have : 0 ≤ mk.c * (mk.d - 1) := Int.mul_nonneg (by omega) q
        omega
      · have e : mk.d - 1 = -1 ∨ mk.d - 1 = 0 := by omega
        rcases e with e | e
        · rw [e]; omega
        · rw [e]; omega
    omega
  have hm1 : IntKind.i64.wrap (mk.d - 1) = mk.d - 1 := IntWalk.i64_in _ (by omega)
  have hm2 : IntKind.i64.wrap (mk.c * (mk.d - 1)) = X := by rw [← hX]; exact IntWalk.i64_in _ (by omega)
  have hm3 : IntKind.i64.wrap (X + 2) = X + 2 := IntWalk.i64_in _ (by omega)
  clear hX
  (refine take_at 0 10 (v := ?_) rfl rfl (by kernel_rfl) (by kernel_rfl) (by kernel_rfl) (fun _ _ _ h => h) (by rfl) ?_ (by assumption) ?_; rotate_left; focus (intro w999 hSw; (try dsimp only at hSw); go_simp <;> with_reducible rfl); (try simp only [Act.put, List.setIfInBounds_toArray, List.set_cons_zero, List.set_cons_succ]))
  (refine take_at 1 11 (v := ?_) rfl rfl (by kernel_rfl) (by kernel_rfl) (by kernel_rfl) (fun _ _ _ h => h) (by rfl) ?_ (by assumption) ?_; rotate_left; focus (intro w999 hSw; (try dsimp only at hSw); go_simp <;> with_reducible rfl); (try simp only [Act.put, List.setIfInBounds_toArray, List.set_cons_zero, List.set_cons_succ]))
  (refine take_at 2 12 (v := ?_) rfl rfl (by kernel_rfl) (by kernel_rfl) (by kernel_rfl) (fun _ _ _ h => h) (by rfl) ?_ (by assumption) ?_; rotate_left; focus (intro w999 hSw; (try dsimp only at hSw); go_simp <;> with_reducible rfl); (try simp only [Act.put, List.setIfInBounds_toArray, List.set_cons_zero, List.set_cons_succ]))
  (refine take_at 3 13 (v := ?_) rfl rfl (by kernel_rfl) (by kernel_rfl) (by kernel_rfl) (fun _ _ _ h => h) (by rfl) ?_ (by assumption) ?_; rotate_left; focus (intro w999 hSw; (try dsimp only at hSw); go_simp <;> with_reducible rfl); (try simp only [Act.put, List.setIfInBounds_toArray, List.set_cons_zero, List.set_cons_succ]))
  (refine take_at 4 14 (v := ?_) rfl rfl (by kernel_rfl) (by kernel_rfl) (by kernel_rfl) (fun _ _ _ h => h) (by rfl) ?_ (by assumption) ?_; rotate_left; focus (intro w999 hSw; (try dsimp only at hSw); go_simp <;> with_reducible rfl); (try simp only [Act.put, List.setIfInBounds_toArray, List.set_cons_zero, List.set_cons_succ]))
  (refine take_at 5 15 (v := ?_) rfl rfl (by kernel_rfl) (by kernel_rfl) (by kernel_rfl) (fun _ _ _ h => h) (by rfl) ?_ (by assumption) ?_; rotate_left; focus (intro w999 hSw; (try dsimp only at hSw); go_simp <;> with_reducible rfl); (try simp only [Act.put, List.setIfInBounds_toArray, List.set_cons_zero, List.set_cons_succ]))
  (refine take_at 6 16 (v := ?_) rfl rfl (by kernel_rfl) (by kernel_rfl) (by kernel_rfl) (fun _ _ _ h => h) (by rfl) ?_ (by assumption) ?_; rotate_left; focus (intro w999 hSw; (try dsimp only at hSw); go_simp <;> with_reducible rfl); (try simp only [Act.put, List.setIfInBounds_toArray, List.set_cons_zero, List.set_cons_succ]))
  (refine take_at 7 17 (v := ?_) rfl rfl (by kernel_rfl) (by kernel_rfl) (by kernel_rfl) (fun _ _ _ h => h) (by rfl) ?_ (by assumption) ?_; rotate_left; focus (intro w999 hSw; (try dsimp only at hSw); go_simp <;> with_reducible rfl); (try simp only [Act.put, List.setIfInBounds_toArray, List.set_cons_zero, List.set_cons_succ]))
  (refine take_at 8 18 (v := ?_) rfl rfl (by kernel_rfl) (by kernel_rfl) (by kernel_rfl) (fun _ _ _ h => h) (by rfl) ?_ (by assumption) ?_; rotate_left; focus (intro w999 hSw; (try dsimp only at hSw); go_simp <;> with_reducible rfl); (try simp only [Act.put, List.setIfInBounds_toArray, List.set_cons_zero, List.set_cons_succ]))
  (refine take_at 9 19 (v := ?_) rfl rfl (by kernel_rfl) (by kernel_rfl) (by kernel_rfl) (fun _ _ _ h => h) (by rfl) ?_ (by assumption) ?_; rotate_left; focus (intro w999 hSw; (try dsimp only at hSw); go_simp <;> with_reducible rfl); (try simp only [Act.put, List.setIfInBounds_toArray, List.set_cons_zero, List.set_cons_succ]))
  (refine take_at 11 21 (v := ?_) rfl rfl (by kernel_rfl) (by kernel_rfl) (by kernel_rfl) (fun _ _ _ h => h) (by rfl) ?_ (by assumption) ?_; rotate_left; focus (intro w999 hSw; (try dsimp only at hSw); go_simp <;> with_reducible rfl); (try simp only [Act.put, List.setIfInBounds_toArray, List.set_cons_zero, List.set_cons_succ]))
  (refine wpAnyH_ready (rs := [10]) (by kernel_rfl) (by simp) ?_; refine AllReadyH.cons rfl (fun K hK => ?_) AllReadyH.nil; go_simp)
  refine (HL.out _ hr0.drew (max 1 (X + 2)) (by unfold I64; omega)).mono ?_
  rintro e w3 ⟨_, rfl, ⟨y1, rfl, y10, y11⟩, hd3⟩
  have hd33 : Dr g wb w3 := hr0.drew.trans hd3
  have hy1 : 0 ≤ y1 ∧ y1 ≤ 80 := by omega
  clear y10 y11 hd3
  (refine hK.out _ _ ?_ (fun hHeld => ?_))
  · exact HS.out _ hd33
  (clear hK K; try simp only [Act.put, List.setIfInBounds_toArray, List.set_cons_zero, List.set_cons_succ])
  (refine wpAnyH_ready (rs := [12]) (by kernel_rfl) (by simp) ?_; refine AllReadyH.cons rfl (fun K hK => ?_) AllReadyH.nil; go_simp)
  refine (HL.out _ hd33 20 (by unfold I64; omega)).mono ?_
  rintro e w7 ⟨_, rfl, ⟨y2, rfl, y20, y21⟩, hd7⟩
  have hd77 : Dr g wb w7 := hd33.trans hd7
  have hy2 : 0 ≤ y2 ∧ y2 ≤ 20 := by omega
  have htd : y2.tdiv 19 = y2 / 19 := Int.tdiv_eq_ediv_of_nonneg y20
  have hwq : IntKind.i64.wrap (y2 / 19) = y2 / 19 := IntWalk.i64_in _ (by omega)
  have hws : IntKind.i64.wrap (y1 - y2 / 19) = y1 - y2 / 19 := IntWalk.i64_in _ (by omega)
  clear y20 y21 hd7
  have hy7 : I64 (y1 - y2 / 19) := by unfold I64; omega
  have HY := Lib.hid hy7
  have HX : Hid (Ext w (((((w7.setCell ⟨w.heap.size, 0, none⟩ (.int .i64 mk.c)).setCell ⟨w.heap.size, 1, none⟩ (.int .i64 mk.d)).setCell ⟨w.heap.size, 2, none⟩ (.int .i64 mk.s)).setCell ⟨w.heap.size, 3, none⟩ (.int .i64 mk.m)).setCell ⟨w.heap.size, 4, none⟩ (.int .i64 mk.l))) := ext_put5 (Below.trans HE1.out ((HD.out.trans hd77).back hwg')) (Nat.le_refl _) _ _ _ _ _
  obtain ⟨⟨r0, r1, r2, r3, r4⟩, fz⟩ := HB.out.dr hd77 hwg
  have f0 := fz 0
  have f1 := fz 1
  have f2 := fz 2
  have f3 := fz 3
  have f4 := fz 4
  have HCp : Hid (MkAt (((((w7.setCell ⟨w.heap.size, 0, none⟩ (.int .i64 mk.c)).setCell ⟨w.heap.size, 1, none⟩ (.int .i64 mk.d)).setCell ⟨w.heap.size, 2, none⟩ (.int .i64 mk.s)).setCell ⟨w.heap.size, 3, none⟩ (.int .i64 mk.m)).setCell ⟨w.heap.size, 4, none⟩ (.int .i64 mk.l)) b mk) := (HS.out _ hd77).put5 hwb'' _ _ _ _ _
  clear fz
  (refine hK.out _ _ ?_ (fun hHeld => ?_))
  · exact HS.out _ hd77
  (clear hK K; try simp only [Act.put, List.setIfInBounds_toArray, List.set_cons_zero, List.set_cons_succ])
  (refine take_at 13 23 (v := ?_) rfl rfl (by kernel_rfl) (by kernel_rfl) (by kernel_rfl) (fun _ _ _ h => h) (by rfl) ?_ (by assumption) ?_; rotate_left; focus (intro w999 hSw; (try dsimp only at hSw); go_simp <;> with_reducible rfl); (try simp only [Act.put, List.setIfInBounds_toArray, List.set_cons_zero, List.set_cons_succ]))
  (refine take_at 14 24 (v := ?_) rfl rfl (by kernel_rfl) (by kernel_rfl) (by kernel_rfl) (fun _ _ _ h => h) (by rfl) ?_ (by assumption) ?_; rotate_left; focus (intro w999 hSw; (try dsimp only at hSw); go_simp <;> with_reducible rfl); (try simp only [Act.put, List.setIfInBounds_toArray, List.set_cons_zero, List.set_cons_succ]))
  (refine wpAnyH_ready (rs := [15]) (by kernel_rfl) (by simp) ?_; refine AllReadyH.cons rfl (fun K hK => ?_) AllReadyH.nil; go_simp)
  (refine hK.out _ _ ?_ (fun hHeld => ?_))
  · exact HCp.out
  (clear hK K; try simp only [Act.put, List.setIfInBounds_toArray, List.set_cons_zero, List.set_cons_succ])
  (refine take_at 16 3 (v := ?_) rfl rfl (by kernel_rfl) (by kernel_rfl) (by kernel_rfl) (fun _ _ _ h => h) (by rfl) ?_ (by assumption) ?_; rotate_left; focus (intro w999 hSw; (try dsimp only at hSw); go_simp <;> with_reducible rfl); (try simp only [Act.put, List.setIfInBounds_toArray, List.set_cons_zero, List.set_cons_succ]))
  refine wpAnyH_done (by kernel_rfl) ?_ _
  refine NoPanic.normal ?_
  go_wp2_with fail
  refine bodyPost_ret (v := .tuple #[.agg #[.int .i64 mk.c, .int .i64 mk.d, .int .i64 mk.s, .int .i64 mk.m, .int .i64 mk.l], .int .i64 (y1 - y2 / 19)]) (by simp [results, Tryz.results10, go_sem, r0, r1, r2, r3, r4]) rfl ⟨_, rfl, ⟨mk, _, rfl, HY.out⟩, HX.out⟩

set_option maxRecDepth 20000 in
set_option maxHeartbeats 2000000 in
theorem DrawSpareKeys_c (w : World) (vb : Value) (zb : Zone) (xs : List Int) (h : BytesR zb w vb xs) : Calls Tryz.prog 58 #[vb] w (Ret w (SysA w)) := by
  have R0 := res_new w 32
  have e0 : Ext w (w.alloc (.cells #[.int .i64 0, .int .i64 0, .int .i64 0, .int .i64 0, .int .i64 0, .slice none 0 0] 32)) := Ext.alloc _ _
  have hsz0 : (w.alloc (.cells #[.int .i64 0, .int .i64 0, .int .i64 0, .int .i64 0, .int .i64 0, .slice none 0 0] 32)).heap.size = w.heap.size + 1 := by simp
  have hcall := l01From_c _ vb zb xs (stable_bytes.ext h e0)
  obtain ⟨ab, nb, kb, rfl, -⟩ := BytesR.shape h
  clear h
  go_enter Tryz.func58, Tryz.ntmps58
  go_wp2_with fail
  generalize w.alloc (.cells #[.int .i64 0, .int .i64 0, .int .i64 0, .int .i64 0, .int .i64 0, .slice none 0 0] 32) = w0 at *
  refine Calls.mono hcall ?_
  rintro e w1 hr
  obtain ⟨_, rfl, ⟨g, hg, rfl, hsrc⟩, e1⟩ := ret_ext hr
  clear hr hcall
  have hwg : w.heap.size ≠ g := by omega
  have hwg' : w.heap.size ≤ g := by omega
  have R1 := R0.ext e1
  have HE1 := Lib.hid (e0.trans e1)
  have hs1 := e1.size
  have hw1 : w.heap.size < w1.heap.size := by omega
  have hg1 : g < w1.heap.size := hsrc.lt
  have hcall := l01Next_c w1 g hsrc 2 (by unfold I64; omega)
  clear R0 e0 e1 hsz0 hs1 hg hsrc
  go_wp2_with fail
  refine Calls.mono hcall ?_
  rintro e w2 ⟨_, rfl, ⟨x, rfl, hx0, hx1⟩, hd2⟩
  clear hcall
  have R2 := R1.dr hd2 hwg
  have hs2 := hd2.size
  have hw2 : w.heap.size < w2.heap.size := by omega
  clear R1
  by_cases e0 : x = 0
  · subst e0
    have hcall := l19DrawSystem_c w2 g hd2.src
    go_wp2_with fail
    refine Calls.mono hcall ?_
    rintro e w3 ⟨_, rfl, ⟨mk, v, t, rfl, ht⟩, hd3⟩
    clear hcall
    obtain ⟨a, n, k, rfl, -⟩ := SliceR.shape ht
    have HD := Lib.hid (hd2.trans hd3)
    have HT' := Lib.hid ht
    obtain ⟨r0, r1, r2, r3, r4, r5, f0, f1, f2, f3, f4, f5⟩ := R2.dr hd3 hwg
    unfold sysV
    clear ht hd2 hd3 R2
    go_wp2_with fail
    refine bodyPost_ret (v := .agg #[.int .i64 mk.c, .int .i64 mk.d, .int .i64 mk.s, .int .i64 mk.m, .int .i64 mk.l, .slice a n k]) (by simp [results, Tryz.results58, go_sem, r0, r1, r2, r3, r4, r5]) rfl ⟨_, rfl, ⟨mk, _, t, rfl, rows_put6 HT'.out hw2 _ _ _ _ _ _⟩, ext_put6 (Below.trans HE1.out (HD.out.back hwg')) (Nat.le_refl _) _ _ _ _ _ _⟩
  · have b0 : (x == 0) = false := by simpa using e0
    have hcall := l15Draw_c w2 g hd2.src
    go_wp2_with fail
    refine Calls.mono hcall ?_
    rintro e w3 ⟨_, rfl, ⟨mk, v, t, u, cuts, rfl, -, ht, -, -, -, -⟩, hd3⟩
    clear hcall
    obtain ⟨a, n, k, rfl, -⟩ := SliceR.shape ht
    have R3 := R2.dr hd3 hwg
    have hs3 := hd3.size
    unfold sysV
    go_upto_region 5 with fail
    generalize hwb : World.alloc w3 _ = wb
    obtain ⟨eb, Sb⟩ := sys_box hwb
    have HD := Lib.hid (hd2.trans (show Dr g w2 wb by rw [← hwb]; exact hd3.alloc _))
    have HT' : Hid (RowsR ⟨w2.heap.size, wb.heap.size, false⟩ wb (.slice a n k) t) := by rw [← hwb]; exact rows_alloc ht
    clear hwb
    obtain ⟨b, hb⟩ : ∃ b, w3.heap.size = b := ⟨_, rfl⟩
    rw [hb] at Sb ⊢
    have hwb' : w.heap.size ≠ b := by omega
    have hwb'' : b ≠ w.heap.size := by omega
    obtain ⟨c0, c1, c2, c3, c4, c5⟩ := Sb
    obtain ⟨r0, r1, r2, r3, r4, r5, f0, f1, f2, f3, f4, f5⟩ := R3.ext eb
    clear ht hd2 hd3 R2 R3 eb hb hs3
    go_wp2_with fail
    refine bodyPost_ret (v := .agg #[.int .i64 mk.c, .int .i64 mk.d, .int .i64 mk.s, .int .i64 mk.m, .int .i64 mk.l, .slice a n k]) (by simp [results, Tryz.results58, go_sem, r0, r1, r2, r3, r4, r5]) rfl ⟨_, rfl, ⟨mk, _, t, rfl, rows_put6 HT'.out hw2 _ _ _ _ _ _⟩, ext_put6 (Below.trans HE1.out (HD.out.back hwg')) (Nat.le_refl _) _ _ _ _ _ _⟩

set_option maxRecDepth 20000 in
set_option maxHeartbeats 1000000 in
theorem DrawLeastWafers_c (w : World) (vb : Value) (zb : Zone) (xs : List Int) (h : BytesR zb w vb xs) : Calls Tryz.prog 13 #[vb] w (Ret w (SysA w)) := by
  have R0 := res_new w 32
  have e0 : Ext w (w.alloc (.cells #[.int .i64 0, .int .i64 0, .int .i64 0, .int .i64 0, .int .i64 0, .slice none 0 0] 32)) := Ext.alloc _ _
  have hsz0 : (w.alloc (.cells #[.int .i64 0, .int .i64 0, .int .i64 0, .int .i64 0, .int .i64 0, .slice none 0 0] 32)).heap.size = w.heap.size + 1 := by simp
  have hcall := DrawSpareKeys_c _ vb zb xs (stable_bytes.ext h e0)
  obtain ⟨ab, nb, kb, rfl, -⟩ := BytesR.shape h
  clear h
  go_enter Tryz.func13, Tryz.ntmps13
  go_wp2_with fail
  generalize w.alloc (.cells #[.int .i64 0, .int .i64 0, .int .i64 0, .int .i64 0, .int .i64 0, .slice none 0 0] 32) = w0 at *
  refine Calls.mono hcall ?_
  rintro e w1 hr
  obtain ⟨_, rfl, ⟨mk, v, t, rfl, ht⟩, e1⟩ := ret_ext hr
  clear hr hcall
  obtain ⟨a, n, k, rfl, -⟩ := SliceR.shape ht
  have hw1 : w.heap.size < w0.heap.size := by omega
  obtain ⟨r0, r1, r2, r3, r4, r5, f0, f1, f2, f3, f4, f5⟩ := R0.ext e1
  have HE := Lib.hid (e0.trans e1)
  have HX := Lib.hid ht
  unfold sysV
  clear ht R0 e0 e1 hsz0
  go_wp2_with fail
  refine bodyPost_ret (v := .agg #[.int .i64 mk.c, .int .i64 mk.d, .int .i64 mk.s, .int .i64 mk.m, .int .i64 mk.l, .slice a n k]) (by simp [results, Tryz.results13, go_sem, r0, r1, r2, r3, r4, r5]) rfl ⟨_, rfl, ⟨mk, _, t, rfl, rows_put6 HX.out hw1 _ _ _ _ _ _⟩, ext_put6 HE.out (Nat.le_refl _) _ _ _ _ _ _⟩
end Go.Proofs.YthgmojggpjnckaaGreat
