/- Proved: the laws' own helpers for a system (size, copy, equality, marks) do what their names say. -/
import Derived.Test.YtgagjibjnaappaaChecked
import Derived.Test.YtgagjibjnaappaaUSys
import Derived.Test.YtgagjibjnaappaaULawRows
import Derived.Test.YtgagjibjnaappaaUMarkRows
namespace Go.Proofs.Ytgagjibjnaappaa
open Go.ChangeShapes Go.WideShapes Go.ChangeAt Go.RowKit
set_option linter.unusedVariables false

set_option maxRecDepth 40000 in
set_option maxHeartbeats 2000000 in
theorem toMaker_c (w : World) (mk : MK) : Calls Try.prog 51 #[mk.v] w (Ret w fun r _ => r = mk.v) := by
  obtain ⟨c, d, s, m, l⟩ := mk
  unfold MK.v
  simp only
  go_enter Try.func51, Try.ntmps51
  go_wp2_with fail
  refine bodyPost_ret (v := .agg #[.int .i64 c, .int .i64 d, .int .i64 s, .int .i64 m, .int .i64 l]) (by simp [results, Try.results51, go_sem]) rfl ⟨_, rfl, rfl, ?_⟩
  exact ((Ext.alloc _ _).trans (Ext.alloc _ _)).trans (Ext.alloc _ _)

set_option maxRecDepth 40000 in
set_option maxHeartbeats 2000000 in
theorem toSystem_c (w : World) (mk : MK) (v : Value) (z : Zone) (t : List (List Int)) (h : RowsR z w v t) (hs : bulk t ≤ 1048576) :
    Calls Try.prog 16 #[sysV mk v] w (Ret w fun r w' => ∃ u, r = sysV mk u ∧ RowsR (.new w w') w' u t) := by
  have HC1 := Lib.hid (fun w' => toMaker_c w' mk)
  have HC2 := Lib.hid (fun (w' : World) (e : Ext w w') => toInt64SS_c w' v z t (stable_rows.ext h e) hs)
  obtain ⟨a, n, cap, rfl, -⟩ := SliceR.shape h
  clear h
  unfold sysV MK.v at *
  go_enter Try.func16, Try.ntmps16
  go_wp2_with fail
  generalize hw0 : World.alloc _ _ = w0
  have e0 : Ext w w0 := by rw [← hw0]; exact ((Ext.alloc _ _).trans (Ext.alloc _ _)).trans (Ext.alloc _ _)
  have hz0 : w0.heap.size = w.heap.size + 3 := by rw [← hw0]; simp
  have c5 : w0.cell? ⟨w.heap.size, 5, none⟩ = some (.slice a n cap) := by rw [← hw0]; clear hw0; go_simp
  have B1 : w0.heap[w.heap.size + 1]? = some (.cells #[.int .i64 0, .int .i64 0, .int .i64 0, .int .i64 0, .int .i64 0, .slice none 0 0] 34 (0, 0)) := by
    rw [← hw0]
    refine (Below.block (Ext.alloc _ _) (w.heap.size + 1) (by simp)).trans ?_
    have := heap_alloc_new (w.alloc (.cells #[.int .i64 mk.c, .int .i64 mk.d, .int .i64 mk.s, .int .i64 mk.m, .int .i64 mk.l, .slice a n cap] 26)) (.cells #[.int .i64 0, .int .i64 0, .int .i64 0, .int .i64 0, .int .i64 0, .slice none 0 0] 34)
    rw [World.size_alloc] at this
    exact this
  have B2 : w0.heap[w.heap.size + 1 + 1]? = some (.cells #[.int .i64 0, .int .i64 0, .int .i64 0, .int .i64 0, .int .i64 0, .slice none 0 0] 34 (0, 0)) := by
    rw [← hw0]
    have := heap_alloc_new ((w.alloc (.cells #[.int .i64 mk.c, .int .i64 mk.d, .int .i64 mk.s, .int .i64 mk.m, .int .i64 mk.l, .slice a n cap] 26)).alloc (.cells #[.int .i64 0, .int .i64 0, .int .i64 0, .int .i64 0, .int .i64 0, .slice none 0 0] 34)) (.cells #[.int .i64 0, .int .i64 0, .int .i64 0, .int .i64 0, .int .i64 0, .slice none 0 0] 34)
    rw [World.size_alloc, World.size_alloc] at this
    exact this
  clear hw0
  refine Calls.mono (HC1.out w0) ?_
  rintro e w1 hr
  obtain ⟨r, rfl, rfl, e1⟩ := ret_ext hr
  clear hr
  replace B1 := (Below.block e1 (w.heap.size + 1) (by omega)).trans B1
  replace B2 := (Below.block e1 (w.heap.size + 1 + 1) (by omega)).trans B2
  replace c5 := e1.cell c5
  have a0 := cell_of_row w1 _ 0 _ _ _ B1
  have a1 := cell_of_row w1 _ 1 _ _ _ B1
  have a2 := cell_of_row w1 _ 2 _ _ _ B1
  have a3 := cell_of_row w1 _ 3 _ _ _ B1
  have a4 := cell_of_row w1 _ 4 _ _ _ B1
  have a5 := cell_of_row w1 _ 5 _ _ _ B1
  have b0 := cell_of_row w1 _ 0 _ _ _ B2
  have b1 := cell_of_row w1 _ 1 _ _ _ B2
  have b2 := cell_of_row w1 _ 2 _ _ _ B2
  have b3 := cell_of_row w1 _ 3 _ _ _ B2
  have b4 := cell_of_row w1 _ 4 _ _ _ B2
  have b5 := cell_of_row w1 _ 5 _ _ _ B2
  have f0 := frozen_of_row w1 _ 0 _ _ B1
  have f1 := frozen_of_row w1 _ 1 _ _ B1
  have f2 := frozen_of_row w1 _ 2 _ _ B1
  have f3 := frozen_of_row w1 _ 3 _ _ B1
  have f4 := frozen_of_row w1 _ 4 _ _ B1
  have f5 := frozen_of_row w1 _ 5 _ _ B1
  have g0 := frozen_of_row w1 _ 0 _ _ B2
  have g1 := frozen_of_row w1 _ 1 _ _ B2
  have g2 := frozen_of_row w1 _ 2 _ _ B2
  have g3 := frozen_of_row w1 _ 3 _ _ B2
  have g4 := frozen_of_row w1 _ 4 _ _ B2
  have g5 := frozen_of_row w1 _ 5 _ _ B2
  simp only [List.getElem?_toArray, List.getElem?_cons_zero, List.getElem?_cons_succ] at a0 a1 a2 a3 a4 a5 b0 b1 b2 b3 b4 b5
  have Hz := Lib.hid hz0
  clear hz0 B1 B2
  go_wp2_with fail
  generalize hwS : World.setCell _ _ _ = wS
  have hsS : wS.heap.size = w1.heap.size := by rw [← hwS]; simp [World.setCell]
  have wiS : Within ⟨w.heap.size + 1, w.heap.size + 3, true⟩ w1 wS := by
    rw [← hwS]
    exact (((((Within.refl _ w1).setCell ⟨by simp only; omega, by simp only; omega⟩ _).setCell ⟨by simp only; omega, by simp only; omega⟩ _).setCell ⟨by simp only; omega, by simp only; omega⟩ _).setCell ⟨by simp only; omega, by simp only; omega⟩ _).setCell ⟨by simp only; omega, by simp only; omega⟩ _
  have d0 : wS.cell? ⟨w.heap.size + 1 + 1, 0, none⟩ = some (.int .i64 mk.c) := by rw [← hwS]; clear hwS; go_simp
  have d1 : wS.cell? ⟨w.heap.size + 1 + 1, 1, none⟩ = some (.int .i64 mk.d) := by rw [← hwS]; clear hwS; go_simp
  have d2 : wS.cell? ⟨w.heap.size + 1 + 1, 2, none⟩ = some (.int .i64 mk.s) := by rw [← hwS]; clear hwS; go_simp
  have d3 : wS.cell? ⟨w.heap.size + 1 + 1, 3, none⟩ = some (.int .i64 mk.m) := by rw [← hwS]; clear hwS; go_simp
  have d4 : wS.cell? ⟨w.heap.size + 1 + 1, 4, none⟩ = some (.int .i64 mk.l) := by rw [← hwS]; clear hwS; go_simp
  have d5 : wS.cell? ⟨w.heap.size + 1 + 1, 5, none⟩ = some (.slice none 0 0) := by rw [← hwS]; clear hwS; go_simp
  have r0 : wS.cell? ⟨w.heap.size + 1, 0, none⟩ = some (.int .i64 0) := by rw [← hwS]; clear hwS; go_simp
  have r1 : wS.cell? ⟨w.heap.size + 1, 1, none⟩ = some (.int .i64 0) := by rw [← hwS]; clear hwS; go_simp
  have r2 : wS.cell? ⟨w.heap.size + 1, 2, none⟩ = some (.int .i64 0) := by rw [← hwS]; clear hwS; go_simp
  have r3 : wS.cell? ⟨w.heap.size + 1, 3, none⟩ = some (.int .i64 0) := by rw [← hwS]; clear hwS; go_simp
  have r4 : wS.cell? ⟨w.heap.size + 1, 4, none⟩ = some (.int .i64 0) := by rw [← hwS]; clear hwS; go_simp
  have r5 : wS.cell? ⟨w.heap.size + 1, 5, none⟩ = some (.slice none 0 0) := by rw [← hwS]; clear hwS; go_simp
  have k0 : wS.frozen? ⟨w.heap.size + 1, 0, none⟩ = false := by rw [← hwS]; clear hwS; go_simp
  have k1 : wS.frozen? ⟨w.heap.size + 1, 1, none⟩ = false := by rw [← hwS]; clear hwS; go_simp
  have k2 : wS.frozen? ⟨w.heap.size + 1, 2, none⟩ = false := by rw [← hwS]; clear hwS; go_simp
  have k3 : wS.frozen? ⟨w.heap.size + 1, 3, none⟩ = false := by rw [← hwS]; clear hwS; go_simp
  have k4 : wS.frozen? ⟨w.heap.size + 1, 4, none⟩ = false := by rw [← hwS]; clear hwS; go_simp
  have k5 : wS.frozen? ⟨w.heap.size + 1, 5, none⟩ = false := by rw [← hwS]; clear hwS; go_simp
  have k6 : wS.frozen? ⟨w.heap.size + 1 + 1, 5, none⟩ = false := by rw [← hwS]; clear hwS; go_simp
  clear hwS
  have hs1 := e1.size
  have et1 := e0.trans e1
  have eS : Ext w wS := Below.trans et1 (wiS.below (Nat.le_succ _))
  have hzS : w.heap.size + 3 ≤ wS.heap.size := by have := Hz.out; omega
  clear a0 a1 a2 a3 a4 a5 b0 b1 b2 b3 b4 b5 f0 f1 f2 f3 f4 f5 g0 g1 g2 g3 g4 g5 wiS hsS
  refine Calls.mono (HC2.out wS eS) ?_
  rintro e w2 hr
  obtain ⟨u, rfl, hu, e2⟩ := ret_ext hr
  clear hr
  replace d0 := e2.cell d0
  replace d1 := e2.cell d1
  replace d2 := e2.cell d2
  replace d3 := e2.cell d3
  replace d4 := e2.cell d4
  replace d5 := e2.cell d5
  replace r0 := e2.cell r0
  replace r1 := e2.cell r1
  replace r2 := e2.cell r2
  replace r3 := e2.cell r3
  replace r4 := e2.cell r4
  replace r5 := e2.cell r5
  replace k0 := (Below.frozen (p := ⟨w.heap.size + 1, 0, none⟩) e2 (by show w.heap.size + 1 < _; omega)).trans k0
  replace k1 := (Below.frozen (p := ⟨w.heap.size + 1, 1, none⟩) e2 (by show w.heap.size + 1 < _; omega)).trans k1
  replace k2 := (Below.frozen (p := ⟨w.heap.size + 1, 2, none⟩) e2 (by show w.heap.size + 1 < _; omega)).trans k2
  replace k3 := (Below.frozen (p := ⟨w.heap.size + 1, 3, none⟩) e2 (by show w.heap.size + 1 < _; omega)).trans k3
  replace k4 := (Below.frozen (p := ⟨w.heap.size + 1, 4, none⟩) e2 (by show w.heap.size + 1 < _; omega)).trans k4
  replace k5 := (Below.frozen (p := ⟨w.heap.size + 1, 5, none⟩) e2 (by show w.heap.size + 1 < _; omega)).trans k5
  replace k6 := (Below.frozen (p := ⟨w.heap.size + 1 + 1, 5, none⟩) e2 (by show w.heap.size + 1 + 1 < _; omega)).trans k6
  obtain ⟨sa, sn, sc, rfl, -⟩ := SliceR.shape hu
  have Hu := Lib.hid hu
  clear hu
  have hs2 := e2.size
  go_wp2_with fail
  generalize hwF : World.setCell _ _ _ = wF
  have wiF : Within ⟨w.heap.size + 1, w.heap.size + 3, true⟩ w2 wF := by
    rw [← hwF]
    exact (((((((Within.refl _ w2).setCell ⟨by simp only; omega, by simp only; omega⟩ _).setCell ⟨by simp only; omega, by simp only; omega⟩ _).setCell ⟨by simp only; omega, by simp only; omega⟩ _).setCell ⟨by simp only; omega, by simp only; omega⟩ _).setCell ⟨by simp only; omega, by simp only; omega⟩ _).setCell ⟨by simp only; omega, by simp only; omega⟩ _).setCell ⟨by simp only; omega, by simp only; omega⟩ _
  have y0 : wF.cell? ⟨w.heap.size + 1, 0, none⟩ = some (.int .i64 mk.c) := by rw [← hwF]; clear hwF; go_simp
  have y1 : wF.cell? ⟨w.heap.size + 1, 1, none⟩ = some (.int .i64 mk.d) := by rw [← hwF]; clear hwF; go_simp
  have y2 : wF.cell? ⟨w.heap.size + 1, 2, none⟩ = some (.int .i64 mk.s) := by rw [← hwF]; clear hwF; go_simp
  have y3 : wF.cell? ⟨w.heap.size + 1, 3, none⟩ = some (.int .i64 mk.m) := by rw [← hwF]; clear hwF; go_simp
  have y4 : wF.cell? ⟨w.heap.size + 1, 4, none⟩ = some (.int .i64 mk.l) := by rw [← hwF]; clear hwF; go_simp
  have y5 : wF.cell? ⟨w.heap.size + 1, 5, none⟩ = some (.slice sa sn sc) := by rw [← hwF]; clear hwF; go_simp
  clear hwF
  refine bodyPost_ret (v := .agg #[.int .i64 mk.c, .int .i64 mk.d, .int .i64 mk.s, .int .i64 mk.m, .int .i64 mk.l, .slice sa sn sc]) (by simp [results, Try.results16, go_sem, y0, y1, y2, y3, y4, y5]) rfl ⟨_, rfl, ⟨_, rfl, ?_⟩, ?_⟩
  · have hsF := wiF.size
    exact stable_rows.sub (stable_rows.within Hu.out wiF (fun k h1 h2 => by have q1 := h1.1; have q2 := h2.2; simp only [Zone.new] at q1 q2; omega)) ⟨fun k hk => ⟨by have q1 := hk.1; simp only [Zone.new] at *; omega, by have q2 := hk.2; simp only [Zone.new] at *; omega⟩, fun _ => rfl⟩
  · exact Below.trans (Below.trans eS (Below.mono e2 (Ext.size eS))) (wiF.below (Nat.le_succ _))

set_option maxHeartbeats 400000 in
theorem szSystem_c (w : World) (mk : MK) (v : Value) (z : Zone) (t : List (List Int)) (l : Int) (h : RowsR z w v t) (h0 : 0 ≤ l) (h1 : l ≤ 1048576) :
    Calls Try.prog 13 #[sysV mk v, .int .i64 l] w (Ret w fun r _ => r = .int .i64 (szLeft l (bulk t))) := by
  have HC := Lib.hid (fun (w' : World) (e : Ext w w') => szInt64SS_c w' v z t l (stable_rows.ext h e) h0 h1)
  obtain ⟨a, n, cap, rfl, -⟩ := SliceR.shape h
  clear h
  unfold sysV
  go_enter Try.func13, Try.ntmps13
  go_wp2_with fail
  generalize hw0 : World.alloc _ _ = w0
  obtain ⟨e0, S0⟩ := sys_box hw0
  clear hw0
  have hcall := HC.out w0 e0
  by_cases hs : l < bulk t
  · have HS := Lib.hid (szLeft_neg hs)
    rw [HS.out] at hcall
    refine Calls.mono hcall ?_
    rintro e w2 ⟨rfl, hd⟩
    go_wp2_with fail
    go_ret
    exact ⟨_, rfl, congrArg (Value.int .i64) HS.out.symm, e0.trans (Ext.ofDrew hd)⟩
  · have HS := Lib.hid (szLeft_pos hs)
    rw [HS.out] at hcall
    have hge : 0 ≤ l - (bulk t : Int) := by omega
    generalize l - (bulk t : Int) = m at *
    refine Calls.mono hcall ?_
    rintro e w2 ⟨rfl, hd⟩
    go_wp2_with fail
    go_ret
    exact ⟨_, rfl, congrArg (Value.int .i64) HS.out.symm, e0.trans (Ext.ofDrew hd)⟩

set_option maxHeartbeats 400000 in
theorem eqMaker_c (w : World) (mk : MK) : Calls Try.prog 55 #[mk.v, mk.v] w (Ret w fun r _ => r = .bool true) := by
  obtain ⟨c, d, s, m, l⟩ := mk
  unfold MK.v
  simp only
  go_enter Try.func55, Try.ntmps55
  go_wp2_with fail
  go_ret
  exact ⟨_, rfl, rfl, (Ext.alloc _ _).trans (Ext.alloc _ _)⟩

set_option maxHeartbeats 800000 in
theorem eqSystem_c (w : World) (mk : MK) (u v : Value) (y z : Zone) (t : List (List Int)) (h1 : RowsR y w u t) (h2 : RowsR z w v t) :
    Calls Try.prog 20 #[sysV mk u, sysV mk v] w (Ret w fun r _ => r = .bool true) := by
  have HC1 := Lib.hid (fun w' => eqMaker_c w' mk)
  have HC2 : Hid (∀ (w' : World), Ext w w' → Calls Try.prog 21 #[u, v] w' (RetQ w' (.bool true))) := fun w' e => (Calls.vq (eqInt64SS_c w' u v y z t t (stable_rows.ext h1 e) (stable_rows.ext h2 e)) (congrArg Value.bool (decide_eq_true rfl)))
  obtain ⟨a1, n1, k1, rfl, -⟩ := SliceR.shape h1
  obtain ⟨a2, n2, k2, rfl, -⟩ := SliceR.shape h2
  clear h1 h2
  unfold sysV MK.v at *
  go_enter Try.func20, Try.ntmps20
  go_wp2_with fail
  generalize hw0 : World.alloc _ _ = w0
  have e0 : Ext w w0 := by rw [← hw0]; exact (Ext.alloc _ _).trans (Ext.alloc _ _)
  have c5 : w0.cell? ⟨w.heap.size, 5, none⟩ = some (.slice a1 n1 k1) := by rw [← hw0]; clear hw0; go_simp
  have d5 : w0.cell? ⟨w.heap.size + 1, 5, none⟩ = some (.slice a2 n2 k2) := by rw [← hw0]; clear hw0; go_simp
  clear hw0
  refine Calls.mono (HC1.out w0) ?_
  rintro e w1 hr
  obtain ⟨r, rfl, rfl, e1⟩ := ret_ext hr
  clear hr
  replace c5 := e1.cell c5
  replace d5 := e1.cell d5
  have et := e0.trans e1
  have hcall := HC2.out w1 et
  go_wp2_with fail
  refine Calls.mono hcall ?_
  rintro e w2 ⟨rfl, hd⟩
  clear hcall
  go_wp2_with fail
  go_ret
  exact ⟨_, rfl, rfl, et.trans (Ext.ofDrew hd)⟩

/-- what markSystem leaves: a box more, and the table's numbers marked -/
def MarkSysPost (w : World) (z : Zone) (v : Value) (k : Int) (xss : List (List Int)) (e : Ending) (w' : World) : Prop :=
  e = .returned (.int .i64 (k + (offs xss xss.length : Int))) ∧ RowsR z w' v (markRows k xss) ∧ ∃ w1, Below w.heap.size w w1 ∧ Within z w1 w'
set_option maxHeartbeats 400000 in
theorem markSystem_c (w : World) (mk : MK) (v : Value) (z : Zone) (t : List (List Int)) (k0 : Int) (h : RowsR z w v t) (ho : z.own = true) (h0 : 0 ≤ k0) (h1 : k0 + (offs t t.length : Int) ≤ 4611686018427387904) :
    Calls Try.prog 25 #[sysV mk v, .int .i64 k0] w (MarkSysPost w z v k0 t) := by
  have hcall := fun (wq : World) (hb : Below w.heap.size w wq) => markInt64SS_c wq v z t k0 (stable_rows.below h hb) ho h0 h1
  obtain ⟨a, n, cap, rfl, -⟩ := SliceR.shape h
  clear h1
  unfold sysV
  generalize he : (Value.int .i64 (k0 + (offs t t.length : Int))) = r at *
  have HE := Lib.hid he
  clear he
  go_enter Try.func25, Try.ntmps25
  go_wp2_with fail
  generalize hw0 : World.alloc _ _ = w0
  obtain ⟨e0, S0⟩ := sys_box hw0
  clear hw0
  refine Calls.mono (hcall w0 e0) ?_
  rintro e w1 ⟨rfl, r1, hw1⟩
  go_wp2_with fail
  go_ret
  exact ⟨rfl, r1, w0, e0, hw1⟩
set_option maxHeartbeats 400000 in
theorem heldSystem_c (w : World) (mk : MK) (v : Value) (z : Zone) (t : List (List Int)) (k0 : Int) (h : RowsR z w v (markRows k0 t)) (h0 : 0 ≤ k0) (h1 : k0 + (offs t t.length : Int) ≤ 4611686018427387904) :
    Calls Try.prog 33 #[sysV mk v, .int .i64 k0] w (Ret w fun r _ => r = .int .i64 (k0 + (offs t t.length : Int))) := by
  have hcall := fun (wq : World) (hb : Ext w wq) => heldInt64SS_c wq v z t k0 (stable_rows.ext h hb) h0 h1
  have hge : 0 ≤ k0 + (offs t t.length : Int) := by omega
  obtain ⟨a, n, cap, rfl, -⟩ := SliceR.shape h
  clear h1 h
  unfold sysV
  generalize (k0 + (offs t t.length : Int)) = r at *
  go_enter Try.func33, Try.ntmps33
  go_wp2_with fail
  generalize hw0 : World.alloc _ _ = w0
  obtain ⟨e0, S0⟩ := sys_box hw0
  clear hw0
  refine Calls.mono (hcall w0 e0) ?_
  rintro e w1 ⟨rfl, hd⟩
  go_wp2_with fail
  go_ret
  exact ⟨_, rfl, rfl, e0.trans (Ext.ofDrew hd)⟩

/-! ### the helpers, the values written out -/
theorem toSystemA_c (w : World) (mk : MK) (v : Value) (z : Zone) (t : List (List Int)) (h : RowsR z w v t) (hs : bulk t ≤ 1048576) :
    Calls Try.prog 16 #[.agg #[.int .i64 mk.c, .int .i64 mk.d, .int .i64 mk.s, .int .i64 mk.m, .int .i64 mk.l, v]] w (Ret w fun r w' => ∃ u, r = .agg #[.int .i64 mk.c, .int .i64 mk.d, .int .i64 mk.s, .int .i64 mk.m, .int .i64 mk.l, u] ∧ RowsR (.new w w') w' u t) := toSystem_c w mk v z t h hs
theorem szSystemA_c (w : World) (mk : MK) (v : Value) (z : Zone) (t : List (List Int)) (l : Int) (h : RowsR z w v t) (h0 : 0 ≤ l) (h1 : l ≤ 1048576) :
    Calls Try.prog 13 #[.agg #[.int .i64 mk.c, .int .i64 mk.d, .int .i64 mk.s, .int .i64 mk.m, .int .i64 mk.l, v], .int .i64 l] w (Ret w fun r _ => r = .int .i64 (szLeft l (bulk t))) := szSystem_c w mk v z t l h h0 h1
theorem eqSystemA_c (w : World) (mk : MK) (u v : Value) (y z : Zone) (t : List (List Int)) (h1 : RowsR y w u t) (h2 : RowsR z w v t) :
    Calls Try.prog 20 #[.agg #[.int .i64 mk.c, .int .i64 mk.d, .int .i64 mk.s, .int .i64 mk.m, .int .i64 mk.l, u], .agg #[.int .i64 mk.c, .int .i64 mk.d, .int .i64 mk.s, .int .i64 mk.m, .int .i64 mk.l, v]] w (Ret w fun r _ => r = .bool true) := eqSystem_c w mk u v y z t h1 h2
theorem markSystemA_c (w : World) (mk : MK) (v : Value) (z : Zone) (t : List (List Int)) (k0 : Int) (h : RowsR z w v t) (ho : z.own = true) (h0 : 0 ≤ k0) (h1 : k0 + (offs t t.length : Int) ≤ 4611686018427387904) :
    Calls Try.prog 25 #[.agg #[.int .i64 mk.c, .int .i64 mk.d, .int .i64 mk.s, .int .i64 mk.m, .int .i64 mk.l, v], .int .i64 k0] w (MarkSysPost w z v k0 t) := markSystem_c w mk v z t k0 h ho h0 h1
theorem heldSystemA_c (w : World) (mk : MK) (v : Value) (z : Zone) (t : List (List Int)) (k0 : Int) (h : RowsR z w v (markRows k0 t)) (h0 : 0 ≤ k0) (h1 : k0 + (offs t t.length : Int) ≤ 4611686018427387904) :
    Calls Try.prog 33 #[.agg #[.int .i64 mk.c, .int .i64 mk.d, .int .i64 mk.s, .int .i64 mk.m, .int .i64 mk.l, v], .int .i64 k0] w (Ret w fun r _ => r = .int .i64 (k0 + (offs t t.length : Int))) := heldSystem_c w mk v z t k0 h h0 h1
theorem Within.cell {z : Zone} {w w' : World} (h : Within z w w') {p : Addr} (hp : ¬ z.Has p.block) : w'.cell? p = w.cell? p := World.cell?_of_block (h.block _ hp)
end Go.Proofs.Ytgagjibjnaappaa
