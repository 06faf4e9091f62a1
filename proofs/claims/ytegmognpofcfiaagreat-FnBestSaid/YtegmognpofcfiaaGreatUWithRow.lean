/- Proved: a system with a further row, program and reference. -/
import Derived.Test.YtegmognpofcfiaaGreatChecked
import Derived.Deep.RegionHeld3
import Derived.Test.YtegmognpofcfiaaGreatUPkE
import Derived.Test.YtegmognpofcfiaaGreatUPkC
import Derived.Test.YtegmognpofcfiaaGreatUPkB
namespace Go.Proofs.YtegmognpofcfiaaGreat
open Go.ChangeShapes Go.WideShapes Go.ChangeAt Go.RowKit
set_option linter.unusedVariables false

theorem OwnA.drop {α : Type} {A : Nat → Prop} {E : Repr α} {e : TypeId} {B : Nat} {w : World} {v : Value} {xs : List α} (h : OwnA true A E e B w v xs) : OwnA false A E e B w v xs := by
  obtain ⟨us, Z, hl, ho, h1, h2, h3⟩ := h
  exact ⟨us, Z, hl, ho, fun i hi => ⟨(fun h => by cases h), (h1 i hi).2⟩, (fun h => by cases h), h3⟩
/-- a copy of lists and a copy of a list, made one after the other, are joined -/
theorem run_join {P : Program} {e : TypeId} {base wa w7 wb w8 W : World} {v7 : Value} {xs : List (List Int)} {u : Option Addr × Nat × Nat} {y : List Int} (t ty : TypeId) (ht : P.underlying t = some (.slice e)) (hinfo : (P.info? e).map (fun i => (i.zero, i.size, i.bytes)) = some (some (.slice Option.none 0 0), 1, 24))
    (o7 : OwnR true wa.heap.size IntsR e wa.heap.size w7 v7 xs) (o8 : IntsR (.new wb w8) w8 (slV u) y) (hn : xs.length + 1 ≤ 1099511627776) (ha : Ext base wa) (hb : Ext base wb) (ha7 : Ext wa w7) (hb8 : Ext wb w8)
    (hor : (Ext w7 wb ∧ Ext w8 W) ∨ (Ext w8 wa ∧ Ext w7 W)) {g : Nat} (hg : W.cell? ⟨g, 0, Option.none⟩ = some (slV u)) :
    ∃ v' w', (Builtin.append_ #[t, t] ty #[v7, .slice (some ⟨g, 0, Option.none⟩) 1 1]).run P W = .ok v' w' ∧ (∃ a c, v' = .slice a (xs.length + 1) c ∧ RowsR ⟨base.heap.size, w'.heap.size, false⟩ w' v' (xs ++ [y]) ∧ Ext base w') := by
  have k1 := ha.size
  have k2 := hb.size
  have k3 := ha7.size
  have k4 := hb8.size
  have hW : Ext w7 W ∧ Ext w8 W := by
    rcases hor with ⟨h1, h2⟩ | ⟨h1, h2⟩
    · exact ⟨(h1.trans hb8).trans h2, h2⟩
    · exact ⟨h2, (h1.trans ha7).trans h2⟩
  have k5 := hW.1.size
  have k6 := hW.2.size
  have hbk := o7.block
  have hown : OwnA false (fun k => wa.heap.size ≤ k) IntsR e wa.heap.size W v7 xs := (OwnA.below stable_ints o7 hW.1).drop
  obtain ⟨v', w', hr, ho, hgr, -⟩ := run_appendRowsY (P := P) (w := W) (w0 := W) (ad := ⟨g, 0, Option.none⟩) (cap := 1) (ys := [y]) stable_ints t ty ht hinfo (A := fun k => base.heap.size ≤ k) (fun k _ h => Nat.le_trans k1 h) hown (Below.refl _ _) (fun _ => .new wb w8) (fun _ _ h => by cases h)
    (fun _ _ k hk => ⟨by have := hk.1; simp only [Zone.new] at this; omega, by have := hk.2; simp only [Zone.new] at this; omega, fun e => by
      have h1 := hbk k e
      have h2 := hk.1
      have h3 := hk.2
      simp only [Zone.new] at h2 h3
      rcases hor with ⟨h, -⟩ | ⟨h, -⟩
      · have := h.size; omega
      · have := h.size; omega⟩) (fun h => by cases h) (fun h => by cases h)
    (fun j hj => by
      have : j = 0 := by simpa using hj
      subst this
      exact ⟨u, by rw [Addr.add_lit]; exact hg, fun _ => stable_ints.ext o8 hW.2⟩) (by simp) (by unfold maxLen; omega) (by simpa using hn) (by omega)
  have hbe : Below wa.heap.size W w' := (Below.refl _ _).grown hgr (by omega) (fun k hk => (hbk k hk).1)
  obtain ⟨a, n, c, rfl, hl, -⟩ := ho.shape
  rw [List.length_append] at hl
  refine ⟨_, w', hr, a, c, by rw [hl]; rfl, OwnA.reads ho (fun k h => h) k1, ?_⟩
  exact Below.trans ((ha.trans ha7).trans hW.1) (Below.mono hbe k1)

set_option maxRecDepth 20000 in
set_option maxHeartbeats 600000 in
theorem withRow_c (w : World) (mk : MK) (v : Value) (z : Zone) (t : List (List Int)) (h : RowsR z w v t) (u : Value) (y : Zone) (row : List Int) (hr : IntsR y w u row) (hl : t.length ≤ 1000) (hrl : ∀ k, k < t.length → (t.getD k []).length ≤ 1000) (hrow : row.length ≤ 1000) :
    Calls Tryz.prog 126 #[sysV mk v, u] w (Ret w fun r w' => ∃ v', r = sysV mk v' ∧ RowsR ⟨w.heap.size, w'.heap.size, false⟩ w' v' (t ++ [row])) := by
  have HC1 := Lib.hid (fun (w' : World) (e : Ext w w') => copyLists_c w' v z t (stable_rows.ext h e) hl hrl)
  have HC2 := Lib.hid (fun (w' : World) (e : Ext w w') => Clone_c w' u y row (stable_ints.ext hr e) (Nat.le_trans hrow (by decide)))
  have HM := Lib.hid (IntsR.mem hr)
  have Hl : Hid (t.length + 1 ≤ 1099511627776) := by show _ ≤ _; omega
  obtain ⟨a, n, cap, rfl, -⟩ := SliceR.shape h
  obtain ⟨a2, n2, cap2, rfl, -⟩ := SliceR.shape hr
  clear h hr hl hrl hrow
  unfold sysV
  go_enter Tryz.func126, Tryz.ntmps126
  go_wp2_with fail
  generalize hw1 : World.alloc _ _ = w1
  obtain ⟨e1, HA, HK⟩ : Ext w w1 ∧ Hid (∀ w', Ext w1 w' → w'.cell? ⟨w.heap.size, 0, none⟩ = some (.int .i64 mk.c) ∧ w'.cell? ⟨w.heap.size, 1, none⟩ = some (.int .i64 mk.d) ∧ w'.cell? ⟨w.heap.size, 2, none⟩ = some (.int .i64 mk.s) ∧ w'.cell? ⟨w.heap.size, 3, none⟩ = some (.int .i64 mk.m) ∧ w'.cell? ⟨w.heap.size, 4, none⟩ = some (.int .i64 mk.l) ∧ w'.cell? ⟨w.heap.size, 5, none⟩ = some (.slice a n cap)) ∧
      Hid (∀ w', Ext w1 w' → (w'.cell? ⟨w.heap.size + 1, 0, none⟩ = some (.int .i64 0) ∧ w'.cell? ⟨w.heap.size + 1, 1, none⟩ = some (.int .i64 0) ∧ w'.cell? ⟨w.heap.size + 1, 2, none⟩ = some (.int .i64 0) ∧ w'.cell? ⟨w.heap.size + 1, 3, none⟩ = some (.int .i64 0) ∧ w'.cell? ⟨w.heap.size + 1, 4, none⟩ = some (.int .i64 0) ∧ w'.cell? ⟨w.heap.size + 1, 5, none⟩ = some (.slice none 0 0)) ∧
      (w'.frozen? ⟨w.heap.size + 1, 0, none⟩ = false ∧ w'.frozen? ⟨w.heap.size + 1, 1, none⟩ = false ∧ w'.frozen? ⟨w.heap.size + 1, 2, none⟩ = false ∧ w'.frozen? ⟨w.heap.size + 1, 3, none⟩ = false ∧ w'.frozen? ⟨w.heap.size + 1, 4, none⟩ = false ∧ w'.frozen? ⟨w.heap.size + 1, 5, none⟩ = false)) := by
    have hz : w1.heap.size = w.heap.size + 2 := by rw [← hw1]; simp
    refine ⟨by rw [← hw1]; exact (Ext.alloc _ _).trans (Ext.alloc _ _), fun w' e => ⟨e.cell ?_, e.cell ?_, e.cell ?_, e.cell ?_, e.cell ?_, e.cell ?_⟩, fun w' e => ⟨⟨e.cell ?_, e.cell ?_, e.cell ?_, e.cell ?_, e.cell ?_, e.cell ?_⟩, ?_⟩⟩
    case refine_13 => refine ⟨?_, ?_, ?_, ?_, ?_, ?_⟩ <;> (refine (Below.frozen e (by show w.heap.size + 1 < _; omega)).trans ?_; rw [← hw1]; clear e hz hw1 HC1 HC2 HM Hl; go_simp)
    all_goals (rw [← hw1]; clear e hz hw1 HC1 HC2 HM Hl; go_simp)
  have HZ : Hid (w1.heap.size = w.heap.size + 2) := by show _ = _; rw [← hw1]; simp
  clear hw1
  obtain ⟨c0, c1, c2, c3, c4, c5⟩ := HA.out w1 (Ext.refl _)
  go_region_held3 (fun w' => w'.cell? ⟨w.heap.size, 0, none⟩ = some (.int .i64 mk.c) ∧ w'.cell? ⟨w.heap.size, 1, none⟩ = some (.int .i64 mk.d) ∧ w'.cell? ⟨w.heap.size, 2, none⟩ = some (.int .i64 mk.s) ∧ w'.cell? ⟨w.heap.size, 3, none⟩ = some (.int .i64 mk.m) ∧ w'.cell? ⟨w.heap.size, 4, none⟩ = some (.int .i64 mk.l) ∧ w'.cell? ⟨w.heap.size, 5, none⟩ = some (.slice a n cap)) (first | (go_keep; done) | (exact HA.out _ (by repeat (first | exact Ext.refl _ | assumption | (refine Ext.trans ?_ (Ext.alloc _ _)) | (refine Ext.trans ?_ (Ext.drew _)) | (refine Ext.trans ?_ (by assumption)))))) (first | (go_at_call 113; (with_reducible refine (HC1.out _ (by repeat (first | exact Ext.refl _ | assumption | (refine Ext.trans ?_ (Ext.alloc _ _)) | (refine Ext.trans ?_ (Ext.drew _)) | (refine Ext.trans ?_ (by assumption))))).mono ?_); rintro e w7 hr7; obtain ⟨r7, rfl, o7, e7⟩ := ret_ext hr7; clear hr7; obtain ⟨a7, n7, k7, rfl, -⟩ := OwnA.shape o7) | (go_at_call 127; (with_reducible refine (HC2.out _ (by repeat (first | exact Ext.refl _ | assumption | (refine Ext.trans ?_ (Ext.alloc _ _)) | (refine Ext.trans ?_ (Ext.drew _)) | (refine Ext.trans ?_ (by assumption))))).mono ?_); rintro e w8 hr8; obtain ⟨r8, rfl, o8, e8⟩ := ret_ext hr8; clear hr8; obtain ⟨a8, n8, k8, rfl, -⟩ := o8.shape) | (refine step_append_of (by rfl) _ _ 26 (by rfl) (by rfl) (by rfl) (fun ty => run_join (u := (a8, n8, k8)) 26 ty Tryz.underlying26 Tryz.infoInts o7 (OwnP.ints o8 HM.out (Nat.le_refl _)) Hl.out (base := w1) (by repeat (first | exact Ext.refl _ | assumption | (refine Ext.trans ?_ (Ext.alloc _ _)) | (refine Ext.trans ?_ (Ext.drew _)) | (refine Ext.trans ?_ (by assumption)))) (by repeat (first | exact Ext.refl _ | assumption | (refine Ext.trans ?_ (Ext.alloc _ _)) | (refine Ext.trans ?_ (Ext.drew _)) | (refine Ext.trans ?_ (by assumption)))) e7 e8 (by first | exact .inl ⟨(by repeat (first | exact Ext.refl _ | assumption | (refine Ext.trans ?_ (Ext.alloc _ _)) | (refine Ext.trans ?_ (Ext.drew _)) | (refine Ext.trans ?_ (by assumption)))), (by repeat (first | exact Ext.refl _ | assumption | (refine Ext.trans ?_ (Ext.alloc _ _)) | (refine Ext.trans ?_ (Ext.drew _)) | (refine Ext.trans ?_ (by assumption))))⟩ | exact .inr ⟨(by repeat (first | exact Ext.refl _ | assumption | (refine Ext.trans ?_ (Ext.alloc _ _)) | (refine Ext.trans ?_ (Ext.drew _)) | (refine Ext.trans ?_ (by assumption)))), (by repeat (first | exact Ext.refl _ | assumption | (refine Ext.trans ?_ (Ext.alloc _ _)) | (refine Ext.trans ?_ (Ext.drew _)) | (refine Ext.trans ?_ (by assumption))))⟩) (by first | (simp [slV]; done) | (refine Ext.cell e7 ?_; simp [slV]; done))) ?_; intro v9 w9 h9; obtain ⟨a9, k9, rfl, x9, e9⟩ := h9; obtain ⟨⟨d0, d1, d2, d3, d4, d5⟩, ⟨f0, f1, f2, f3, f4, f5⟩⟩ := HK.out _ e9; clear o7 o8 e7 e8 c0 c1 c2 c3 c4 c5 Hl HC1 HC2 HM HK) | fail)
  generalize hwF : World.setCell _ _ _ = wF
  have hz := HZ.out
  have hz9 := e9.size
  have wiF : Within ⟨w.heap.size + 1, w.heap.size + 2, true⟩ w9 wF := by
    rw [← hwF]
    exact ((((((Within.refl _ w9).setCell ⟨by simp only; omega, by simp only; omega⟩ _).setCell ⟨by simp only; omega, by simp only; omega⟩ _).setCell ⟨by simp only; omega, by simp only; omega⟩ _).setCell ⟨by simp only; omega, by simp only; omega⟩ _).setCell ⟨by simp only; omega, by simp only; omega⟩ _).setCell ⟨by simp only; omega, by simp only; omega⟩ _
  have y0 : wF.cell? ⟨w.heap.size + 1, 0, none⟩ = some (.int .i64 mk.c) := by rw [← hwF]; clear hwF; go_simp
  have y1 : wF.cell? ⟨w.heap.size + 1, 1, none⟩ = some (.int .i64 mk.d) := by rw [← hwF]; clear hwF; go_simp
  have y2 : wF.cell? ⟨w.heap.size + 1, 2, none⟩ = some (.int .i64 mk.s) := by rw [← hwF]; clear hwF; go_simp
  have y3 : wF.cell? ⟨w.heap.size + 1, 3, none⟩ = some (.int .i64 mk.m) := by rw [← hwF]; clear hwF; go_simp
  have y4 : wF.cell? ⟨w.heap.size + 1, 4, none⟩ = some (.int .i64 mk.l) := by rw [← hwF]; clear hwF; go_simp
  have y5 : wF.cell? ⟨w.heap.size + 1, 5, none⟩ = some (.slice a9 (t.length + 1) k9) := by rw [← hwF]; clear hwF; go_simp
  clear hwF d0 d1 d2 d3 d4 d5 f0 f1 f2 f3 f4 f5
  go_wp2_with fail
  refine bodyPost_ret (v := .agg #[.int .i64 mk.c, .int .i64 mk.d, .int .i64 mk.s, .int .i64 mk.m, .int .i64 mk.l, .slice a9 (t.length + 1) k9]) (by simp [results, Tryz.results126, go_sem, y0, y1, y2, y3, y4, y5]) rfl ⟨_, rfl, ⟨_, rfl, ?_⟩, ?_⟩
  · have hsF := wiF.size
    exact stable_rows.sub (stable_rows.within x9 wiF (fun k h1 h2 => by have q1 := h1.1; have q2 := h2.2; simp only at q1 q2; omega)) ⟨fun k hk => ⟨by have q1 := hk.1; simp only at *; omega, by have q2 := hk.2; simp only at *; omega⟩, fun h => h⟩
  · exact Below.trans (Below.trans e1 (Below.mono e9 (Ext.size e1))) (wiF.below (Nat.le_succ _))

set_option maxRecDepth 20000 in
set_option maxHeartbeats 600000 in
theorem l24With_c (w : World) (mk : MK) (v : Value) (z : Zone) (t : List (List Int)) (h : RowsR z w v t) (u : Value) (y : Zone) (row : List Int) (hr : IntsR y w u row) (hl : t.length ≤ 1000) (hrl : ∀ k, k < t.length → (t.getD k []).length ≤ 1000) (hrow : row.length ≤ 1000) :
    Calls Tryz.prog 129 #[sysV mk v, u] w (Ret w fun r w' => ∃ v', r = sysV mk v' ∧ RowsR ⟨w.heap.size, w'.heap.size, false⟩ w' v' (t ++ [row])) := by
  have HC1 := Lib.hid (fun (w' : World) (e : Ext w w') => l15Lists_c w' v z t (stable_rows.ext h e) hl hrl)
  have HC2 := Lib.hid (fun (w' : World) (e : Ext w w') => l01Own_c w' u y row (stable_ints.ext hr e) (Nat.le_trans hrow (by decide)))
  have HM := Lib.hid (IntsR.mem hr)
  have Hl : Hid (t.length + 1 ≤ 1099511627776) := by show _ ≤ _; omega
  obtain ⟨a, n, cap, rfl, -⟩ := SliceR.shape h
  obtain ⟨a2, n2, cap2, rfl, -⟩ := SliceR.shape hr
  clear h hr hl hrl hrow
  unfold sysV
  go_enter Tryz.func129, Tryz.ntmps129
  go_wp2_with fail
  generalize hw1 : World.alloc _ _ = w1
  obtain ⟨e1, HA, HK⟩ : Ext w w1 ∧ Hid (∀ w', Ext w1 w' → w'.cell? ⟨w.heap.size, 0, none⟩ = some (.int .i64 mk.c) ∧ w'.cell? ⟨w.heap.size, 1, none⟩ = some (.int .i64 mk.d) ∧ w'.cell? ⟨w.heap.size, 2, none⟩ = some (.int .i64 mk.s) ∧ w'.cell? ⟨w.heap.size, 3, none⟩ = some (.int .i64 mk.m) ∧ w'.cell? ⟨w.heap.size, 4, none⟩ = some (.int .i64 mk.l) ∧ w'.cell? ⟨w.heap.size, 5, none⟩ = some (.slice a n cap)) ∧
      Hid (∀ w', Ext w1 w' → (w'.cell? ⟨w.heap.size + 1, 0, none⟩ = some (.int .i64 0) ∧ w'.cell? ⟨w.heap.size + 1, 1, none⟩ = some (.int .i64 0) ∧ w'.cell? ⟨w.heap.size + 1, 2, none⟩ = some (.int .i64 0) ∧ w'.cell? ⟨w.heap.size + 1, 3, none⟩ = some (.int .i64 0) ∧ w'.cell? ⟨w.heap.size + 1, 4, none⟩ = some (.int .i64 0) ∧ w'.cell? ⟨w.heap.size + 1, 5, none⟩ = some (.slice none 0 0)) ∧
      (w'.frozen? ⟨w.heap.size + 1, 0, none⟩ = false ∧ w'.frozen? ⟨w.heap.size + 1, 1, none⟩ = false ∧ w'.frozen? ⟨w.heap.size + 1, 2, none⟩ = false ∧ w'.frozen? ⟨w.heap.size + 1, 3, none⟩ = false ∧ w'.frozen? ⟨w.heap.size + 1, 4, none⟩ = false ∧ w'.frozen? ⟨w.heap.size + 1, 5, none⟩ = false)) := by
    have hz : w1.heap.size = w.heap.size + 2 := by rw [← hw1]; simp
    refine ⟨by rw [← hw1]; exact (Ext.alloc _ _).trans (Ext.alloc _ _), fun w' e => ⟨e.cell ?_, e.cell ?_, e.cell ?_, e.cell ?_, e.cell ?_, e.cell ?_⟩, fun w' e => ⟨⟨e.cell ?_, e.cell ?_, e.cell ?_, e.cell ?_, e.cell ?_, e.cell ?_⟩, ?_⟩⟩
    case refine_13 => refine ⟨?_, ?_, ?_, ?_, ?_, ?_⟩ <;> (refine (Below.frozen e (by show w.heap.size + 1 < _; omega)).trans ?_; rw [← hw1]; clear e hz hw1 HC1 HC2 HM Hl; go_simp)
    all_goals (rw [← hw1]; clear e hz hw1 HC1 HC2 HM Hl; go_simp)
  have HZ : Hid (w1.heap.size = w.heap.size + 2) := by show _ = _; rw [← hw1]; simp
  clear hw1
  obtain ⟨c0, c1, c2, c3, c4, c5⟩ := HA.out w1 (Ext.refl _)
  go_region_held3 (fun w' => w'.cell? ⟨w.heap.size, 0, none⟩ = some (.int .i64 mk.c) ∧ w'.cell? ⟨w.heap.size, 1, none⟩ = some (.int .i64 mk.d) ∧ w'.cell? ⟨w.heap.size, 2, none⟩ = some (.int .i64 mk.s) ∧ w'.cell? ⟨w.heap.size, 3, none⟩ = some (.int .i64 mk.m) ∧ w'.cell? ⟨w.heap.size, 4, none⟩ = some (.int .i64 mk.l) ∧ w'.cell? ⟨w.heap.size, 5, none⟩ = some (.slice a n cap)) (first | (go_keep; done) | (exact HA.out _ (by repeat (first | exact Ext.refl _ | assumption | (refine Ext.trans ?_ (Ext.alloc _ _)) | (refine Ext.trans ?_ (Ext.drew _)) | (refine Ext.trans ?_ (by assumption)))))) (first | (go_at_call 130; (with_reducible refine (HC1.out _ (by repeat (first | exact Ext.refl _ | assumption | (refine Ext.trans ?_ (Ext.alloc _ _)) | (refine Ext.trans ?_ (Ext.drew _)) | (refine Ext.trans ?_ (by assumption))))).mono ?_); rintro e w7 hr7; obtain ⟨r7, rfl, o7, e7⟩ := ret_ext hr7; clear hr7; obtain ⟨a7, n7, k7, rfl, -⟩ := OwnA.shape o7) | (go_at_call 121; (with_reducible refine (HC2.out _ (by repeat (first | exact Ext.refl _ | assumption | (refine Ext.trans ?_ (Ext.alloc _ _)) | (refine Ext.trans ?_ (Ext.drew _)) | (refine Ext.trans ?_ (by assumption))))).mono ?_); rintro e w8 hr8; obtain ⟨r8, rfl, o8, e8⟩ := ret_ext hr8; clear hr8; obtain ⟨a8, n8, k8, rfl, -⟩ := o8.shape) | (refine step_append_of (by rfl) _ _ 26 (by rfl) (by rfl) (by rfl) (fun ty => run_join (u := (a8, n8, k8)) 26 ty Tryz.underlying26 Tryz.infoInts o7 (OwnP.ints o8 HM.out (Nat.le_refl _)) Hl.out (base := w1) (by repeat (first | exact Ext.refl _ | assumption | (refine Ext.trans ?_ (Ext.alloc _ _)) | (refine Ext.trans ?_ (Ext.drew _)) | (refine Ext.trans ?_ (by assumption)))) (by repeat (first | exact Ext.refl _ | assumption | (refine Ext.trans ?_ (Ext.alloc _ _)) | (refine Ext.trans ?_ (Ext.drew _)) | (refine Ext.trans ?_ (by assumption)))) e7 e8 (by first | exact .inl ⟨(by repeat (first | exact Ext.refl _ | assumption | (refine Ext.trans ?_ (Ext.alloc _ _)) | (refine Ext.trans ?_ (Ext.drew _)) | (refine Ext.trans ?_ (by assumption)))), (by repeat (first | exact Ext.refl _ | assumption | (refine Ext.trans ?_ (Ext.alloc _ _)) | (refine Ext.trans ?_ (Ext.drew _)) | (refine Ext.trans ?_ (by assumption))))⟩ | exact .inr ⟨(by repeat (first | exact Ext.refl _ | assumption | (refine Ext.trans ?_ (Ext.alloc _ _)) | (refine Ext.trans ?_ (Ext.drew _)) | (refine Ext.trans ?_ (by assumption)))), (by repeat (first | exact Ext.refl _ | assumption | (refine Ext.trans ?_ (Ext.alloc _ _)) | (refine Ext.trans ?_ (Ext.drew _)) | (refine Ext.trans ?_ (by assumption))))⟩) (by first | (simp [slV]; done) | (refine Ext.cell e7 ?_; simp [slV]; done))) ?_; intro v9 w9 h9; obtain ⟨a9, k9, rfl, x9, e9⟩ := h9; obtain ⟨⟨d0, d1, d2, d3, d4, d5⟩, ⟨f0, f1, f2, f3, f4, f5⟩⟩ := HK.out _ e9; clear o7 o8 e7 e8 c0 c1 c2 c3 c4 c5 Hl HC1 HC2 HM HK) | fail)
  generalize hwF : World.setCell _ _ _ = wF
  have hz := HZ.out
  have hz9 := e9.size
  have wiF : Within ⟨w.heap.size + 1, w.heap.size + 2, true⟩ w9 wF := by
    rw [← hwF]
    exact ((((((Within.refl _ w9).setCell ⟨by simp only; omega, by simp only; omega⟩ _).setCell ⟨by simp only; omega, by simp only; omega⟩ _).setCell ⟨by simp only; omega, by simp only; omega⟩ _).setCell ⟨by simp only; omega, by simp only; omega⟩ _).setCell ⟨by simp only; omega, by simp only; omega⟩ _).setCell ⟨by simp only; omega, by simp only; omega⟩ _
  have y0 : wF.cell? ⟨w.heap.size + 1, 0, none⟩ = some (.int .i64 mk.c) := by rw [← hwF]; clear hwF; go_simp
  have y1 : wF.cell? ⟨w.heap.size + 1, 1, none⟩ = some (.int .i64 mk.d) := by rw [← hwF]; clear hwF; go_simp
  have y2 : wF.cell? ⟨w.heap.size + 1, 2, none⟩ = some (.int .i64 mk.s) := by rw [← hwF]; clear hwF; go_simp
  have y3 : wF.cell? ⟨w.heap.size + 1, 3, none⟩ = some (.int .i64 mk.m) := by rw [← hwF]; clear hwF; go_simp
  have y4 : wF.cell? ⟨w.heap.size + 1, 4, none⟩ = some (.int .i64 mk.l) := by rw [← hwF]; clear hwF; go_simp
  have y5 : wF.cell? ⟨w.heap.size + 1, 5, none⟩ = some (.slice a9 (t.length + 1) k9) := by rw [← hwF]; clear hwF; go_simp
  clear hwF d0 d1 d2 d3 d4 d5 f0 f1 f2 f3 f4 f5
  go_wp2_with fail
  refine bodyPost_ret (v := .agg #[.int .i64 mk.c, .int .i64 mk.d, .int .i64 mk.s, .int .i64 mk.m, .int .i64 mk.l, .slice a9 (t.length + 1) k9]) (by simp [results, Tryz.results129, go_sem, y0, y1, y2, y3, y4, y5]) rfl ⟨_, rfl, ⟨_, rfl, ?_⟩, ?_⟩
  · have hsF := wiF.size
    exact stable_rows.sub (stable_rows.within x9 wiF (fun k h1 h2 => by have q1 := h1.1; have q2 := h2.2; simp only at q1 q2; omega)) ⟨fun k hk => ⟨by have q1 := hk.1; simp only at *; omega, by have q2 := hk.2; simp only at *; omega⟩, fun h => h⟩
  · exact Below.trans (Below.trans e1 (Below.mono e9 (Ext.size e1))) (wiF.below (Nat.le_succ _))
end Go.Proofs.YtegmognpofcfiaaGreat
