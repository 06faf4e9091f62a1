/- Proved: copies of lists of lists, program and reference; a system with a further row, program and reference; when a further key leaves a design a design (plain); CanIssue as the reference tells it; whether a lock opens to cuts once a key is added, and whether a system stays a design, in the program; the body of the closure that staysOpen makes; the closure that staysOpen makes; CanIssue of the program. -/
import Derived.Test.YtgagjibjnaappaaChecked
import Derived.Deep.RegionHeld3
import Derived.Test.YtgagjibjnaappaaUClone
import Derived.Test.YtgagjibjnaappaaUOwnRows
import Derived.Test.YtgagjibjnaappaaUOpens
import Derived.Test.YtgagjibjnaappaaUOwnOld
import Derived.Test.YtgagjibjnaappaaUSys
import Derived.Test.YtgagjibjnaappaaURowCode
import Derived.Test.YtgagjibjnaappaaURowCodeSpec
import Derived.Test.YtgagjibjnaappaaULocksImpl
import Derived.Test.YtgagjibjnaappaaUFaults
namespace Go.Proofs.Ytgagjibjnaappaa
open Go.ChangeShapes Go.WideShapes Go.ChangeAt Go.RowKit
set_option linter.unusedVariables false

theorem take_next {α : Type} {xs : List (List α)} {k : Nat} (h : k < xs.length) : xs.take (k+1) = xs.take k ++ [xs.getD k []] := by
  rw [List.take_add_one, List.getElem?_eq_getElem h]; simp [h]

set_option maxRecDepth 20000 in
set_option maxHeartbeats 1000000 in
theorem copyLists_c (w : World) (v : Value) (z : Zone) (xss : List (List Int)) (h : RowsR z w v xss) (hl : xss.length ≤ 1000) (hr : ∀ k, k < xss.length → (xss.getD k []).length ≤ 1000) :
    Calls Try.prog 69 #[v] w (Ret w fun r w' => OwnR true w.heap.size IntsR 27 w.heap.size w' r xss) := by
  obtain ⟨a, n, cap, rfl, hn, hmax, -⟩ := SliceR.shape h
  have HT := Lib.hid (fun (k : Nat) (hk : k < n) => rows_at h hk)
  rw [← hn] at hl
  have HR : Hid (∀ k, k < n → (xss.getD k []).length ≤ 1000) := fun k hk => hr k (by omega)
  have HK : Hid (∀ k, k < n → xss.take (k+1) = xss.take k ++ [xss.getD k []]) := fun k hk => take_next (by omega)
  have HL : Hid (∀ k, (xss.take k).length ≤ k) := fun k => by rw [List.length_take]; omega
  have Hn : Hid (xss.take n = xss) := by show _ = _; rw [hn, List.take_length]
  clear hn h hr
  go_enter Try.func69, Try.ntmps69
  go_wp2_with fail
  generalize hw1 : World.alloc _ _ = w1
  obtain ⟨e1, o1⟩ : Ext w w1 ∧ OwnR true w.heap.size IntsR 27 w.heap.size w1 (.slice (some ⟨w.heap.size, 0, none⟩) 0 0) [] := by
    subst hw1
    exact ⟨Ext.alloc _ _, OwnR.empty (Nat.le_refl _)⟩
  clear hw1
  go_loopw [3, 5, 9] (fun o _ s wr => ∃ k : Nat, k ≤ n ∧ s = .int .i64 k ∧ OwnR true w.heap.size IntsR 27 w.heap.size wr o (xss.take k) ∧ Ext w wr) (fun _ _ s _ => n - (intOf s).toNat)
  case atStart => exact ⟨0, Nat.zero_le _, rfl, o1, e1⟩
  case round =>
    obtain ⟨k, hk, rfl, own, ew⟩ := hrel
    have hsz := ew.size
    by_cases hlt : k < n
    · obtain ⟨b, off, rfl, a1, n1, k1, hn1, hm1, -, hc, ⟨y, -, hy⟩, -⟩ := HT.out k hlt
      replace hc := hc wr ew
      have hy' := hy wr ew
      have HM := Lib.hid (IntsR.mem hy')
      have hcall := Clone_c wr _ y _ hy' (Nat.le_trans (HR.out k hlt) (by decide))
      have hlen := HL.out k
      have HSk := Lib.hid (HK.out k hlt)
      generalize xss.getD k [] = row at *
      generalize xss.take k = us at *
      clear hy hy' hn1
      go_wp2_with fail
      refine Calls.mono hcall ?_
      rintro e w2 hr
      obtain ⟨r, rfl, hx, e2⟩ := ret_ext hr
      clear hr hcall
      have hx' : IntsR (.new wr w2) w2 r row := hx.ints HM.out (Nat.le_refl _)
      obtain ⟨xa, xn, xc, rfl, -⟩ := SliceR.shape hx'
      clear hx
      go_wp2_with (at_builtin; (refine wpList_appendRow (E := IntsR) (L := w.heap.size) (B := w.heap.size) (xs := us) stable_ints slRepr_slice rfl _ _ 24 rfl Try.underlying24 Try.infoInts rfl own e2 (xa, xn, xc) row hx' rfl (by omega) (by omega) (by omega) ?_); intro v6 w6 hown6 hb6 hs6 hg6 hat6)
      go_roundw
      case rel => exact ⟨k + 1, by omega, by go_num, by rw [HSk.out]; exact hown6, Below.trans ew hb6⟩
      case measure => simp [intOf]; omega
    · have hkn : k = n := by omega
      have HH : Hid (xss.take k = xss) := by show _ = _; rw [hkn]; exact Hn.out
      go_wp2_with fail
      go_ret
      exact ⟨_, rfl, by rw [← HH.out]; simpa using own, ew⟩

set_option maxRecDepth 20000 in
set_option maxHeartbeats 1000000 in
theorem l15Lists_c (w : World) (v : Value) (z : Zone) (xss : List (List Int)) (h : RowsR z w v xss) (hl : xss.length ≤ 1000) (hr : ∀ k, k < xss.length → (xss.getD k []).length ≤ 1000) :
    Calls Try.prog 139 #[v] w (Ret w fun r w' => OwnR true w.heap.size IntsR 27 w.heap.size w' r xss) := by
  obtain ⟨a, n, cap, rfl, hn, hmax, -⟩ := SliceR.shape h
  have HT := Lib.hid (fun (k : Nat) (hk : k < n) => rows_at h hk)
  rw [← hn] at hl
  have HR : Hid (∀ k, k < n → (xss.getD k []).length ≤ 1000) := fun k hk => hr k (by omega)
  have HK : Hid (∀ k, k < n → xss.take (k+1) = xss.take k ++ [xss.getD k []]) := fun k hk => take_next (by omega)
  have HL : Hid (∀ k, (xss.take k).length ≤ k) := fun k => by rw [List.length_take]; omega
  have Hn : Hid (xss.take n = xss) := by show _ = _; rw [hn, List.take_length]
  clear hn h hr
  go_enter Try.func139, Try.ntmps139
  go_wp2_with fail
  generalize hw1 : World.alloc _ _ = w1
  obtain ⟨e1, o1⟩ : Ext w w1 ∧ OwnR true w.heap.size IntsR 27 w.heap.size w1 (.slice (some ⟨w.heap.size, 0, none⟩) 0 0) [] := by
    subst hw1
    exact ⟨Ext.alloc _ _, OwnR.empty (Nat.le_refl _)⟩
  clear hw1
  go_loopw [3, 4] (fun o s wr => ∃ k : Nat, k ≤ n ∧ s = .int .i64 k ∧ OwnR true w.heap.size IntsR 27 w.heap.size wr o (xss.take k) ∧ Ext w wr) (fun _ s _ => n - (intOf s).toNat)
  case atStart => exact ⟨0, Nat.zero_le _, rfl, o1, e1⟩
  case round =>
    obtain ⟨k, hk, rfl, own, ew⟩ := hrel
    have hsz := ew.size
    by_cases hlt : k < n
    · obtain ⟨b, off, rfl, a1, n1, k1, hn1, hm1, -, hc, ⟨y, -, hy⟩, -⟩ := HT.out k hlt
      replace hc := hc wr ew
      have hy' := hy wr ew
      have HM := Lib.hid (IntsR.mem hy')
      have hcall := l01Own_c wr _ y _ hy' (Nat.le_trans (HR.out k hlt) (by decide))
      have hlen := HL.out k
      have HSk := Lib.hid (HK.out k hlt)
      generalize xss.getD k [] = row at *
      generalize xss.take k = us at *
      clear hy hy' hn1
      go_wp2_with fail
      refine Calls.mono hcall ?_
      rintro e w2 hr
      obtain ⟨r, rfl, hx, e2⟩ := ret_ext hr
      clear hr hcall
      have hx' : IntsR (.new wr w2) w2 r row := hx.ints HM.out (Nat.le_refl _)
      obtain ⟨xa, xn, xc, rfl, -⟩ := SliceR.shape hx'
      clear hx
      go_wp2_with (at_builtin; (refine wpList_appendRow (E := IntsR) (L := w.heap.size) (B := w.heap.size) (xs := us) stable_ints slRepr_slice rfl _ _ 24 rfl Try.underlying24 Try.infoInts rfl own e2 (xa, xn, xc) row hx' rfl (by omega) (by omega) (by omega) ?_); intro v6 w6 hown6 hb6 hs6 hg6 hat6)
      go_roundw
      case rel => exact ⟨k + 1, by omega, by go_num, by rw [HSk.out]; exact hown6, Below.trans ew hb6⟩
      case measure => simp [intOf]; omega
    · have hkn : k = n := by omega
      have HH : Hid (xss.take k = xss) := by show _ = _; rw [hkn]; exact Hn.out
      go_wp2_with fail
      go_ret
      exact ⟨_, rfl, by rw [← HH.out]; simpa using own, ew⟩

open Go.ChangeShapes Go.WideShapes Go.ChangeAt Go.RowKit
set_option linter.unusedVariables false

theorem OwnA.drop {α : Type} {A : Nat → Prop} {E : Repr α} {e : TypeId} {B : Nat} {w : World} {v : Value} {xs : List α} (h : OwnA true A E e B w v xs) : OwnA false A E e B w v xs := by
  obtain ⟨us, Z, hl, ho, h1, h2, h3⟩ := h
  exact ⟨us, Z, hl, ho, fun i hi => ⟨(fun h => by cases h), (h1 i hi).2⟩, (fun h => by cases h), h3⟩
/-- a copy of lists and a copy of a list, made one after the other, are joined -/
theorem run_join {P : Program} {e : TypeId} {base wa w7 wb w8 W : World} {v7 : Value} {xs : List (List Int)} {u : Option Addr × Nat × Nat} {y : List Int} (t ty : TypeId) (ht : P.underlying t = some (.slice e)) (hinfo : (P.info? e).map (fun i => (i.zero, i.size, i.bytes)) = some (some (.slice Option.none 0 0), 1, 24))
    (o7 : OwnR true wa.heap.size IntsR e wa.heap.size w7 v7 xs) (o8 : IntsR (.new wb w8) w8 (slV u) y) (hn : xs.length + 1 ≤ 1099511627776) (ha : Ext base wa) (hb : Ext base wb) (ha7 : Ext wa w7) (hb8 : Ext wb w8)
    (hor : (Ext w7 wb ∧ Ext w8 W) ∨ (Ext w8 wa ∧ Ext w7 W)) {g : Nat} (hg : W.cell? ⟨g, 0, Option.none⟩ = some (slV u)) :
    ∃ v' w', (Builtin.append_ #[t, t] ty #[v7, .slice (some ⟨g, 0, Option.none⟩) 1 1]).run P W = .ok v' w' ∧ (∃ a c, v' = .slice a (xs.length + 1) c ∧ RowsR ⟨base.heap.size, w'.heap.size, false⟩ w' v' (xs ++ [y]) ∧ Ext base w') := by
  have k1 := ha.size
  have k2 := hb.size
  have k3 := ha7.size
  have k4 := hb8.size
  have hW : Ext w7 W ∧ Ext w8 W := by
    rcases hor with ⟨h1, h2⟩ | ⟨h1, h2⟩
    · exact ⟨(h1.trans hb8).trans h2, h2⟩
    · exact ⟨h2, (h1.trans ha7).trans h2⟩
  have k5 := hW.1.size
  have k6 := hW.2.size
  have hbk := o7.block
  have hown : OwnA false (fun k => wa.heap.size ≤ k) IntsR e wa.heap.size W v7 xs := (OwnA.below stable_ints o7 hW.1).drop
  obtain ⟨v', w', hr, ho, hgr, -⟩ := run_appendRowsY (P := P) (w := W) (w0 := W) (ad := ⟨g, 0, Option.none⟩) (cap := 1) (ys := [y]) stable_ints t ty ht hinfo (A := fun k => base.heap.size ≤ k) (fun k _ h => Nat.le_trans k1 h) hown (Below.refl _ _) (fun _ => .new wb w8) (fun _ _ h => by cases h)
    (fun _ _ k hk => ⟨by have := hk.1; simp only [Zone.new] at this; omega, by have := hk.2; simp only [Zone.new] at this; omega, fun e => by
      have h1 := hbk k e
      have h2 := hk.1
      have h3 := hk.2
      simp only [Zone.new] at h2 h3
      rcases hor with ⟨h, -⟩ | ⟨h, -⟩
      · have := h.size; omega
      · have := h.size; omega⟩) (fun h => by cases h) (fun h => by cases h)
    (fun j hj => by
      have : j = 0 := by simpa using hj
      subst this
      exact ⟨u, by rw [Addr.add_lit]; exact hg, fun _ => stable_ints.ext o8 hW.2⟩) (by simp) (by unfold maxLen; omega) (by simpa using hn) (by omega)
  have hbe : Below wa.heap.size W w' := (Below.refl _ _).grown hgr (by omega) (fun k hk => (hbk k hk).1)
  obtain ⟨a, n, c, rfl, hl, -⟩ := ho.shape
  rw [List.length_append] at hl
  refine ⟨_, w', hr, a, c, by rw [hl]; rfl, OwnA.reads ho (fun k h => h) k1, ?_⟩
  exact Below.trans ((ha.trans ha7).trans hW.1) (Below.mono hbe k1)

set_option maxRecDepth 20000 in
set_option maxHeartbeats 600000 in
theorem withRow_c (w : World) (mk : MK) (v : Value) (z : Zone) (t : List (List Int)) (h : RowsR z w v t) (u : Value) (y : Zone) (row : List Int) (hr : IntsR y w u row) (hl : t.length ≤ 1000) (hrl : ∀ k, k < t.length → (t.getD k []).length ≤ 1000) (hrow : row.length ≤ 1000) :
    Calls Try.prog 80 #[sysV mk v, u] w (Ret w fun r w' => ∃ v', r = sysV mk v' ∧ RowsR ⟨w.heap.size, w'.heap.size, false⟩ w' v' (t ++ [row])) := by
  have HC1 := Lib.hid (fun (w' : World) (e : Ext w w') => copyLists_c w' v z t (stable_rows.ext h e) hl hrl)
  have HC2 := Lib.hid (fun (w' : World) (e : Ext w w') => Clone_c w' u y row (stable_ints.ext hr e) (Nat.le_trans hrow (by decide)))
  have HM := Lib.hid (IntsR.mem hr)
  have Hl : Hid (t.length + 1 ≤ 1099511627776) := by show _ ≤ _; omega
  obtain ⟨a, n, cap, rfl, -⟩ := SliceR.shape h
  obtain ⟨a2, n2, cap2, rfl, -⟩ := SliceR.shape hr
  clear h hr hl hrl hrow
  unfold sysV
  go_enter Try.func80, Try.ntmps80
  go_wp2_with fail
  generalize hw1 : World.alloc _ _ = w1
  obtain ⟨e1, HA, HK⟩ : Ext w w1 ∧ Hid (∀ w', Ext w1 w' → w'.cell? ⟨w.heap.size, 0, none⟩ = some (.int .i64 mk.c) ∧ w'.cell? ⟨w.heap.size, 1, none⟩ = some (.int .i64 mk.d) ∧ w'.cell? ⟨w.heap.size, 2, none⟩ = some (.int .i64 mk.s) ∧ w'.cell? ⟨w.heap.size, 3, none⟩ = some (.int .i64 mk.m) ∧ w'.cell? ⟨w.heap.size, 4, none⟩ = some (.int .i64 mk.l) ∧ w'.cell? ⟨w.heap.size, 5, none⟩ = some (.slice a n cap)) ∧
      Hid (∀ w', Ext w1 w' → (w'.cell? ⟨w.heap.size + 1, 0, none⟩ = some (.int .i64 0) ∧ w'.cell? ⟨w.heap.size + 1, 1, none⟩ = some (.int .i64 0) ∧ w'.cell? ⟨w.heap.size + 1, 2, none⟩ = some (.int .i64 0) ∧ w'.cell? ⟨w.heap.size + 1, 3, none⟩ = some (.int .i64 0) ∧ w'.cell? ⟨w.heap.size + 1, 4, none⟩ = some (.int .i64 0) ∧ w'.cell? ⟨w.heap.size + 1, 5, none⟩ = some (.slice none 0 0)) ∧
      (w'.frozen? ⟨w.heap.size + 1, 0, none⟩ = false ∧ w'.frozen? ⟨w.heap.size + 1, 1, none⟩ = false ∧ w'.frozen? ⟨w.heap.size + 1, 2, none⟩ = false ∧ w'.frozen? ⟨w.heap.size + 1, 3, none⟩ = false ∧ w'.frozen? ⟨w.heap.size + 1, 4, none⟩ = false ∧ w'.frozen? ⟨w.heap.size + 1, 5, none⟩ = false)) := by
    have hz : w1.heap.size = w.heap.size + 2 := by rw [← hw1]; simp
    refine ⟨by rw [← hw1]; exact (Ext.alloc _ _).trans (Ext.alloc _ _), fun w' e => ⟨e.cell ?_, e.cell ?_, e.cell ?_, e.cell ?_, e.cell ?_, e.cell ?_⟩, fun w' e => ⟨⟨e.cell ?_, e.cell ?_, e.cell ?_, e.cell ?_, e.cell ?_, e.cell ?_⟩, ?_⟩⟩
    case refine_13 => refine ⟨?_, ?_, ?_, ?_, ?_, ?_⟩ <;> (refine (Below.frozen e (by show w.heap.size + 1 < _; omega)).trans ?_; rw [← hw1]; clear e hz hw1 HC1 HC2 HM Hl; go_simp)
    all_goals (rw [← hw1]; clear e hz hw1 HC1 HC2 HM Hl; go_simp)
  have HZ : Hid (w1.heap.size = w.heap.size + 2) := by show _ = _; rw [← hw1]; simp
  clear hw1
  obtain ⟨c0, c1, c2, c3, c4, c5⟩ := HA.out w1 (Ext.refl _)
  go_region_held3 (fun w' => w'.cell? ⟨w.heap.size, 0, none⟩ = some (.int .i64 mk.c) ∧ w'.cell? ⟨w.heap.size, 1, none⟩ = some (.int .i64 mk.d) ∧ w'.cell? ⟨w.heap.size, 2, none⟩ = some (.int .i64 mk.s) ∧ w'.cell? ⟨w.heap.size, 3, none⟩ = some (.int .i64 mk.m) ∧ w'.cell? ⟨w.heap.size, 4, none⟩ = some (.int .i64 mk.l) ∧ w'.cell? ⟨w.heap.size, 5, none⟩ = some (.slice a n cap)) (first | (go_keep; done) | (exact HA.out _ (by repeat (first | exact Ext.refl _ | assumption | (refine Ext.trans ?_ (Ext.alloc _ _)) | (refine Ext.trans ?_ (Ext.drew _)) | (refine Ext.trans ?_ (by assumption)))))) (first | (go_at_call 69; (with_reducible refine (HC1.out _ (by repeat (first | exact Ext.refl _ | assumption | (refine Ext.trans ?_ (Ext.alloc _ _)) | (refine Ext.trans ?_ (Ext.drew _)) | (refine Ext.trans ?_ (by assumption))))).mono ?_); rintro e w7 hr7; obtain ⟨r7, rfl, o7, e7⟩ := ret_ext hr7; clear hr7; obtain ⟨a7, n7, k7, rfl, -⟩ := OwnA.shape o7) | (go_at_call 105; (with_reducible refine (HC2.out _ (by repeat (first | exact Ext.refl _ | assumption | (refine Ext.trans ?_ (Ext.alloc _ _)) | (refine Ext.trans ?_ (Ext.drew _)) | (refine Ext.trans ?_ (by assumption))))).mono ?_); rintro e w8 hr8; obtain ⟨r8, rfl, o8, e8⟩ := ret_ext hr8; clear hr8; obtain ⟨a8, n8, k8, rfl, -⟩ := o8.shape) | (refine step_append_of (by rfl) _ _ 24 (by rfl) (by rfl) (by rfl) (fun ty => run_join (u := (a8, n8, k8)) 24 ty Try.underlying24 Try.infoInts o7 (OwnP.ints o8 HM.out (Nat.le_refl _)) Hl.out (base := w1) (by repeat (first | exact Ext.refl _ | assumption | (refine Ext.trans ?_ (Ext.alloc _ _)) | (refine Ext.trans ?_ (Ext.drew _)) | (refine Ext.trans ?_ (by assumption)))) (by repeat (first | exact Ext.refl _ | assumption | (refine Ext.trans ?_ (Ext.alloc _ _)) | (refine Ext.trans ?_ (Ext.drew _)) | (refine Ext.trans ?_ (by assumption)))) e7 e8 (by first | exact .inl ⟨(by repeat (first | exact Ext.refl _ | assumption | (refine Ext.trans ?_ (Ext.alloc _ _)) | (refine Ext.trans ?_ (Ext.drew _)) | (refine Ext.trans ?_ (by assumption)))), (by repeat (first | exact Ext.refl _ | assumption | (refine Ext.trans ?_ (Ext.alloc _ _)) | (refine Ext.trans ?_ (Ext.drew _)) | (refine Ext.trans ?_ (by assumption))))⟩ | exact .inr ⟨(by repeat (first | exact Ext.refl _ | assumption | (refine Ext.trans ?_ (Ext.alloc _ _)) | (refine Ext.trans ?_ (Ext.drew _)) | (refine Ext.trans ?_ (by assumption)))), (by repeat (first | exact Ext.refl _ | assumption | (refine Ext.trans ?_ (Ext.alloc _ _)) | (refine Ext.trans ?_ (Ext.drew _)) | (refine Ext.trans ?_ (by assumption))))⟩) (by first | (simp [slV]; done) | (refine Ext.cell e7 ?_; simp [slV]; done))) ?_; intro v9 w9 h9; obtain ⟨a9, k9, rfl, x9, e9⟩ := h9; obtain ⟨⟨d0, d1, d2, d3, d4, d5⟩, ⟨f0, f1, f2, f3, f4, f5⟩⟩ := HK.out _ e9; clear o7 o8 e7 e8 c0 c1 c2 c3 c4 c5 Hl HC1 HC2 HM HK) | fail)
  generalize hwF : World.setCell _ _ _ = wF
  have hz := HZ.out
  have hz9 := e9.size
  have wiF : Within ⟨w.heap.size + 1, w.heap.size + 2, true⟩ w9 wF := by
    rw [← hwF]
    exact ((((((Within.refl _ w9).setCell ⟨by simp only; omega, by simp only; omega⟩ _).setCell ⟨by simp only; omega, by simp only; omega⟩ _).setCell ⟨by simp only; omega, by simp only; omega⟩ _).setCell ⟨by simp only; omega, by simp only; omega⟩ _).setCell ⟨by simp only; omega, by simp only; omega⟩ _).setCell ⟨by simp only; omega, by simp only; omega⟩ _
  have y0 : wF.cell? ⟨w.heap.size + 1, 0, none⟩ = some (.int .i64 mk.c) := by rw [← hwF]; clear hwF; go_simp
  have y1 : wF.cell? ⟨w.heap.size + 1, 1, none⟩ = some (.int .i64 mk.d) := by rw [← hwF]; clear hwF; go_simp
  have y2 : wF.cell? ⟨w.heap.size + 1, 2, none⟩ = some (.int .i64 mk.s) := by rw [← hwF]; clear hwF; go_simp
  have y3 : wF.cell? ⟨w.heap.size + 1, 3, none⟩ = some (.int .i64 mk.m) := by rw [← hwF]; clear hwF; go_simp
  have y4 : wF.cell? ⟨w.heap.size + 1, 4, none⟩ = some (.int .i64 mk.l) := by rw [← hwF]; clear hwF; go_simp
  have y5 : wF.cell? ⟨w.heap.size + 1, 5, none⟩ = some (.slice a9 (t.length + 1) k9) := by rw [← hwF]; clear hwF; go_simp
  clear hwF d0 d1 d2 d3 d4 d5 f0 f1 f2 f3 f4 f5
  go_wp2_with fail
  refine bodyPost_ret (v := .agg #[.int .i64 mk.c, .int .i64 mk.d, .int .i64 mk.s, .int .i64 mk.m, .int .i64 mk.l, .slice a9 (t.length + 1) k9]) (by simp [results, Try.results80, go_sem, y0, y1, y2, y3, y4, y5]) rfl ⟨_, rfl, ⟨_, rfl, ?_⟩, ?_⟩
  · have hsF := wiF.size
    exact stable_rows.sub (stable_rows.within x9 wiF (fun k h1 h2 => by have q1 := h1.1; have q2 := h2.2; simp only at q1 q2; omega)) ⟨fun k hk => ⟨by have q1 := hk.1; simp only at *; omega, by have q2 := hk.2; simp only at *; omega⟩, fun h => h⟩
  · exact Below.trans (Below.trans e1 (Below.mono e9 (Ext.size e1))) (wiF.below (Nat.le_succ _))

set_option maxRecDepth 20000 in
set_option maxHeartbeats 600000 in
theorem l24With_c (w : World) (mk : MK) (v : Value) (z : Zone) (t : List (List Int)) (h : RowsR z w v t) (u : Value) (y : Zone) (row : List Int) (hr : IntsR y w u row) (hl : t.length ≤ 1000) (hrl : ∀ k, k < t.length → (t.getD k []).length ≤ 1000) (hrow : row.length ≤ 1000) :
    Calls Try.prog 113 #[sysV mk v, u] w (Ret w fun r w' => ∃ v', r = sysV mk v' ∧ RowsR ⟨w.heap.size, w'.heap.size, false⟩ w' v' (t ++ [row])) := by
  have HC1 := Lib.hid (fun (w' : World) (e : Ext w w') => l15Lists_c w' v z t (stable_rows.ext h e) hl hrl)
  have HC2 := Lib.hid (fun (w' : World) (e : Ext w w') => l01Own_c w' u y row (stable_ints.ext hr e) (Nat.le_trans hrow (by decide)))
  have HM := Lib.hid (IntsR.mem hr)
  have Hl : Hid (t.length + 1 ≤ 1099511627776) := by show _ ≤ _; omega
  obtain ⟨a, n, cap, rfl, -⟩ := SliceR.shape h
  obtain ⟨a2, n2, cap2, rfl, -⟩ := SliceR.shape hr
  clear h hr hl hrl hrow
  unfold sysV
  go_enter Try.func113, Try.ntmps113
  go_wp2_with fail
  generalize hw1 : World.alloc _ _ = w1
  obtain ⟨e1, HA, HK⟩ : Ext w w1 ∧ Hid (∀ w', Ext w1 w' → w'.cell? ⟨w.heap.size, 0, none⟩ = some (.int .i64 mk.c) ∧ w'.cell? ⟨w.heap.size, 1, none⟩ = some (.int .i64 mk.d) ∧ w'.cell? ⟨w.heap.size, 2, none⟩ = some (.int .i64 mk.s) ∧ w'.cell? ⟨w.heap.size, 3, none⟩ = some (.int .i64 mk.m) ∧ w'.cell? ⟨w.heap.size, 4, none⟩ = some (.int .i64 mk.l) ∧ w'.cell? ⟨w.heap.size, 5, none⟩ = some (.slice a n cap)) ∧
      Hid (∀ w', Ext w1 w' → (w'.cell? ⟨w.heap.size + 1, 0, none⟩ = some (.int .i64 0) ∧ w'.cell? ⟨w.heap.size + 1, 1, none⟩ = some (.int .i64 0) ∧ w'.cell? ⟨w.heap.size + 1, 2, none⟩ = some (.int .i64 0) ∧ w'.cell? ⟨w.heap.size + 1, 3, none⟩ = some (.int .i64 0) ∧ w'.cell? ⟨w.heap.size + 1, 4, none⟩ = some (.int .i64 0) ∧ w'.cell? ⟨w.heap.size + 1, 5, none⟩ = some (.slice none 0 0)) ∧
      (w'.frozen? ⟨w.heap.size + 1, 0, none⟩ = false ∧ w'.frozen? ⟨w.heap.size + 1, 1, none⟩ = false ∧ w'.frozen? ⟨w.heap.size + 1, 2, none⟩ = false ∧ w'.frozen? ⟨w.heap.size + 1, 3, none⟩ = false ∧ w'.frozen? ⟨w.heap.size + 1, 4, none⟩ = false ∧ w'.frozen? ⟨w.heap.size + 1, 5, none⟩ = false)) := by
    have hz : w1.heap.size = w.heap.size + 2 := by rw [← hw1]; simp
    refine ⟨by rw [← hw1]; exact (Ext.alloc _ _).trans (Ext.alloc _ _), fun w' e => ⟨e.cell ?_, e.cell ?_, e.cell ?_, e.cell ?_, e.cell ?_, e.cell ?_⟩, fun w' e => ⟨⟨e.cell ?_, e.cell ?_, e.cell ?_, e.cell ?_, e.cell ?_, e.cell ?_⟩, ?_⟩⟩
    case refine_13 => refine ⟨?_, ?_, ?_, ?_, ?_, ?_⟩ <;> (refine (Below.frozen e (by show w.heap.size + 1 < _; omega)).trans ?_; rw [← hw1]; clear e hz hw1 HC1 HC2 HM Hl; go_simp)
    all_goals (rw [← hw1]; clear e hz hw1 HC1 HC2 HM Hl; go_simp)
  have HZ : Hid (w1.heap.size = w.heap.size + 2) := by show _ = _; rw [← hw1]; simp
  clear hw1
  obtain ⟨c0, c1, c2, c3, c4, c5⟩ := HA.out w1 (Ext.refl _)
  go_region_held3 (fun w' => w'.cell? ⟨w.heap.size, 0, none⟩ = some (.int .i64 mk.c) ∧ w'.cell? ⟨w.heap.size, 1, none⟩ = some (.int .i64 mk.d) ∧ w'.cell? ⟨w.heap.size, 2, none⟩ = some (.int .i64 mk.s) ∧ w'.cell? ⟨w.heap.size, 3, none⟩ = some (.int .i64 mk.m) ∧ w'.cell? ⟨w.heap.size, 4, none⟩ = some (.int .i64 mk.l) ∧ w'.cell? ⟨w.heap.size, 5, none⟩ = some (.slice a n cap)) (first | (go_keep; done) | (exact HA.out _ (by repeat (first | exact Ext.refl _ | assumption | (refine Ext.trans ?_ (Ext.alloc _ _)) | (refine Ext.trans ?_ (Ext.drew _)) | (refine Ext.trans ?_ (by assumption)))))) (first | (go_at_call 139; (with_reducible refine (HC1.out _ (by repeat (first | exact Ext.refl _ | assumption | (refine Ext.trans ?_ (Ext.alloc _ _)) | (refine Ext.trans ?_ (Ext.drew _)) | (refine Ext.trans ?_ (by assumption))))).mono ?_); rintro e w7 hr7; obtain ⟨r7, rfl, o7, e7⟩ := ret_ext hr7; clear hr7; obtain ⟨a7, n7, k7, rfl, -⟩ := OwnA.shape o7) | (go_at_call 67; (with_reducible refine (HC2.out _ (by repeat (first | exact Ext.refl _ | assumption | (refine Ext.trans ?_ (Ext.alloc _ _)) | (refine Ext.trans ?_ (Ext.drew _)) | (refine Ext.trans ?_ (by assumption))))).mono ?_); rintro e w8 hr8; obtain ⟨r8, rfl, o8, e8⟩ := ret_ext hr8; clear hr8; obtain ⟨a8, n8, k8, rfl, -⟩ := o8.shape) | (refine step_append_of (by rfl) _ _ 24 (by rfl) (by rfl) (by rfl) (fun ty => run_join (u := (a8, n8, k8)) 24 ty Try.underlying24 Try.infoInts o7 (OwnP.ints o8 HM.out (Nat.le_refl _)) Hl.out (base := w1) (by repeat (first | exact Ext.refl _ | assumption | (refine Ext.trans ?_ (Ext.alloc _ _)) | (refine Ext.trans ?_ (Ext.drew _)) | (refine Ext.trans ?_ (by assumption)))) (by repeat (first | exact Ext.refl _ | assumption | (refine Ext.trans ?_ (Ext.alloc _ _)) | (refine Ext.trans ?_ (Ext.drew _)) | (refine Ext.trans ?_ (by assumption)))) e7 e8 (by first | exact .inl ⟨(by repeat (first | exact Ext.refl _ | assumption | (refine Ext.trans ?_ (Ext.alloc _ _)) | (refine Ext.trans ?_ (Ext.drew _)) | (refine Ext.trans ?_ (by assumption)))), (by repeat (first | exact Ext.refl _ | assumption | (refine Ext.trans ?_ (Ext.alloc _ _)) | (refine Ext.trans ?_ (Ext.drew _)) | (refine Ext.trans ?_ (by assumption))))⟩ | exact .inr ⟨(by repeat (first | exact Ext.refl _ | assumption | (refine Ext.trans ?_ (Ext.alloc _ _)) | (refine Ext.trans ?_ (Ext.drew _)) | (refine Ext.trans ?_ (by assumption)))), (by repeat (first | exact Ext.refl _ | assumption | (refine Ext.trans ?_ (Ext.alloc _ _)) | (refine Ext.trans ?_ (Ext.drew _)) | (refine Ext.trans ?_ (by assumption))))⟩) (by first | (simp [slV]; done) | (refine Ext.cell e7 ?_; simp [slV]; done))) ?_; intro v9 w9 h9; obtain ⟨a9, k9, rfl, x9, e9⟩ := h9; obtain ⟨⟨d0, d1, d2, d3, d4, d5⟩, ⟨f0, f1, f2, f3, f4, f5⟩⟩ := HK.out _ e9; clear o7 o8 e7 e8 c0 c1 c2 c3 c4 c5 Hl HC1 HC2 HM HK) | fail)
  generalize hwF : World.setCell _ _ _ = wF
  have hz := HZ.out
  have hz9 := e9.size
  have wiF : Within ⟨w.heap.size + 1, w.heap.size + 2, true⟩ w9 wF := by
    rw [← hwF]
    exact ((((((Within.refl _ w9).setCell ⟨by simp only; omega, by simp only; omega⟩ _).setCell ⟨by simp only; omega, by simp only; omega⟩ _).setCell ⟨by simp only; omega, by simp only; omega⟩ _).setCell ⟨by simp only; omega, by simp only; omega⟩ _).setCell ⟨by simp only; omega, by simp only; omega⟩ _).setCell ⟨by simp only; omega, by simp only; omega⟩ _
  have y0 : wF.cell? ⟨w.heap.size + 1, 0, none⟩ = some (.int .i64 mk.c) := by rw [← hwF]; clear hwF; go_simp
  have y1 : wF.cell? ⟨w.heap.size + 1, 1, none⟩ = some (.int .i64 mk.d) := by rw [← hwF]; clear hwF; go_simp
  have y2 : wF.cell? ⟨w.heap.size + 1, 2, none⟩ = some (.int .i64 mk.s) := by rw [← hwF]; clear hwF; go_simp
  have y3 : wF.cell? ⟨w.heap.size + 1, 3, none⟩ = some (.int .i64 mk.m) := by rw [← hwF]; clear hwF; go_simp
  have y4 : wF.cell? ⟨w.heap.size + 1, 4, none⟩ = some (.int .i64 mk.l) := by rw [← hwF]; clear hwF; go_simp
  have y5 : wF.cell? ⟨w.heap.size + 1, 5, none⟩ = some (.slice a9 (t.length + 1) k9) := by rw [← hwF]; clear hwF; go_simp
  clear hwF d0 d1 d2 d3 d4 d5 f0 f1 f2 f3 f4 f5
  go_wp2_with fail
  refine bodyPost_ret (v := .agg #[.int .i64 mk.c, .int .i64 mk.d, .int .i64 mk.s, .int .i64 mk.m, .int .i64 mk.l, .slice a9 (t.length + 1) k9]) (by simp [results, Try.results113, go_sem, y0, y1, y2, y3, y4, y5]) rfl ⟨_, rfl, ⟨_, rfl, ?_⟩, ?_⟩
  · have hsF := wiF.size
    exact stable_rows.sub (stable_rows.within x9 wiF (fun k h1 h2 => by have q1 := h1.1; have q2 := h2.2; simp only at q1 q2; omega)) ⟨fun k hk => ⟨by have q1 := hk.1; simp only at *; omega, by have q2 := hk.2; simp only at *; omega⟩, fun h => h⟩
  · exact Below.trans (Below.trans e1 (Below.mono e9 (Ext.size e1))) (wiF.below (Nat.le_succ _))

open Go.ChangeShapes Go.WideShapes Go.ChangeAt Go.RowKit
set_option linter.unusedVariables false

/-- cuts open a lock that also takes the depths of a further key -/
def opensWith (l : List (List Int)) (key cuts : List Int) : Bool := (List.range cuts.length).all fun i => cuts.getD i 0 == key.getD i 0 || has (l.getD i []) (cuts.getD i 0)
/-- row k of a system, without right to door d, opens it once the last row's key is added -/
def oldBad (mk : MK) (t cuts : List (List Int)) (key : List Int) (d k : Nat) : Bool := (t.getD cuts.length []).getD d 0 == 1 && ((t.getD k []).getD d 0 == 0 && opensWith ((locks mk t cuts).getD d []) key (cuts.getD k []))
def newBad (mk : MK) (t cuts : List (List Int)) (key : List Int) (d : Nat) : Bool := (t.getD cuts.length []).getD d 0 == 0 && opensB ((locks mk t cuts).getD d []) key
def doorGood (mk : MK) (t cuts : List (List Int)) (key : List Int) (d : Nat) : Bool := !newBad mk t cuts key d && (List.range cuts.length).all fun k => !oldBad mk t cuts key d k
/-- the last row of t, whose key comes last, leaves the others as they are -/
def stays (mk : MK) (t cuts : List (List Int)) (key : List Int) : Bool := (List.range (doorsOf t)).all (doorGood mk t cuts key)

theorem has_setAt {ks : List (List Int)} {i n : Nat} {x : Int} : has (setAt ks i n) x = true ↔ (0 ≤ x ∧ x < n) ∧ ∃ r ∈ ks, r.getD i 0 = x := by
  rw [← setAt_mem]; unfold has; simp
theorem getD_last {t : List (List Int)} {r : List Int} : (t ++ [r]).getD t.length [] = r := by simp
theorem getD_front {t : List (List Int)} {r : List Int} {k : Nat} (h : k < t.length) : (t ++ [r]).getD k [] = t.getD k [] := by
  simp [List.getElem?_append_left h]
theorem rowsAt_app {t : List (List Int)} {r : List Int} {d : Nat} : ∀ {n : Nat}, n ≤ t.length → rowsAt (t ++ [r]) d n = rowsAt t d n := by
  intro n hn
  unfold rowsAt
  apply List.filter_congr
  intro k hk
  have := List.mem_range.1 hk
  rw [getD_front (by omega)]
theorem keysAt_front {t cuts : List (List Int)} {r key : List Int} {d : Nat} {n : Nat} (h : n ≤ t.length) (hc : n ≤ cuts.length) : keysAt (t ++ [r]) (cuts ++ [key]) d n = keysAt t cuts d n := by
  unfold keysAt
  rw [rowsAt_app h]
  apply List.map_congr_left
  intro k hk
  have := rowsAt_lt hk
  exact getD_front (by omega)
theorem keysAt_app {t cuts : List (List Int)} {r : List Int} {d : Nat} {n : Nat} (h : n ≤ t.length) : keysAt (t ++ [r]) cuts d n = keysAt t cuts d n := by
  unfold keysAt
  rw [rowsAt_app h]
theorem doorsOf_app {t : List (List Int)} {r : List Int} (h : 0 < t.length) : doorsOf (t ++ [r]) = doorsOf t := by
  unfold doorsOf; rw [getD_front h]
theorem locks_app {mk : MK} {t cuts : List (List Int)} {r : List Int} (h0 : 0 < t.length) (h : cuts.length ≤ t.length) : locks mk (t ++ [r]) cuts = locks mk t cuts := by
  unfold locks locksTo
  rw [doorsOf_app h0]
  apply List.map_congr_left
  intro d _
  rw [keysAt_app h]
theorem lock_at {mk : MK} {t cuts : List (List Int)} {d : Nat} (h : d < doorsOf t) : (locks mk t cuts).getD d [] = hull mk (keysAt t cuts d cuts.length) := by
  unfold locks locksTo; simp [h]
theorem hull_at {mk : MK} {ks : List (List Int)} {i : Nat} (h : i < mk.c.toNat) : (hull mk ks).getD i [] = setAt ks i mk.d.toNat := by
  unfold hull hullTo; simp [h]
theorem opens_more {mk : MK} {ks : List (List Int)} {key x : List Int} (hx : KeyOk mk x) (hk : KeyOk mk key) : opensB (hull mk (ks ++ [key])) x = opensWith (hull mk ks) key x := by
  unfold opensB opensWith
  apply Bool.eq_iff_iff.2
  rw [List.all_eq_true, List.all_eq_true]
  refine forall_congr' fun i => forall_congr' fun hi => ?_
  have hi := List.mem_range.1 hi
  have hl := hx.len
  have hic : i < mk.c.toNat := by omega
  rw [hull_at hic, hull_at hic, Bool.or_eq_true, has_setAt, has_setAt, beq_iff_eq]
  have hcut := hx.cut i hi
  constructor
  · rintro ⟨hr, r, hm, he⟩
    rcases List.mem_append.1 hm with hm | hm
    · exact .inr ⟨hr, r, hm, he⟩
    · rw [List.mem_singleton.1 hm] at he; exact .inl he.symm
  · rintro (he | ⟨hr, r, hm, he⟩)
    · exact ⟨by omega, key, List.mem_append.2 (.inr (List.mem_singleton.2 rfl)), he.symm⟩
    · exact ⟨hr, r, List.mem_append.2 (.inl hm), he⟩
theorem faultRow_zero {mk : MK} {t cuts : List (List Int)} {k n : Nat} : faultRow mk t cuts k n = 0 ↔ ∀ d, d < n → faultAt mk t cuts k d = false := by
  unfold faultRow
  rw [List.length_eq_zero_iff, List.filter_eq_nil_iff]
  simp [List.mem_range]
theorem faultsTo_zero {mk : MK} {t cuts : List (List Int)} : ∀ {n : Nat}, faultsTo mk t cuts n = 0 ↔ ∀ k, k < n → ∀ d, d < doorsOf t → faultAt mk t cuts k d = false := by
  intro n
  induction n with
  | zero => simp [faultsTo]
  | succ n ih =>
    show faultsTo mk t cuts n + _ = 0 ↔ _
    rw [Nat.add_eq_zero_iff, ih, faultRow_zero]
    constructor
    · rintro ⟨h1, h2⟩ k hk d hd
      by_cases e : k = n
      · rw [e]; exact h2 d hd
      · exact h1 k (by omega) d hd
    · intro h
      exact ⟨fun k hk => h k (by omega), h n (by omega)⟩
theorem faults_zero {mk : MK} {t cuts : List (List Int)} : faults mk t cuts = 0 ↔ ∀ k, k < cuts.length → ∀ d, d < doorsOf t → faultAt mk t cuts k d = false := faultsTo_zero
theorem stays_iff {mk : MK} {t cuts : List (List Int)} {key : List Int} : stays mk t cuts key = true ↔ ∀ d, d < doorsOf t → newBad mk t cuts key d = false ∧ ∀ k, k < cuts.length → oldBad mk t cuts key d k = false := by
  unfold stays doorGood
  simp [List.all_eq_true, List.mem_range]

/-- the law: the new system's false openings are none just when the key stays -/
theorem stays_law {mk : MK} {t cuts : List (List Int)} {row key : List Int} (h : DesignOk mk t cuts) (hf : faults mk t cuts = 0) (hk : KeyOk mk key) :
    decide (faults mk (t ++ [row]) (cuts ++ [key]) = 0) = stays mk (t ++ [row]) cuts key := by
  have h0 : 0 < t.length := by have := h.len; omega
  have hn := h.eq
  apply Bool.eq_iff_iff.2
  rw [decide_eq_true_iff, faults_zero, stays_iff]
  rw [doorsOf_app h0]
  rw [faults_zero] at hf
  have hL : ∀ d, d < doorsOf t → (locks mk (t ++ [row]) (cuts ++ [key])).getD d [] = hull mk (keysAt t cuts d cuts.length ++ if row.getD d 0 == 1 then [key] else []) := by
    intro d hd
    rw [lock_at (by rw [doorsOf_app h0]; exact hd), List.length_append]
    show hull mk (keysAt (t ++ [row]) (cuts ++ [key]) d (cuts.length + 1)) = _
    rw [keysAt_succ, keysAt_front (by omega) (Nat.le_refl _)]
    have e1 : (t ++ [row]).getD cuts.length [] = row := by rw [hn]; exact getD_last
    rw [e1, getD_last]
  have hL0 : ∀ d, d < doorsOf t → (locks mk (t ++ [row]) cuts).getD d [] = hull mk (keysAt t cuts d cuts.length) := by
    intro d hd
    rw [locks_app h0 (by omega), lock_at hd]
  have e1 : (t ++ [row]).getD cuts.length [] = row := by rw [hn]; exact getD_last
  have hnew : ∀ d, d < doorsOf t → faultAt mk (t ++ [row]) (cuts ++ [key]) cuts.length d = newBad mk (t ++ [row]) cuts key d := by
    intro d hd
    unfold faultAt newBad
    rw [e1, getD_last, hL d hd, hL0 d hd]
    by_cases hx : row.getD d 0 = 0
    · rw [hx]; simp
    · have : (row.getD d 0 == 0) = false := by simpa using hx
      rw [this, Bool.false_and, Bool.false_and]
  have hold : ∀ k, k < cuts.length → ∀ d, d < doorsOf t → faultAt mk (t ++ [row]) (cuts ++ [key]) k d = oldBad mk (t ++ [row]) cuts key d k := by
    intro k hkl d hd
    have hko : KeyOk mk (cuts.getD k []) := by
      have e : cuts.getD k [] = cuts[k] := by simp [hkl]
      rw [e]; exact h.key _ (List.getElem_mem hkl)
    have hfk := hf k hkl d hd
    unfold faultAt at hfk
    unfold faultAt oldBad
    rw [e1, getD_front (by omega), getD_front hkl, hL d hd, hL0 d hd]
    by_cases hx : row.getD d 0 = 1
    · have : (row.getD d 0 == 1) = true := by simpa using hx
      rw [this, if_pos rfl, opens_more hko hk, Bool.true_and]
    · have : (row.getD d 0 == 1) = false := by simpa using hx
      rw [this, if_neg (by decide), List.append_nil, Bool.false_and]
      rw [lock_at hd] at hfk
      exact hfk
  have hlen : (cuts ++ [key]).length = cuts.length + 1 := by simp
  rw [hlen]
  constructor
  · intro H d hd
    refine ⟨by rw [← hnew d hd]; exact H _ (by omega) d hd, fun k hkl => by rw [← hold k hkl d hd]; exact H k (by omega) d hd⟩
  · intro H k hkl d hd
    by_cases e : k = cuts.length
    · rw [e, hnew d hd]; exact (H d hd).1
    · rw [hold k (by omega) d hd]; exact (H d hd).2 k (by omega)

open Go.ChangeShapes Go.WideShapes Go.ChangeAt Go.RowKit
set_option linter.unusedVariables false

def canIssue (mk : MK) (t cuts : List (List Int)) (row key : List Int) : Bool × Int := if rowCode mk t cuts row [key] ≠ 0 then (false, rowCode mk t cuts row [key]) else (stays mk (t ++ [row]) cuts key, 0)
theorem canIssue_bad {mk : MK} {t cuts : List (List Int)} {row key : List Int} (h : rowCode mk t cuts row [key] ≠ 0) : canIssue mk t cuts row key = (false, rowCode mk t cuts row [key]) := by unfold canIssue; rw [if_pos h]
theorem canIssue_ok {mk : MK} {t cuts : List (List Int)} {row key : List Int} (h : rowCode mk t cuts row [key] = 0) : canIssue mk t cuts row key = (stays mk (t ++ [row]) cuts key, 0) := by unfold canIssue; rw [if_neg (by omega)]
theorem rowCode_design {mk : MK} {t cuts : List (List Int)} {row : List Int} {keys : List (List Int)} (h : rowCode mk t cuts row keys = 0) : faults mk t cuts = 0 := by
  by_cases h1 : designCode mk t cuts = 0
  · unfold designCode at h1
    cases e : isDesign mk t cuts with
    | true =>
      unfold isDesign at e
      obtain ⟨-, e⟩ := Bool.and_eq_true_iff.1 e
      obtain ⟨-, e⟩ := Bool.and_eq_true_iff.1 e
      exact of_decide_eq_true e
    | false => rw [e, if_neg (by decide)] at h1; omega
  · rw [rowCode_bad h1] at h; exact absurd h h1
theorem getD_app {t : List (List Int)} {r : List Int} {k : Nat} (h : k < t.length + 1) : (t ++ [r]).getD k [] = if k < t.length then t.getD k [] else r := by
  by_cases e : k < t.length
  · rw [if_pos e, getD_front e]
  · rw [if_neg e]
    have : k = t.length := by omega
    rw [this, getD_last]
theorem sysOk_app {mk : MK} {t cuts : List (List Int)} {row : List Int} {keys : List (List Int)} (h : RowCodeOk mk t cuts row keys) : SysOk mk (t ++ [row]) := by
  have h0 := h.len
  have hd := h.doors
  have e := doorsOf_app (t := t) (r := row) (by omega)
  have hl : (t ++ [row]).length = t.length + 1 := by simp
  refine ⟨h.mk1, h.mk2, by rw [hl]; have := h.lt10; omega, by rw [e]; exact hd, fun k hk => ?_, fun k d hk hdd => ?_⟩
  · rw [hl] at hk
    rw [e, getD_app hk]
    split
    · exact h.row k (by assumption)
    · exact h.row_len
  · rw [hl] at hk
    rw [e] at hdd
    rw [getD_app hk]
    split
    · exact h.bit k d (by assumption) hdd
    · have hdl : d < row.length := by rw [h.row_len]; exact hdd
      have := (List.all_eq_true.1 h.row_bit) _ (List.getElem_mem hdl)
      have e : row.getD d 0 = row[d] := by simp [hdl]
      rw [e]; exact inB_iff.1 this
theorem partOk_front {mk : MK} {t cuts : List (List Int)} {row : List Int} {keys : List (List Int)} (h : RowCodeOk mk t cuts row keys) : PartOk mk (t ++ [row]) cuts :=
  ⟨sysOk_app h, by have := h.eq; simp; omega, h.key⟩
theorem partOk_app {mk : MK} {t cuts : List (List Int)} {row key : List Int} (h : RowCodeOk mk t cuts row [key]) : PartOk mk (t ++ [row]) (cuts ++ [key]) :=
  ⟨sysOk_app h, by have := h.eq; simp; omega, fun r hr => by
    rcases List.mem_append.1 hr with hr | hr
    · exact h.key r hr
    · rw [List.mem_singleton.1 hr]; exact h.row_keys key (List.mem_singleton.2 rfl)⟩

/-- an append of lists that lie elsewhere to an empty list of the call's own -/
theorem run_alias {P : Program} {e : TypeId} {w W : World} {g n c : Nat} {cuts : List (List Int)} {z : Zone} {a : Option Addr} (t ty : TypeId) (ht : P.underlying t = some (.slice e)) (hinfo : (P.info? e).map (fun i => (i.zero, i.size, i.bytes)) = some (some (.slice Option.none 0 0), 1, 24))
    (hc : RowsR z w (.slice a n c) cuts) (hn : 0 < n) (hm : n ≤ 1000) (hW : W = w.alloc (.cells #[] e)) (hg : g = w.heap.size) :
    ∃ v' w', (Builtin.append_ #[t, t] ty #[.slice (some ⟨g, 0, Option.none⟩) 0 0, .slice a n c]).run P W = .ok v' w' ∧ AliasR e w.heap.size w' v' cuts ∧ Ext w w' := by
  subst hW; subst hg
  obtain ⟨a', n', c', he, hln, -, hcap, hmx, -⟩ := SliceR.shape hc
  injection he with e1 e2 e3
  subst e1; subst e2; subst e3
  have H := fun (k : Nat) (hk : k < n) => rows_at hc hk
  obtain ⟨b, off, rfl, -⟩ := H 0 hn
  have eW : Ext w (w.alloc (.cells #[] e)) := Ext.alloc _ _
  have hsz : (w.alloc (.cells #[] e)).heap.size = w.heap.size + 1 := by simp
  subst hln
  obtain ⟨v', w', hr, ho, hgr, -⟩ := run_appendRowsY (P := P) (b := false) (w := w.alloc (.cells #[] e)) (w0 := w.alloc (.cells #[] e)) (ad := ⟨b, off, Option.none⟩) (cap := c) (ys := cuts) (xs := []) stable_ints t ty ht hinfo (A := fun _ => True) (A0 := fun _ => True) (fun _ _ h => h) (AliasR.empty (Nat.le_refl _)) (Below.refl _ _) (fun _ => ⟨0, w.heap.size, false⟩) (fun _ _ h => by cases h)
    (fun _ _ k hk => ⟨trivial, by have := hk.2; simp only at this; omega, fun e => by
      have h3 := hk.2
      have : w.heap.size = k := by injection e
      simp only at h3
      omega⟩) (fun h => by cases h) (fun h => by cases h)
    (fun j hj => by
      obtain ⟨b', off', he, a1, n1, c1, -, -, -, h1, ⟨y, -, h2⟩, -⟩ := H j hj
      injection he with he; injection he with he1 he2 _
      subst he1; subst he2
      refine ⟨(a1, n1, c1), by rw [Addr.add_lit]; exact h1 _ eW, fun hj => ?_⟩
      have e0 : cuts.getD j [] = cuts[j] := by simp [hj]
      rw [← e0]
      exact stable_ints.ext (IntsR.free (h2 w (Ext.refl _))) eW) hcap hmx (by simp; omega) (by omega)
  refine ⟨v', w', hr, by simpa using ho, ?_⟩
  have hb2 : Below w.heap.size (w.alloc (.cells #[] e)) w' := Below.grown (Below.refl _ _) hgr (by omega) (fun k hk => by
    have : w.heap.size = k := by injection hk
    omega)
  exact Below.trans eW hb2

set_option maxHeartbeats 400000 in
theorem l16Open_c (w : World) (mk : MK) (v : Value) (z : Zone) (t : List (List Int)) (h : RowsR z w v t) (u : Value) (y : Zone) (cuts : List (List Int)) (hc : RowsR y w u cuts) (ok : PartOk mk t cuts) :
    Calls Try.prog 112 #[sysV mk v, u] w (Ret w fun r _ => r = .bool (decide (faults mk t cuts = 0))) := by
  have HC2 := Lib.hid (fun (w' : World) (e : Ext w w') => l15False_c w' mk v z t (stable_rows.ext h e) u y cuts (stable_rows.ext hc e) ok)
  generalize faults mk t cuts = fs at *
  obtain ⟨a, n, cap, rfl, -⟩ := SliceR.shape h
  obtain ⟨a2, n2, cap2, rfl, -⟩ := SliceR.shape hc
  clear h hc ok
  unfold sysV at *
  go_enter Try.func112, Try.ntmps112
  go_wp2_with fail
  generalize hw0 : World.alloc _ _ = w0
  obtain ⟨e0, S0⟩ := sys_box hw0
  clear hw0
  refine Calls.mono (HC2.out w0 e0) ?_
  rintro e w2 hr
  obtain ⟨r, rfl, ⟨a3, m3, c3, rfl, hm3, hmm⟩, e2⟩ := ret_ext hr
  clear hr
  by_cases hf : fs = 0
  · have hm0 : ((m3 : Int) == 0) = true := by rw [hm3, hf]; rfl
    have HR : Hid (decide (fs = 0) = true) := decide_eq_true hf
    clear hf hm3
    go_wp2_with fail
    go_ret
    exact ⟨.bool true, rfl, congrArg Value.bool HR.out.symm, e0.trans e2⟩
  · have hm0 : ((m3 : Int) == 0) = false := by rw [beq_eq_false_iff_ne]; omega
    have HR : Hid (decide (fs = 0) = false) := decide_eq_false hf
    clear hf hm3
    go_wp2_with fail
    go_ret
    exact ⟨.bool false, rfl, congrArg Value.bool HR.out.symm, e0.trans e2⟩

set_option maxRecDepth 20000 in
set_option maxHeartbeats 400000 in
theorem l16With_c (w : World) (u : Value) (y : Zone) (cuts : List (List Int)) (hc : RowsR y w u cuts) (hn0 : 0 < cuts.length) (hn1 : cuts.length ≤ 1000) (v4 : Value) (z4 : Zone) (key : List Int) (hk : IntsR z4 w v4 key) :
    Calls Try.prog 114 #[u, v4] w (Ret w fun r w' => RowsR ⟨0, w'.heap.size, false⟩ w' r (cuts ++ [key])) := by
  obtain ⟨a, n, cap, rfl, hn, -⟩ := SliceR.shape hc
  obtain ⟨a4, n4, cap4, rfl, -⟩ := SliceR.shape hk
  rw [← hn] at hn0 hn1
  have Hn := Lib.hid hn
  have HC := Lib.hid hc
  have HK := Lib.hid (IntsR.free hk)
  clear hn hc hk
  have hcl : cuts.length + 1 ≤ 1099511627776 := by rw [← Hn.out]; omega
  go_enter Try.func114, Try.ntmps114
  go_wp2_with (at_builtin; (first | (refine wpList_append_of rfl _ _ 24 rfl rfl rfl (fun ty => run_alias 24 ty Try.underlying24 Try.infoInts HC.out hn0 hn1 rfl rfl) ?_; intro v6 w6 h6) | (obtain ⟨h6', e6⟩ := h6; refine wpList_appendAlias (B := w.heap.size) (xs := cuts) (w0 := w) rfl _ _ 24 rfl Try.underlying24 Try.infoInts rfl h6' (a4, n4, cap4) key (stable_ints.ext HK.out e6) (Nat.le_refl _) rfl hcl (Ext.size e6) ?_; intro v7 w7 hown7 hb7 hg7 hat7)))
  go_ret
  exact ⟨_, rfl, AliasR.rows hown7, Below.trans e6 hb7⟩

theorem withFirst (w : World) (mk : MK) (v : Value) (z : Zone) (t : List (List Int)) (h : RowsR z w v t) (u : Value) (y : Zone) (row : List Int) {cuts keys : List (List Int)} (hr : IntsR y w u row) (ok : RowCodeOk mk t cuts row keys) :
    Calls Try.prog 113 #[sysV mk v, u] w (Ret w fun r w' => ∃ v', r = sysV mk v' ∧ RowsR ⟨w.heap.size, w'.heap.size, false⟩ w' v' (t ++ [row])) :=
  l24With_c w mk v z t h u y row hr (by have := ok.len; omega) (fun k hk => by rw [ok.row k hk]; have := ok.doors; omega) (by rw [ok.row_len]; have := ok.doors; omega)

set_option maxRecDepth 20000 in
set_option maxHeartbeats 400000 in
theorem l24Can_c (w : World) (mk : MK) (v : Value) (z : Zone) (t : List (List Int)) (h : RowsR z w v t) (u : Value) (y : Zone) (cuts : List (List Int)) (hc : RowsR y w u cuts) (v3 : Value) (z3 : Zone) (row : List Int) (hr : IntsR z3 w v3 row) (v4 : Value) (z4 : Zone) (key : List Int) (hk : IntsR z4 w v4 key) (ok : RowCodeOk mk t cuts row [key]) :
    Calls Try.prog 78 #[sysV mk v, u, v3, v4] w (Ret w fun r _ => r = .bool (decide (faults mk (t ++ [row]) (cuts ++ [key]) = 0))) := by
  have hd := ok.doors
  have hl := ok.len
  have he := ok.eq
  have HC1 := Lib.hid (fun (w' : World) (e : Ext w w') => withFirst w' mk v z t (stable_rows.ext h e) v3 z3 row (stable_ints.ext hr e) ok)
  have HC2 := Lib.hid (fun (w' : World) (e : Ext w w') => l16With_c w' u y cuts (stable_rows.ext hc e) (by omega) (by omega) v4 z4 key (stable_ints.ext hk e))
  have HC3 := Lib.hid (fun (w' : World) (v' u' : Value) (x1 x2 : Zone) (g1 : RowsR x1 w' v' (t ++ [row])) (g2 : RowsR x2 w' u' (cuts ++ [key])) => l16Open_c w' mk v' x1 _ g1 u' x2 _ g2 (partOk_app ok))
  generalize faults mk (t ++ [row]) (cuts ++ [key]) = fs at *
  generalize decide (fs = 0) = q at *
  obtain ⟨a, n, cap, rfl, -⟩ := SliceR.shape h
  obtain ⟨a2, n2, cap2, rfl, -⟩ := SliceR.shape hc
  obtain ⟨a3, n3, cap3, rfl, -⟩ := SliceR.shape hr
  obtain ⟨a4, n4, cap4, rfl, -⟩ := SliceR.shape hk
  clear h hc hr hk ok hd hl he
  unfold sysV at *
  go_enter Try.func78, Try.ntmps78
  go_wp2_with fail
  generalize hw0 : World.alloc _ _ = w0
  obtain ⟨e0, S0⟩ := sys_box hw0
  clear hw0 S0
  refine Calls.mono (HC1.out w0 e0) ?_
  rintro e w1 hr
  obtain ⟨r, rfl, ⟨v', rfl, g1⟩, e1⟩ := ret_ext hr
  clear hr
  obtain ⟨a5, n5, cap5, rfl, -⟩ := SliceR.shape g1
  have G1 := Lib.hid g1
  clear g1
  have et1 := e0.trans e1
  go_wp2_with fail
  refine Calls.mono (HC2.out w1 et1) ?_
  rintro e w2 hr
  obtain ⟨r, rfl, g2, e2⟩ := ret_ext hr
  clear hr
  obtain ⟨a6, n6, cap6, rfl, -⟩ := SliceR.shape g2
  have G2 := Lib.hid g2
  clear g2
  go_wp2_with fail
  refine Calls.mono (HC3.out w2 _ _ _ _ (stable_rows.ext G1.out e2) G2.out) ?_
  rintro e w3 hr
  obtain ⟨r, rfl, rfl, e3⟩ := ret_ext hr
  clear hr
  go_wp2_with fail
  go_ret
  exact ⟨_, rfl, rfl, (et1.trans e2).trans e3⟩

set_option maxRecDepth 20000 in
set_option maxHeartbeats 1000000 in
theorem CanIssueSpec_c (w : World) (mk : MK) (v : Value) (z : Zone) (t : List (List Int)) (h : RowsR z w v t) (u : Value) (y : Zone) (cuts : List (List Int)) (hc : RowsR y w u cuts) (v3 : Value) (z3 : Zone) (row : List Int) (hr : IntsR z3 w v3 row) (v4 : Value) (z4 : Zone) (key : List Int) (hk : IntsR z4 w v4 key) :
    Calls Try.prog 39 #[sysV mk v, u, v3, v4] w (Ret w fun r _ => r = BoolCode (canIssue mk t cuts row key)) := by
  have H1 : Hid (rowCode mk t cuts row [key] ≠ 0 → canIssue mk t cuts row key = (false, rowCode mk t cuts row [key])) := canIssue_bad
  have H2 : Hid (rowCode mk t cuts row [key] = 0 → canIssue mk t cuts row key = (decide (faults mk (t ++ [row]) (cuts ++ [key]) = 0), 0)) := fun h => by
    have ok := rowCode_zero h
    rw [canIssue_ok h, stays_law ok.toDesignOk (rowCode_design h) (ok.row_keys key (List.mem_singleton.2 rfl))]
  have HC1 := Lib.hid (fun (w' : World) (e : Ext w w') => l24Code_c w' mk v z t (stable_rows.ext h e) u y cuts (stable_rows.ext hc e) v3 z3 row (stable_ints.ext hr e) v4 z4 key (stable_ints.ext hk e))
  have HC2 := Lib.hid (fun (h0 : rowCode mk t cuts row [key] = 0) (w' : World) (e : Ext w w') => l24Can_c w' mk v z t (stable_rows.ext h e) u y cuts (stable_rows.ext hc e) v3 z3 row (stable_ints.ext hr e) v4 z4 key (stable_ints.ext hk e) (rowCode_zero h0))
  generalize canIssue mk t cuts row key = res at *
  generalize rowCode mk t cuts row [key] = rc at *
  generalize decide (faults mk (t ++ [row]) (cuts ++ [key]) = 0) = q at *
  obtain ⟨a, n, cap, rfl, -⟩ := SliceR.shape h
  obtain ⟨a2, n2, cap2, rfl, -⟩ := SliceR.shape hc
  obtain ⟨a3, n3, cap3, rfl, -⟩ := SliceR.shape hr
  obtain ⟨a4, n4, cap4, rfl, -⟩ := SliceR.shape hk
  clear h hc hr hk
  unfold sysV at *
  go_enter Try.func39, Try.ntmps39
  go_wp2_with fail
  generalize hw0 : World.alloc _ _ = w0
  obtain ⟨e0, S0⟩ := sys_box hw0
  clear hw0
  refine Calls.mono (HC1.out w0 e0) ?_
  rintro e w1 hr
  obtain ⟨r, rfl, rfl, e1⟩ := ret_ext hr
  clear hr
  obtain ⟨c0, c1, c2, c3, c4, c5⟩ := S0.ext e1
  have et := e0.trans e1
  by_cases hd : rc = 0
  · have hb : (rc != 0) = false := by rw [hd]; rfl
    have HH := Lib.hid (H2.out hd)
    have hcall := HC2.out hd w1 et
    clear hd H1 H2 S0
    go_wp2_with fail
    refine Calls.mono hcall ?_
    rintro e w2 hr
    obtain ⟨r, rfl, rfl, e2⟩ := ret_ext hr
    clear hr hcall
    go_wp2_with fail
    go_ret2
    exact ⟨_, rfl, BoolCode_mk HH.out, et.trans e2⟩
  · have hb : (rc != 0) = true := by rw [bne_iff_ne]; exact hd
    have HH := Lib.hid (H1.out hd)
    clear hd H1 H2 S0
    go_wp2_with fail
    go_ret2
    exact ⟨_, rfl, BoolCode_mk HH.out, et⟩

open Go.ChangeShapes Go.WideShapes Go.ChangeAt Go.RowKit
set_option linter.unusedVariables false

theorem opensWith_no {l : List (List Int)} {key xs : List Int} (i : Nat) (hi : i < xs.length) (h1 : ¬ xs.getD i 0 = key.getD i 0) (h : has (l.getD i []) (xs.getD i 0) = false) : opensWith l key xs = false := by
  unfold opensWith; rw [List.all_eq_false]; refine ⟨i, List.mem_range.2 hi, ?_⟩
  rw [h, Bool.or_false, beq_iff_eq]; exact h1
theorem opensWith_yes {l : List (List Int)} {key xs : List Int} (h : ∀ i, i < xs.length → xs.getD i 0 = key.getD i 0 ∨ has (l.getD i []) (xs.getD i 0) = true) : opensWith l key xs = true := by
  unfold opensWith; rw [List.all_eq_true]; intro i hi
  have hi := List.mem_range.1 hi
  rw [Bool.or_eq_true, beq_iff_eq]; exact h i hi

set_option maxRecDepth 20000 in
set_option maxHeartbeats 1000000 in
theorem opensWith_c (w : World) (v : Value) (z : Zone) (l : List (List Int)) (h : RowsR z w v l) (u4 : Value) (y4 : Zone) (key : List Int) (hk : IntsR y4 w u4 key) (u : Value) (y : Zone) (xs : List Int) (hx : IntsR y w u xs) (hl : xs.length ≤ l.length) (hkl : xs.length ≤ key.length) :
    Calls Try.prog 116 #[.agg #[v], u4, u] w (Ret w fun r _ => r = .bool (opensWith l key xs)) := by
  have H1 : Hid (∀ i, i < xs.length → ¬ xs.getD i 0 = key.getD i 0 → has (l.getD i []) (xs.getD i 0) = false → opensWith l key xs = false) := fun i hi h1 h => opensWith_no i hi h1 h
  have H2 : Hid ((∀ i, i < xs.length → xs.getD i 0 = key.getD i 0 ∨ has (l.getD i []) (xs.getD i 0) = true) → opensWith l key xs = true) := opensWith_yes
  generalize opensWith l key xs = res at *
  obtain ⟨a, n, cap, rfl, hn, hmax, -⟩ := SliceR.shape h
  obtain ⟨a2, n2, cap2, rfl, hn2, hmax2, -⟩ := SliceR.shape hx
  obtain ⟨a4, n4, cap4, rfl, hn4, hmax4, -⟩ := SliceR.shape hk
  have HT := Lib.hid (fun (k : Nat) (hk : k < n) => rows_at h hk)
  have HX := Lib.hid (fun (k : Nat) (hk : k < n2) => ints_at hx hk)
  have HY := Lib.hid (fun (k : Nat) (hh : k < n4) => ints_at hk hh)
  rw [← hn, ← hn2] at hl
  rw [← hn4, ← hn2] at hkl
  have Hn2 := Lib.hid hn2
  clear hn hn2 hn4 h hx hk
  go_enter Try.func116, Try.ntmps116
  go_wp2_with fail
  generalize hw0 : World.alloc _ _ = w0
  obtain ⟨e0, c0⟩ : Ext w w0 ∧ w0.cell? ⟨w.heap.size, 0, none⟩ = some (.slice a n cap) := by subst hw0; exact ⟨Ext.alloc _ _, by simp⟩
  clear hw0
  go_loopw [7, 8, 11] (fun _ _ s wr => ∃ k : Nat, k ≤ n2 ∧ s = .int .i64 k ∧ (∀ j, j < k → xs.getD j 0 = key.getD j 0 ∨ has (l.getD j []) (xs.getD j 0) = true) ∧ Drew w0 wr) (fun _ _ s _ => n2 - (intOf s).toNat)
  case atStart => exact ⟨0, Nat.zero_le _, rfl, by simp, Drew.refl _⟩
  case round =>
    obtain ⟨k, hk, rfl, hall, hd⟩ := hrel
    have Hall := Lib.hid hall
    clear hall
    have c0' := (hd.cell _).trans c0
    have et := e0.trans (Ext.ofDrew hd)
    by_cases hlt : k < n2
    · obtain ⟨b, off, rfl, hi, hc⟩ := HX.out k hlt
      obtain ⟨b4, off4, rfl, hi4, hc4⟩ := HY.out k (by omega)
      obtain ⟨b1, o1, rfl, a1, n1, k1, hn1, hm1, -, hc1, ⟨y1, -, hy1⟩, -⟩ := HT.out k (by omega)
      replace hc := hc wr et
      replace hc4 := hc4 wr et
      replace hc1 := hc1 wr et
      have hcall := Contains_c wr _ y1 _ (xs.getD k 0) (hy1 wr et) hi
      have hkl' : k < n := by omega
      have hkl4 : k < n4 := by omega
      have Hno : Hid (¬ xs.getD k 0 = key.getD k 0 → has (l.getD k []) (xs.getD k 0) = false → res = false) := fun h1 h => H1.out k (by rw [← Hn2.out]; exact hlt) h1 h
      have Hgo : Hid (xs.getD k 0 = key.getD k 0 ∨ has (l.getD k []) (xs.getD k 0) = true → ∀ j, j < k + 1 → xs.getD j 0 = key.getD j 0 ∨ has (l.getD j []) (xs.getD j 0) = true) := fun h j hj => by
        by_cases e : j = k
        · rw [e]; exact h
        · exact Hall.out j (by omega)
      generalize has (l.getD k []) (xs.getD k 0) = q at *
      generalize xs.getD k 0 = x at *
      generalize key.getD k 0 = kx at *
      clear hy1 hn1
      by_cases hxk : x = kx
      · have hb : (x != kx) = false := by rw [hxk]; simp
        have HH := Lib.hid (Hgo.out (.inl hxk))
        clear hxk hcall Hno Hgo
        go_wp2_with fail
        go_roundw
        case rel => exact ⟨k+1, by omega, by go_num, HH.out, hd⟩
        case measure => simp [intOf]; omega
      · have hb : (x != kx) = true := by rw [bne_iff_ne]; exact hxk
        have Hno' := Lib.hid (Hno.out hxk)
        clear hxk Hno
        cases q with
        | true =>
          have HH := Lib.hid (Hgo.out (.inr rfl))
          go_wp2_with fail
          refine Calls.mono hcall ?_
          rintro e w2 ⟨rfl, hd2⟩
          clear hcall
          go_wp2_with fail
          go_roundw
          case rel => exact ⟨k+1, by omega, by go_num, HH.out, hd.trans hd2⟩
          case measure => simp [intOf]; omega
        | false =>
          have HH := Lib.hid (Hno'.out rfl)
          go_wp2_with fail
          refine Calls.mono hcall ?_
          rintro e w2 ⟨rfl, hd2⟩
          clear hcall
          go_wp2_with fail
          go_ret
          exact ⟨.bool false, rfl, congrArg Value.bool HH.out.symm, et.trans (Ext.ofDrew hd2)⟩
    · have HH : Hid (res = true) := H2.out (fun j hj => Hall.out j (by have := Hn2.out; omega))
      go_wp2_with fail
      go_ret
      exact ⟨.bool true, rfl, congrArg Value.bool HH.out.symm, et⟩

open Go.ChangeShapes Go.WideShapes Go.ChangeAt Go.RowKit
set_option linter.unusedVariables false

theorem stays_new {mk : MK} {t cuts : List (List Int)} {key : List Int} {d : Nat} (hd : d < doorsOf t) (h : newBad mk t cuts key d = true) : stays mk t cuts key = false := by
  rw [Bool.eq_false_iff]; intro hs
  have := (stays_iff.1 hs d hd).1
  rw [h] at this; cases this
theorem stays_old {mk : MK} {t cuts : List (List Int)} {key : List Int} {d k : Nat} (hd : d < doorsOf t) (hk : k < cuts.length) (h : oldBad mk t cuts key d k = true) : stays mk t cuts key = false := by
  rw [Bool.eq_false_iff]; intro hs
  have := (stays_iff.1 hs d hd).2 k hk
  rw [h] at this; cases this

set_option maxRecDepth 20000 in
set_option maxHeartbeats 2000000 in
theorem stays1_c (w : World) (mk : MK) (v : Value) (z : Zone) (t : List (List Int)) (h : RowsR z w v t) (u : Value) (y : Zone) (cuts : List (List Int)) (hc : RowsR y w u cuts) (ok : PartOk mk t cuts) (hlast : cuts.length < t.length)
    (v4 : Value) (z4 : Zone) (key : List Int) (hk : IntsR z4 w v4 key) (kok : KeyOk mk key) (vl : Value) (zl : Zone) (hL : LocksR zl w vl (locks mk t cuts)) (vr : Value) (zr : Zone) (hr : IntsR zr w vr (t.getD cuts.length []))
    (bl br bc bs : Nat) (cl : w.cell? ⟨bl, 0, none⟩ = some vl) (cr : w.cell? ⟨br, 0, none⟩ = some vr) (cc : w.cell? ⟨bc, 0, none⟩ = some u) (S0 : SysAt w bs mk v) :
    Calls Try.prog 115 #[v4, .pointer (some ⟨bl, 0, none⟩), .pointer (some ⟨br, 0, none⟩), .pointer (some ⟨bc, 0, none⟩), .pointer (some ⟨bs, 0, none⟩)] w (Ret w fun r _ => r = .bool (stays mk t cuts key)) := by
  have HNB : Hid (∀ d, d < doorsOf t → newBad mk t cuts key d = true → stays mk t cuts key = false) := fun d hd h => stays_new hd h
  have HOB : Hid (∀ d k, d < doorsOf t → k < cuts.length → oldBad mk t cuts key d k = true → stays mk t cuts key = false) := fun d k hd hk h => stays_old hd hk h
  have HOK : Hid ((∀ d, d < doorsOf t → newBad mk t cuts key d = false ∧ ∀ k, k < cuts.length → oldBad mk t cuts key d k = false) → stays mk t cuts key = true) := fun h => stays_iff.2 h
  have HF1 : Hid (∀ d, newBad mk t cuts key d = ((t.getD cuts.length []).getD d 0 == 0 && opensB ((locks mk t cuts).getD d []) key)) := fun _ => rfl
  have HF2 : Hid (∀ d k, oldBad mk t cuts key d k = ((t.getD cuts.length []).getD d 0 == 1 && ((t.getD k []).getD d 0 == 0 && opensWith ((locks mk t cuts).getD d []) key (cuts.getD k [])))) := fun _ _ => rfl
  have hlc : ∀ d, d < doorsOf t → ((locks mk t cuts).getD d []).length = mk.c.toNat := fun d hd => lock_len hd
  have hkl : ∀ k, k < cuts.length → (cuts.getD k []).length = mk.c.toNat := fun k hk => by
    have := (ok.key _ (List.getElem_mem hk)).len
    have e : cuts.getD k [] = cuts[k] := by simp [hk]
    rw [e]; omega
  have hkey : key.length = mk.c.toNat := by have := kok.len; omega
  have HO1 := Lib.hid (fun (d : Nat) (hd : d < doorsOf t) (w' : World) (v : Value) (z : Zone) (h : RowsR z w' v ((locks mk t cuts).getD d [])) (e : Ext w w') => opens_c w' v z _ h v4 z4 key (stable_ints.ext hk e) (by rw [hlc d hd, hkey]; exact Nat.le_refl _))
  have HO2 := Lib.hid (fun (d : Nat) (hd : d < doorsOf t) (k : Nat) (hkk : k < cuts.length) (w' : World) (v : Value) (z : Zone) (h : RowsR z w' v ((locks mk t cuts).getD d [])) (u : Value) (y : Zone) (hx : IntsR y w' u (cuts.getD k [])) (e : Ext w w') => opensWith_c w' v z _ h v4 z4 key (stable_ints.ext hk e) u y _ hx (by rw [hlc d hd, hkl k hkk]; exact Nat.le_refl _) (by rw [hkey, hkl k hkk]; exact Nat.le_refl _))
  have HRow := Lib.hid ok.row
  have HLL := Lib.hid (locks_len mk t cuts)
  have hrl : (t.getD cuts.length []).length = doorsOf t := ok.row _ hlast
  have hdo := ok.doors
  clear hlc hkl hkey kok
  generalize stays mk t cuts key = res at *
  generalize newBad mk t cuts key = nB at *
  generalize oldBad mk t cuts key = oB at *
  generalize locks mk t cuts = ls at *
  generalize t.getD cuts.length [] = row at *
  obtain ⟨a, n, cap, rfl, hn, hmax, -⟩ := SliceR.shape h
  obtain ⟨a2, n2, cap2, rfl, hn2, hmax2, -⟩ := SliceR.shape hc
  obtain ⟨a4, n4, cap4, rfl, -⟩ := SliceR.shape hk
  obtain ⟨la, ln, lc, rfl, hln, -⟩ := SliceR.shape hL
  obtain ⟨ra, rn, rc, rfl, hrn, -⟩ := SliceR.shape hr
  have HT := Lib.hid (fun (k : Nat) (hk : k < n) => rows_at h hk)
  have HC := Lib.hid (fun (k : Nat) (hk : k < n2) => rows_at hc hk)
  have HLA := Lib.hid (fun (k : Nat) (hk : k < ln) => locks_at hL hk)
  have HX := Lib.hid (fun (k : Nat) (hk : k < rn) => ints_at hr hk)
  have hlnd : ln = doorsOf t := by rw [hln, HLL.out]
  have hrnd : rn = ln := by rw [hrn, hrl, hlnd]
  have hlastn : n2 < n := by omega
  have Hn := Lib.hid hn
  have Hn2 := Lib.hid hn2
  have Hln := Lib.hid hlnd
  have hlnm : ln ≤ 12 := by omega
  have HB : Hid (∀ w', Ext w w' → w'.cell? ⟨bl, 0, none⟩ = some (.slice la ln lc) ∧ w'.cell? ⟨br, 0, none⟩ = some (.slice ra rn rc) ∧ w'.cell? ⟨bc, 0, none⟩ = some (.slice a2 n2 cap2) ∧ w'.cell? ⟨bs, 5, none⟩ = some (.slice a n cap)) := fun w' e => ⟨e.cell cl, e.cell cr, e.cell cc, e.cell S0.c5⟩
  subst hrnd
  clear hn hn2 hln hrn hlnd hrl hdo h hc hk hL hr ok hlast HLL cl cr cc S0
  obtain ⟨b1, b2, b3, b4⟩ := HB.out w (Ext.refl _)
  go_enter Try.func115, Try.ntmps115
  go_wp2_with fail
  clear b1 b2 b3 b4
  go_loopw [7, 8, 9, 10, 13] (fun _ _ _ _ s13 wr => ∃ d : Nat, d ≤ rn ∧ s13 = .int .i64 d ∧ (∀ j, j < d → nB j = false ∧ ∀ k, k < cuts.length → oB j k = false) ∧ Ext w wr) (fun _ _ _ _ s13 _ => rn - (intOf s13).toNat)
  case atStart => exact ⟨0, Nat.zero_le _, rfl, by simp, Ext.refl _⟩
  case round =>
    obtain ⟨d, hd, rfl, hall, ew⟩ := hrel
    have Hall := Lib.hid hall
    clear hall
    by_cases hlt : d < rn
    · have hdl : d < doorsOf t := by rw [← Hln.out]; exact hlt
      have Hdl := Lib.hid hdl
      obtain ⟨bl', ol, rfl, a3, n3, k3, hn3, hcl, yl, -, hyl⟩ := HLA.out d hlt
      obtain ⟨br', or', rfl, hi, hcr⟩ := HX.out d hlt
      have HA := Lib.hid (HF1.out d)
      have HA2 := Lib.hid (HF2.out d)
      have HNd := Lib.hid (HNB.out d hdl)
      have HOd := Lib.hid (fun k hk => HOB.out d k hdl hk)
      have HCo := Lib.hid (HO1.out d hdl)
      have HCw := Lib.hid (HO2.out d hdl)
      have hclw := hcl wr ew
      have Hyl := Lib.hid hyl
      have Hcr := Lib.hid hcr
      clear hn3 hdl hcl hcr hyl
      generalize row.getD d 0 = x at *
      generalize ls.getD d [] = lk at *
      generalize opensB lk key = q at *
      obtain ⟨b1, b2, b3, b4⟩ := HB.out wr ew
      go_upto_region 4 with fail
      generalize hwX : World.alloc _ _ = wX
      obtain ⟨eX, lX⟩ : Ext wr wX ∧ wX.cell? ⟨wr.heap.size, 0, none⟩ = some (.slice a3 n3 k3) := by
        subst hwX
        exact ⟨Ext.alloc _ _, by simp⟩
      clear hwX b1 b2 b3 b4 hclw
      have ewX := ew.trans eX
      obtain ⟨b1, b2, b3, b4⟩ := HB.out wX ewX
      have r1 := Hcr.out wX ewX
      by_cases hx0 : x = 0
      · have hb0 : (x == 0) = true := by simpa using hx0
        clear hx0
        have hcall := HCo.out wX _ _ (Hyl.out wX ewX) ewX
        cases q with
        | true =>
          have HR : Hid (res = false) := HNd.out (by rw [HA.out, hb0]; rfl)
          go_wp2_with fail
          refine Calls.mono hcall ?_
          rintro e w2 hr
          obtain ⟨r, rfl, rfl, e2⟩ := ret_ext hr
          clear hr hcall
          go_wp2_with fail
          go_ret
          exact ⟨.bool false, rfl, congrArg Value.bool HR.out.symm, ewX.trans e2⟩
        | false =>
          go_wp2_with fail
          refine Calls.mono hcall ?_
          rintro e wY hr
          obtain ⟨r, rfl, rfl, e2⟩ := ret_ext hr
          clear hr hcall
          have ewY := ewX.trans e2
          have lY := e2.cell lX
          have HNf : Hid (nB d = false) := by show _ = _; rw [HA.out, hb0]; rfl
          obtain ⟨b1, b2, b3, b4⟩ := HB.out wY ewY
          go_wp2_with fail
          clear b1 b2 b3 b4 r1
          obtain ⟨wo, rfl⟩ : ∃ wo, wo = wr := ⟨_, rfl⟩
          clear ew eX ewX lX e2
          go_loopw [9, 10, 30] (fun _ _ s30 wr => ∃ k : Nat, k ≤ n2 ∧ s30 = .int .i64 k ∧ (∀ j, j < k → oB d j = false) ∧ Ext w wr ∧ wr.cell? ⟨wo.heap.size, 0, none⟩ = some (.slice a3 n3 k3)) (fun _ _ s30 _ => n2 - (intOf s30).toNat)
          case atStart => exact ⟨0, Nat.zero_le _, rfl, by simp, ewY, lY⟩
          case round =>
            obtain ⟨k, hk, rfl, hold, ew, lw⟩ := hrel
            have Hold := Lib.hid hold
            clear hold ewY lY
            by_cases hltk : k < n2
            · obtain ⟨bc', oc, rfl, a5, n5, k5, hn5, hm5, -, hcc, ⟨yc, -, hyc⟩, -⟩ := HC.out k hltk
              obtain ⟨bt, ot, rfl, a6, n6, k6, hn6, hm6, -, hct, -, hel⟩ := HT.out k (by omega)
              have hd6 : d < n6 := by rw [hn6, HRow.out k (by rw [← Hn.out]; omega)]; exact Hdl.out
              obtain ⟨b7, o7, rfl, hx7, hc7⟩ := hel d hd6
              have hkc : k < cuts.length := by rw [← Hn2.out]; exact hltk
              have hkn : k < n := by omega
              obtain ⟨b1, b2, b3, b4⟩ := HB.out wr ew
              have r1 := Hcr.out wr ew
              have r2 := hcc wr ew
              have r3 := hct wr ew
              have r4 := hc7 wr ew
              have HAk := Lib.hid (HA2.out k)
              have HOk := Lib.hid (HOd.out k hkc)
              have HCall := Lib.hid (HCw.out k hkc wr _ _ (Hyl.out wr ew) _ _ (hyc wr ew) ew)
              have Hgo : Hid (oB d k = false → ∀ j, j < k + 1 → oB d j = false) := fun h j hj => by
                by_cases e : j = k
                · rw [e]; exact h
                · exact Hold.out j (by omega)
              clear hn5 hcc hyc hn6 hct hel hc7 hkc
              generalize (t.getD k []).getD d 0 = x2 at *
              generalize opensWith lk key (cuts.getD k []) = q2 at *
              by_cases hx1 : x = 1
              · have hb1 : (x == 1) = true := by simpa using hx1
                clear hx1
                by_cases hx2 : x2 = 0
                · have hb2 : (x2 == 0) = true := by simpa using hx2
                  clear hx2
                  have hcall := HCall.out
                  cases q2 with
                  | true =>
                    have HR : Hid (res = false) := HOk.out (by rw [HAk.out, hb1, hb2]; rfl)
                    clear HCall HAk
                    go_wp2_with fail
                    refine Calls.mono hcall ?_
                    rintro e w2 hr
                    obtain ⟨r, rfl, rfl, e2⟩ := ret_ext hr
                    clear hr hcall
                    go_wp2_with fail
                    go_ret
                    exact ⟨.bool false, rfl, congrArg Value.bool HR.out.symm, ew.trans e2⟩
                  | false =>
                    have HG := Lib.hid (Hgo.out (by rw [HAk.out, hb1, hb2]; rfl))
                    clear HCall HAk
                    go_wp2_with fail
                    refine Calls.mono hcall ?_
                    rintro e w2 hr
                    obtain ⟨r, rfl, rfl, e2⟩ := ret_ext hr
                    clear hr hcall
                    go_wp2_with fail
                    go_roundw
                    case rel => exact ⟨k+1, by omega, by go_num, HG.out, ew.trans e2, e2.cell lw⟩
                    case measure => simp [intOf]; omega
                · have hb2 : (x2 == 0) = false := by simpa using hx2
                  have HG := Lib.hid (Hgo.out (by rw [HAk.out, hb1, hb2]; rfl))
                  clear hx2 HCall HAk
                  go_wp2_with fail
                  go_roundw
                  case rel => exact ⟨k+1, by omega, by go_num, HG.out, ew, lw⟩
                  case measure => simp [intOf]; omega
              · have hb1 : (x == 1) = false := by simpa using hx1
                have HG := Lib.hid (Hgo.out (by rw [HAk.out, hb1]; rfl))
                clear hx1 HCall HAk
                go_wp2_with fail
                go_roundw
                case rel => exact ⟨k+1, by omega, by go_num, HG.out, ew, lw⟩
                case measure => simp [intOf]; omega
            · have HG : Hid (∀ j, j < d + 1 → nB j = false ∧ ∀ k, k < cuts.length → oB j k = false) := fun j hj => by
                by_cases e : j = d
                · rw [e]; exact ⟨HNf.out, fun i hi => Hold.out i (by have := Hn2.out; omega)⟩
                · exact Hall.out j (by omega)
              go_wp2_with fail
              go_roundw
              case rel => exact ⟨d+1, by omega, by go_num, HG.out, ew⟩
              case measure => simp [intOf]; omega
      · have hb0 : (x == 0) = false := by simpa using hx0
        clear hx0
        obtain ⟨wY, hwY⟩ : ∃ wY, wY = wX := ⟨_, rfl⟩
        have ewY := ewX
        have lY := lX
        clear hwY
        have HNf : Hid (nB d = false) := by show _ = _; rw [HA.out, hb0, Bool.false_and]
        obtain ⟨b1, b2, b3, b4⟩ := HB.out wX ewX
        go_wp2_with fail
        clear b1 b2 b3 b4 r1
        obtain ⟨wo, rfl⟩ : ∃ wo, wo = wr := ⟨_, rfl⟩
        clear ew eX ewX lX
        go_loopw [9, 10, 30] (fun _ _ s30 wr => ∃ k : Nat, k ≤ n2 ∧ s30 = .int .i64 k ∧ (∀ j, j < k → oB d j = false) ∧ Ext w wr ∧ wr.cell? ⟨wo.heap.size, 0, none⟩ = some (.slice a3 n3 k3)) (fun _ _ s30 _ => n2 - (intOf s30).toNat)
        case atStart => exact ⟨0, Nat.zero_le _, rfl, by simp, ewY, lY⟩
        case round =>
          obtain ⟨k, hk, rfl, hold, ew, lw⟩ := hrel
          have Hold := Lib.hid hold
          clear hold ewY lY
          by_cases hltk : k < n2
          · obtain ⟨bc', oc, rfl, a5, n5, k5, hn5, hm5, -, hcc, ⟨yc, -, hyc⟩, -⟩ := HC.out k hltk
            obtain ⟨bt, ot, rfl, a6, n6, k6, hn6, hm6, -, hct, -, hel⟩ := HT.out k (by omega)
            have hd6 : d < n6 := by rw [hn6, HRow.out k (by rw [← Hn.out]; omega)]; exact Hdl.out
            obtain ⟨b7, o7, rfl, hx7, hc7⟩ := hel d hd6
            have hkc : k < cuts.length := by rw [← Hn2.out]; exact hltk
            have hkn : k < n := by omega
            obtain ⟨b1, b2, b3, b4⟩ := HB.out wr ew
            have r1 := Hcr.out wr ew
            have r2 := hcc wr ew
            have r3 := hct wr ew
            have r4 := hc7 wr ew
            have HAk := Lib.hid (HA2.out k)
            have HOk := Lib.hid (HOd.out k hkc)
            have HCall := Lib.hid (HCw.out k hkc wr _ _ (Hyl.out wr ew) _ _ (hyc wr ew) ew)
            have Hgo : Hid (oB d k = false → ∀ j, j < k + 1 → oB d j = false) := fun h j hj => by
              by_cases e : j = k
              · rw [e]; exact h
              · exact Hold.out j (by omega)
            clear hn5 hcc hyc hn6 hct hel hc7 hkc
            generalize (t.getD k []).getD d 0 = x2 at *
            generalize opensWith lk key (cuts.getD k []) = q2 at *
            by_cases hx1 : x = 1
            · have hb1 : (x == 1) = true := by simpa using hx1
              clear hx1
              by_cases hx2 : x2 = 0
              · have hb2 : (x2 == 0) = true := by simpa using hx2
                clear hx2
                have hcall := HCall.out
                cases q2 with
                | true =>
                  have HR : Hid (res = false) := HOk.out (by rw [HAk.out, hb1, hb2]; rfl)
                  clear HCall HAk
                  go_wp2_with fail
                  refine Calls.mono hcall ?_
                  rintro e w2 hr
                  obtain ⟨r, rfl, rfl, e2⟩ := ret_ext hr
                  clear hr hcall
                  go_wp2_with fail
                  go_ret
                  exact ⟨.bool false, rfl, congrArg Value.bool HR.out.symm, ew.trans e2⟩
                | false =>
                  have HG := Lib.hid (Hgo.out (by rw [HAk.out, hb1, hb2]; rfl))
                  clear HCall HAk
                  go_wp2_with fail
                  refine Calls.mono hcall ?_
                  rintro e w2 hr
                  obtain ⟨r, rfl, rfl, e2⟩ := ret_ext hr
                  clear hr hcall
                  go_wp2_with fail
                  go_roundw
                  case rel => exact ⟨k+1, by omega, by go_num, HG.out, ew.trans e2, e2.cell lw⟩
                  case measure => simp [intOf]; omega
              · have hb2 : (x2 == 0) = false := by simpa using hx2
                have HG := Lib.hid (Hgo.out (by rw [HAk.out, hb1, hb2]; rfl))
                clear hx2 HCall HAk
                go_wp2_with fail
                go_roundw
                case rel => exact ⟨k+1, by omega, by go_num, HG.out, ew, lw⟩
                case measure => simp [intOf]; omega
            · have hb1 : (x == 1) = false := by simpa using hx1
              have HG := Lib.hid (Hgo.out (by rw [HAk.out, hb1]; rfl))
              clear hx1 HCall HAk
              go_wp2_with fail
              go_roundw
              case rel => exact ⟨k+1, by omega, by go_num, HG.out, ew, lw⟩
              case measure => simp [intOf]; omega
          · have HG : Hid (∀ j, j < d + 1 → nB j = false ∧ ∀ k, k < cuts.length → oB j k = false) := fun j hj => by
              by_cases e : j = d
              · rw [e]; exact ⟨HNf.out, fun i hi => Hold.out i (by have := Hn2.out; omega)⟩
              · exact Hall.out j (by omega)
            go_wp2_with fail
            go_roundw
            case rel => exact ⟨d+1, by omega, by go_num, HG.out, ew⟩
            case measure => simp [intOf]; omega
    · have hdd : d = doorsOf t := by have := Hln.out; omega
      have HR : Hid (res = true) := HOK.out (fun j hj => Hall.out j (by omega))
      go_wp2_with fail
      go_ret
      exact ⟨.bool true, rfl, congrArg Value.bool HR.out.symm, ew⟩

open Go.ChangeShapes Go.WideShapes Go.ChangeAt Go.RowKit
set_option linter.unusedVariables false

def StaysV (F : FuncId) (mk : MK) (t cuts : List (List Int)) (x : Value × Value) (r : Value) (w' : World) : Prop := ∃ (bl br bc bs : Nat) (vl : Value) (zl : Zone) (vr : Value) (zr : Zone), r = .func (.func F) #[] #[.pointer (some ⟨bl, 0, none⟩), .pointer (some ⟨br, 0, none⟩), .pointer (some ⟨bc, 0, none⟩), .pointer (some ⟨bs, 0, none⟩)] ∧
  LocksR zl w' vl (locks mk t cuts) ∧ IntsR zr w' vr (t.getD cuts.length []) ∧ w'.cell? ⟨bl, 0, none⟩ = some vl ∧ w'.cell? ⟨br, 0, none⟩ = some vr ∧ w'.cell? ⟨bc, 0, none⟩ = some x.2 ∧ SysAt w' bs mk x.1
theorem sysAt_of {w : World} {b : Nat} {mk : MK} {u : Value} {X : Prop} (h : w.cell? ⟨b, 0, none⟩ = some (.int .i64 mk.c) ∧ w.cell? ⟨b, 1, none⟩ = some (.int .i64 mk.d) ∧ w.cell? ⟨b, 2, none⟩ = some (.int .i64 mk.s) ∧ w.cell? ⟨b, 3, none⟩ = some (.int .i64 mk.m) ∧ w.cell? ⟨b, 4, none⟩ = some (.int .i64 mk.l) ∧ w.cell? ⟨b, 5, none⟩ = some u ∧ X) : SysAt w b mk u :=
  ⟨h.1, h.2.1, h.2.2.1, h.2.2.2.1, h.2.2.2.2.1, h.2.2.2.2.2.1⟩
theorem zone_new {S w : World} {v : Value} {ls : List (List (List Int))} (h : LocksR (.new S w) w v ls) : ∃ Z, Z = Zone.new S w ∧ LocksR Z w v ls := ⟨_, rfl, h⟩
theorem keep_set {α : Type} {E : Repr α} (hE : Stable E) {z : Zone} {w : World} {v : Value} {x : α} {p : Addr} {u : Value} (h : E z w v x) (hp : ¬ z.Has p.block) : E z (w.setCell p u) v x :=
  hE.within h ((Within.refl ⟨p.block, p.block + 1, true⟩ w).setCell ⟨Nat.le_refl _, Nat.lt_succ_self _⟩ u) (fun k h1 h2 => hp (by
    have e : k = p.block := by have q1 := h2.1; have q2 := h2.2; simp only at q1 q2; omega
    rw [← e]; exact h1))
theorem afterA1 {w W : World} {u : Value} {t : TypeId} (e : Ext (w.alloc (.cells #[u] t)).drew W) : W.cell? ⟨w.heap.size, 0, none⟩ = some u ∧ W.frozen? ⟨w.heap.size, 0, none⟩ = false :=
  ⟨e.cell (by simp), (Below.frozen e (by simp)).trans (by go_simp)⟩
theorem afterA2 {w W : World} {u u' : Value} {t t' : TypeId} (e : Ext ((w.alloc (.cells #[u] t)).alloc (.cells #[u'] t')).drew W) : W.cell? ⟨w.heap.size, 0, none⟩ = some u ∧ W.frozen? ⟨w.heap.size, 0, none⟩ = false ∧ W.cell? ⟨w.heap.size + 1, 0, none⟩ = some u' ∧ W.frozen? ⟨w.heap.size + 1, 0, none⟩ = false :=
  ⟨e.cell (by simp), (Below.frozen e (by simp; omega)).trans (by go_simp), e.cell (by simp), (Below.frozen e (by simp)).trans (by go_simp)⟩
theorem keep_store {w W : World} {p : Addr} {u : Value} (h : Ext w W) (hp : w.heap.size ≤ p.block) : Ext w (W.setCell p u) := Below.setCell h hp u

set_option maxRecDepth 20000 in
set_option maxHeartbeats 1000000 in
theorem staysOpen_c (w : World) (mk : MK) (v : Value) (z : Zone) (t : List (List Int)) (h : RowsR z w v t) (u : Value) (y : Zone) (cuts : List (List Int)) (hc : RowsR y w u cuts) (ok : PartOk mk t cuts) (hlast : cuts.length < t.length) :
    Calls Try.prog 79 #[sysV mk v, u] w (Ret w (StaysV 115 mk t cuts (v, u))) := by
  have HL := Lib.hid (fun (w' : World) (e : Ext w w') => partLocks_c w' mk v z t (stable_rows.ext h e) u y cuts (stable_rows.ext hc e) ok)
  obtain ⟨a, n, cap, rfl, hn, hmax, -⟩ := SliceR.shape h
  obtain ⟨a2, n2, cap2, rfl, hn2, hmax2, -⟩ := SliceR.shape hc
  obtain ⟨b, off, rfl, ra, rn, rc, hrn, hrm, -, hcr, ⟨yr, -, hyr⟩, -⟩ := rows_at h (k := n2) (by omega)
  have hlt : n2 < n := by omega
  have Hn2 := Lib.hid hn2
  have Hyr := Lib.hid hyr
  have Hcr := Lib.hid hcr
  clear hn hn2 hrn hcr hyr h hc ok hlast
  unfold sysV at *
  go_enter Try.func79, Try.ntmps79
  go_wp2_with fail
  generalize hw1 : World.alloc _ _ = w1
  obtain ⟨e1, HA⟩ : Ext w w1 ∧ Hid (∀ w', Ext w1 w' → w'.cell? ⟨w.heap.size, 0, none⟩ = some (.int .i64 mk.c) ∧ w'.cell? ⟨w.heap.size, 1, none⟩ = some (.int .i64 mk.d) ∧ w'.cell? ⟨w.heap.size, 2, none⟩ = some (.int .i64 mk.s) ∧ w'.cell? ⟨w.heap.size, 3, none⟩ = some (.int .i64 mk.m) ∧ w'.cell? ⟨w.heap.size, 4, none⟩ = some (.int .i64 mk.l) ∧ w'.cell? ⟨w.heap.size, 5, none⟩ = some (.slice (some ⟨b, off, none⟩) n cap) ∧ w'.cell? ⟨w.heap.size + 1, 0, none⟩ = some (.slice a2 n2 cap2) ∧ w'.cell? ⟨b, off + n2, none⟩ = some (.slice ra rn rc)) := by
    have e1 : Ext w w1 := by rw [← hw1]; exact (Ext.alloc _ _).trans (Ext.alloc _ _)
    refine ⟨e1, fun w' e => ⟨e.cell ?_, e.cell ?_, e.cell ?_, e.cell ?_, e.cell ?_, e.cell ?_, e.cell ?_, Hcr.out w' (e1.trans e)⟩⟩
    all_goals (rw [← hw1]; clear e hw1 e1 Hcr Hyr HL; go_simp)
  clear hw1
  obtain ⟨c0, c1, c2, c3, c4, c5, c6, c7⟩ := HA.out w1 (Ext.refl _)
  go_region_held3 (fun w' => w'.cell? ⟨w.heap.size, 0, none⟩ = some (.int .i64 mk.c) ∧ w'.cell? ⟨w.heap.size, 1, none⟩ = some (.int .i64 mk.d) ∧ w'.cell? ⟨w.heap.size, 2, none⟩ = some (.int .i64 mk.s) ∧ w'.cell? ⟨w.heap.size, 3, none⟩ = some (.int .i64 mk.m) ∧ w'.cell? ⟨w.heap.size, 4, none⟩ = some (.int .i64 mk.l) ∧ w'.cell? ⟨w.heap.size, 5, none⟩ = some (.slice (some ⟨b, off, none⟩) n cap) ∧ w'.cell? ⟨w.heap.size + 1, 0, none⟩ = some (.slice a2 n2 cap2) ∧ w'.cell? ⟨b, off + n2, none⟩ = some (.slice ra rn rc)) (exact HA.out _ (by repeat (first | with_reducible exact Ext.refl _ | with_reducible assumption | (with_reducible refine Ext.trans ?_ (Ext.drew _)) | (with_reducible refine Ext.trans ?_ (Ext.alloc _ _)) | (with_reducible refine keep_store ?_ (Nat.le_refl _)) | (with_reducible refine keep_store ?_ (Nat.le_succ _)) | (with_reducible refine keep_store ?_ zX) | (with_reducible refine keep_store ?_ (Nat.le_succ_of_le zX))))) (first | (go_at_call 58; (with_reducible refine (HL.out _ (by repeat (first | exact Ext.refl _ | assumption | (refine Ext.trans ?_ (Ext.alloc _ _)) | (refine Ext.trans ?_ (Ext.drew _)) | (refine Ext.trans ?_ (by assumption))))).mono ?_); rintro e w7 hr7; obtain ⟨r7, rfl, o7, e7⟩ := ret_ext hr7; clear hr7; obtain ⟨a7, n7, k7, rfl, -⟩ := SliceR.shape o7; obtain ⟨Z7, hZ7, o7⟩ := zone_new o7; have eX : Ext w1 w7 := (by repeat (first | exact Ext.refl _ | assumption | (refine Ext.trans ?_ (Ext.alloc _ _)) | (refine Ext.trans ?_ (Ext.drew _)) | (refine Ext.trans ?_ (by assumption)))); have zX := Ext.size eX; (first | (with_reducible have q := afterA2 e7; obtain ⟨q5, f5, q6, f6⟩ := q; have z5 := World.block_lt_of_cell? _ _ q5; have z6 := World.block_lt_of_cell? _ _ q6; simp only at z5 z6) | (with_reducible have q := afterA1 e7; obtain ⟨q5, f5⟩ := q; have z5 := World.block_lt_of_cell? _ _ q5; simp only at z5; have z5' := Nat.ne_of_lt z5; have z5'' := Nat.ne_of_gt z5) | skip); clear c0 c1 c2 c3 c4 c5 c6 c7) | fail)
  all_goals
    have HAo := HA
    clear HA
    go_wp2_with fail
    go_ret
    refine ⟨_, rfl, ⟨_, _, _, _, .slice a7 n7 k7, Z7, .slice ra rn rc, yr, rfl, ?_, ?_, ?_, ?_, ?_, ?_⟩, ?_⟩
    · repeat (first | exact o7 | (refine stable_locks.ext ?_ (Ext.alloc _ _)) | (refine keep_set stable_locks ?_ (fun h => by have q := h.1; rw [hZ7] at q; simp [Zone.new] at q <;> omega)))
    · rw [← Hn2.out]; exact Hyr.out _ (e1.trans (by repeat (first | with_reducible exact Ext.refl _ | with_reducible assumption | (with_reducible refine Ext.trans ?_ (Ext.drew _)) | (with_reducible refine Ext.trans ?_ (Ext.alloc _ _)) | (with_reducible refine keep_store ?_ (Nat.le_refl _)) | (with_reducible refine keep_store ?_ (Nat.le_succ _)) | (with_reducible refine keep_store ?_ zX) | (with_reducible refine keep_store ?_ (Nat.le_succ_of_le zX)))))
    · go_simp
    · go_simp
    · exact (HAo.out _ (by repeat (first | with_reducible exact Ext.refl _ | with_reducible assumption | (with_reducible refine Ext.trans ?_ (Ext.drew _)) | (with_reducible refine Ext.trans ?_ (Ext.alloc _ _)) | (with_reducible refine keep_store ?_ (Nat.le_refl _)) | (with_reducible refine keep_store ?_ (Nat.le_succ _)) | (with_reducible refine keep_store ?_ zX) | (with_reducible refine keep_store ?_ (Nat.le_succ_of_le zX))))).2.2.2.2.2.2.1
    · exact sysAt_of (HAo.out _ (by repeat (first | with_reducible exact Ext.refl _ | with_reducible assumption | (with_reducible refine Ext.trans ?_ (Ext.drew _)) | (with_reducible refine Ext.trans ?_ (Ext.alloc _ _)) | (with_reducible refine keep_store ?_ (Nat.le_refl _)) | (with_reducible refine keep_store ?_ (Nat.le_succ _)) | (with_reducible refine keep_store ?_ zX) | (with_reducible refine keep_store ?_ (Nat.le_succ_of_le zX)))))
    · exact e1.trans (by repeat (first | with_reducible exact Ext.refl _ | with_reducible assumption | (with_reducible refine Ext.trans ?_ (Ext.drew _)) | (with_reducible refine Ext.trans ?_ (Ext.alloc _ _)) | (with_reducible refine keep_store ?_ (Nat.le_refl _)) | (with_reducible refine keep_store ?_ (Nat.le_succ _)) | (with_reducible refine keep_store ?_ zX) | (with_reducible refine keep_store ?_ (Nat.le_succ_of_le zX))))

open Go.ChangeShapes Go.WideShapes Go.ChangeAt Go.RowKit
set_option linter.unusedVariables false

theorem withFirstI (w : World) (mk : MK) (v : Value) (z : Zone) (t : List (List Int)) (h : RowsR z w v t) (u : Value) (y : Zone) (row : List Int) {cuts keys : List (List Int)} (hr : IntsR y w u row) (ok : RowCodeOk mk t cuts row keys) :
    Calls Try.prog 80 #[sysV mk v, u] w (Ret w fun r w' => ∃ v', r = sysV mk v' ∧ RowsR ⟨w.heap.size, w'.heap.size, false⟩ w' v' (t ++ [row])) :=
  withRow_c w mk v z t h u y row hr (by have := ok.len; omega) (fun k hk => by rw [ok.row k hk]; have := ok.doors; omega) (by rw [ok.row_len]; have := ok.doors; omega)

set_option maxRecDepth 20000 in
set_option maxHeartbeats 1000000 in
theorem CanIssue_c (w : World) (mk : MK) (v : Value) (z : Zone) (t : List (List Int)) (h : RowsR z w v t) (u : Value) (y : Zone) (cuts : List (List Int)) (hc : RowsR y w u cuts) (v3 : Value) (z3 : Zone) (row : List Int) (hr : IntsR z3 w v3 row) (v4 : Value) (z4 : Zone) (key : List Int) (hk : IntsR z4 w v4 key) :
    Calls Try.prog 40 #[sysV mk v, u, v3, v4] w (Ret w fun r _ => r = BoolCode (canIssue mk t cuts row key)) := by
  have H1 : Hid (rowCode mk t cuts row [key] ≠ 0 → canIssue mk t cuts row key = (false, rowCode mk t cuts row [key])) := canIssue_bad
  have H2 : Hid (rowCode mk t cuts row [key] = 0 → canIssue mk t cuts row key = (stays mk (t ++ [row]) cuts key, 0)) := canIssue_ok
  have HC1 := Lib.hid (fun (w' : World) (e : Ext w w') (u4 : Value) (z5 : Zone) (g : RowsR z5 w' u4 [key]) => rowCode_c w' mk v z t (stable_rows.ext h e) u y cuts (stable_rows.ext hc e) v3 z3 row (stable_ints.ext hr e) u4 z5 [key] g)
  have HC2 := Lib.hid (fun (h0 : rowCode mk t cuts row [key] = 0) (w' : World) (e : Ext w w') => withFirstI w' mk v z t (stable_rows.ext h e) v3 z3 row (stable_ints.ext hr e) (rowCode_zero h0))
  have HC3 := Lib.hid (fun (h0 : rowCode mk t cuts row [key] = 0) (w' : World) (e : Ext w w') (v' : Value) (x1 : Zone) (g1 : RowsR x1 w' v' (t ++ [row])) => staysOpen_c w' mk v' x1 _ g1 u y cuts (stable_rows.ext hc e) (partOk_front (rowCode_zero h0)) (by have := (rowCode_zero h0).eq; simp; omega))
  have HC4 := Lib.hid (fun (h0 : rowCode mk t cuts row [key] = 0) (w' : World) (e : Ext w w') (v' : Value) (x1 : Zone) (g1 : RowsR x1 w' v' (t ++ [row])) (vl : Value) (zl : Zone) (hL : LocksR zl w' vl (locks mk (t ++ [row]) cuts)) (vr : Value) (zr : Zone) (hr : IntsR zr w' vr ((t ++ [row]).getD cuts.length [])) (bl br bc bs : Nat) (cl : w'.cell? ⟨bl, 0, none⟩ = some vl) (cr : w'.cell? ⟨br, 0, none⟩ = some vr) (cc : w'.cell? ⟨bc, 0, none⟩ = some u) (S0 : SysAt w' bs mk v') =>
    stays1_c w' mk v' x1 _ g1 u y cuts (stable_rows.ext hc e) (partOk_front (rowCode_zero h0)) (by have := (rowCode_zero h0).eq; simp; omega) v4 z4 key (stable_ints.ext hk e) ((rowCode_zero h0).row_keys key (List.mem_singleton.2 rfl)) vl zl hL vr zr hr bl br bc bs cl cr cc S0)
  have HKey := Lib.hid (fun (w' : World) (e : Ext w w') => stable_ints.ext hk e)
  generalize canIssue mk t cuts row key = res at *
  generalize rowCode mk t cuts row [key] = rc at *
  generalize stays mk (t ++ [row]) cuts key = q at *
  obtain ⟨a, n, cap, rfl, -⟩ := SliceR.shape h
  obtain ⟨a2, n2, cap2, rfl, -⟩ := SliceR.shape hc
  obtain ⟨a3, n3, cap3, rfl, -⟩ := SliceR.shape hr
  obtain ⟨a4, n4, cap4, rfl, -⟩ := SliceR.shape hk
  clear h hc hr hk
  unfold sysV at *
  go_enter Try.func40, Try.ntmps40
  go_wp2_with fail
  generalize hw0 : World.alloc w _ = w0
  obtain ⟨e0, S0⟩ := sys_box hw0
  generalize hwk : World.alloc w0 _ = wk
  obtain ⟨ek, gk⟩ := rows_one (HKey.out w0 e0) hwk
  have hz0 : w0.heap.size = w.heap.size + 1 := by rw [← hw0]; simp
  rw [hz0] at gk
  clear hz0
  replace S0 := S0.ext ek
  clear hw0 hwk
  have etk := e0.trans ek
  refine Calls.mono (HC1.out wk etk _ _ gk) ?_
  rintro e w1 hr
  obtain ⟨r, rfl, rfl, e1⟩ := ret_ext hr
  clear hr gk
  obtain ⟨c0, c1, c2, c3, c4, c5⟩ := S0.ext e1
  have et := etk.trans e1
  by_cases hd : rc = 0
  · have hb : (rc != 0) = false := by rw [hd]; rfl
    have HH := Lib.hid (H2.out hd)
    have hcall := HC2.out hd w1 et
    have HD3 := Lib.hid (HC3.out hd)
    have HD4 := Lib.hid (HC4.out hd)
    clear hd H1 H2 S0 HC1 HC2 HC3 HC4
    go_wp2_with fail
    refine Calls.mono hcall ?_
    rintro e w2 hr
    obtain ⟨r, rfl, ⟨v', rfl, g1⟩, e2⟩ := ret_ext hr
    clear hr hcall
    obtain ⟨a5, n5, cap5, rfl, -⟩ := SliceR.shape g1
    have et2 := et.trans e2
    have hcall := HD3.out w2 et2 _ _ g1
    have G1 := Lib.hid g1
    clear g1
    go_wp2_with fail
    refine Calls.mono hcall ?_
    rintro e w3 hr
    obtain ⟨r, rfl, ⟨bl, br, bc, bs, vl, zl, vr, zr, rfl, hL, hR, k1, k2, k3, k4⟩, e3⟩ := ret_ext hr
    clear hr hcall
    have et3 := et2.trans e3
    have hcall := HD4.out w3 et3 _ _ (stable_rows.ext G1.out e3) vl zl hL vr zr hR bl br bc bs k1 k2 k3 k4
    clear hL hR k1 k2 k3 k4
    go_wp2_with fail
    refine Calls.mono hcall ?_
    rintro e w4 hr
    obtain ⟨r, rfl, rfl, e4⟩ := ret_ext hr
    clear hr hcall
    go_wp2_with fail
    go_ret2
    exact ⟨_, rfl, BoolCode_mk HH.out, et3.trans e4⟩
  · have hb : (rc != 0) = true := by rw [bne_iff_ne]; exact hd
    have HH := Lib.hid (H1.out hd)
    clear hd H1 H2 S0
    go_wp2_with fail
    go_ret2
    exact ⟨_, rfl, BoolCode_mk HH.out, et⟩
end Go.Proofs.Ytgagjibjnaappaa
