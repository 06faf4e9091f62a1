/- Proved: the closure that staysOpen makes. -/
import Derived.Test.YtegmognpofcfiaaGreatChecked
import Derived.Deep.RegionHeld3
import Derived.Test.YtegmognpofcfiaaGreatUStaysBody
namespace Go.Proofs.YtegmognpofcfiaaGreat
open Go.ChangeShapes Go.WideShapes Go.ChangeAt Go.RowKit
set_option linter.unusedVariables false

def StaysV (F : FuncId) (mk : MK) (t cuts : List (List Int)) (x : Value × Value) (N : Nat → Prop) (r : Value) (w' : World) : Prop := ∃ (bl br bc bs : Nat) (vl : Value) (zl : Zone) (vr : Value) (zr : Zone), r = .func (.func F) #[] #[.pointer (some ⟨bl, 0, none⟩), .pointer (some ⟨br, 0, none⟩), .pointer (some ⟨bc, 0, none⟩), .pointer (some ⟨bs, 0, none⟩)] ∧
  LocksR zl w' vl (locks mk t cuts) ∧ IntsR zr w' vr (t.getD cuts.length []) ∧ w'.cell? ⟨bl, 0, none⟩ = some vl ∧ w'.cell? ⟨br, 0, none⟩ = some vr ∧ w'.cell? ⟨bc, 0, none⟩ = some x.2 ∧ SysAt w' bs mk x.1 ∧ (∀ k, zl.Has k → N k) ∧ (∀ k, zr.Has k → N k) ∧ N bl ∧ N br ∧ N bc ∧ N bs
theorem sysAt_of {w : World} {b : Nat} {mk : MK} {u : Value} {X : Prop} (h : w.cell? ⟨b, 0, none⟩ = some (.int .i64 mk.c) ∧ w.cell? ⟨b, 1, none⟩ = some (.int .i64 mk.d) ∧ w.cell? ⟨b, 2, none⟩ = some (.int .i64 mk.s) ∧ w.cell? ⟨b, 3, none⟩ = some (.int .i64 mk.m) ∧ w.cell? ⟨b, 4, none⟩ = some (.int .i64 mk.l) ∧ w.cell? ⟨b, 5, none⟩ = some u ∧ X) : SysAt w b mk u :=
  ⟨h.1, h.2.1, h.2.2.1, h.2.2.2.1, h.2.2.2.2.1, h.2.2.2.2.2.1⟩
theorem zone_new {S w : World} {v : Value} {ls : List (List (List Int))} (h : LocksR (.new S w) w v ls) : ∃ Z, Z = Zone.new S w ∧ LocksR Z w v ls := ⟨_, rfl, h⟩
theorem keep_set {α : Type} {E : Repr α} (hE : Stable E) {z : Zone} {w : World} {v : Value} {x : α} {p : Addr} {u : Value} (h : E z w v x) (hp : ¬ z.Has p.block) : E z (w.setCell p u) v x :=
  hE.within h ((Within.refl ⟨p.block, p.block + 1, true⟩ w).setCell ⟨Nat.le_refl _, Nat.lt_succ_self _⟩ u) (fun k h1 h2 => hp (by
    have e : k = p.block := by have q1 := h2.1; have q2 := h2.2; simp only at q1 q2; omega
    rw [← e]; exact h1))
theorem afterA1 {w W : World} {u : Value} {t : TypeId} (e : Ext (w.alloc (.cells #[u] t)).drew W) : W.cell? ⟨w.heap.size, 0, none⟩ = some u ∧ W.frozen? ⟨w.heap.size, 0, none⟩ = false :=
  ⟨e.cell (by simp), (Below.frozen e (by simp)).trans (by go_simp)⟩
theorem afterA2 {w W : World} {u u' : Value} {t t' : TypeId} (e : Ext ((w.alloc (.cells #[u] t)).alloc (.cells #[u'] t')).drew W) : W.cell? ⟨w.heap.size, 0, none⟩ = some u ∧ W.frozen? ⟨w.heap.size, 0, none⟩ = false ∧ W.cell? ⟨w.heap.size + 1, 0, none⟩ = some u' ∧ W.frozen? ⟨w.heap.size + 1, 0, none⟩ = false :=
  ⟨e.cell (by simp), (Below.frozen e (by simp; omega)).trans (by go_simp), e.cell (by simp), (Below.frozen e (by simp)).trans (by go_simp)⟩
theorem keep_store {w W : World} {p : Addr} {u : Value} (h : Ext w W) (hp : w.heap.size ≤ p.block) : Ext w (W.setCell p u) := Below.setCell h hp u

set_option maxRecDepth 20000 in
set_option maxHeartbeats 1000000 in
theorem staysOpen_c (w : World) (mk : MK) (v : Value) (z : Zone) (t : List (List Int)) (h : RowsR z w v t) (u : Value) (y : Zone) (cuts : List (List Int)) (hc : RowsR y w u cuts) (ok : PartOk mk t cuts) (hlast : cuts.length < t.length) (N : Nat → Prop) (hN1 : ∀ k, w.heap.size ≤ k → N k) (hN2 : ∀ k, z.Has k → N k) :
    Calls Tryz.prog 131 #[sysV mk v, u] w (Ret w (StaysV 201 mk t cuts (v, u) N)) := by
  have HL := Lib.hid (fun (w' : World) (e : Ext w w') => partLocks_c w' mk v z t (stable_rows.ext h e) u y cuts (stable_rows.ext hc e) ok)
  obtain ⟨a, n, cap, rfl, hn, hmax, -⟩ := SliceR.shape h
  obtain ⟨a2, n2, cap2, rfl, hn2, hmax2, -⟩ := SliceR.shape hc
  obtain ⟨b, off, rfl, ra, rn, rc, hrn, hrm, -, hcr, ⟨yr, hys, hyr⟩, -⟩ := rows_at h (k := n2) (by omega)
  have HN1 := Lib.hid hN1
  have HN3 : Hid (∀ k, yr.Has k → N k) := fun k hk => hN2 k (hys.1 k hk)
  clear hN1 hN2 hys
  have hlt : n2 < n := by omega
  have Hn2 := Lib.hid hn2
  have Hyr := Lib.hid hyr
  have Hcr := Lib.hid hcr
  clear hn hn2 hrn hcr hyr h hc ok hlast
  unfold sysV at *
  go_enter Tryz.func131, Tryz.ntmps131
  go_wp2_with fail
  generalize hw1 : World.alloc _ _ = w1
  obtain ⟨e1, HA⟩ : Ext w w1 ∧ Hid (∀ w', Ext w1 w' → w'.cell? ⟨w.heap.size, 0, none⟩ = some (.int .i64 mk.c) ∧ w'.cell? ⟨w.heap.size, 1, none⟩ = some (.int .i64 mk.d) ∧ w'.cell? ⟨w.heap.size, 2, none⟩ = some (.int .i64 mk.s) ∧ w'.cell? ⟨w.heap.size, 3, none⟩ = some (.int .i64 mk.m) ∧ w'.cell? ⟨w.heap.size, 4, none⟩ = some (.int .i64 mk.l) ∧ w'.cell? ⟨w.heap.size, 5, none⟩ = some (.slice (some ⟨b, off, none⟩) n cap) ∧ w'.cell? ⟨w.heap.size + 1, 0, none⟩ = some (.slice a2 n2 cap2) ∧ w'.cell? ⟨b, off + n2, none⟩ = some (.slice ra rn rc)) := by
    have e1 : Ext w w1 := by rw [← hw1]; exact (Ext.alloc _ _).trans (Ext.alloc _ _)
    refine ⟨e1, fun w' e => ⟨e.cell ?_, e.cell ?_, e.cell ?_, e.cell ?_, e.cell ?_, e.cell ?_, e.cell ?_, Hcr.out w' (e1.trans e)⟩⟩
    all_goals (rw [← hw1]; clear e hw1 e1 Hcr Hyr HL; go_simp)
  clear hw1
  obtain ⟨c0, c1, c2, c3, c4, c5, c6, c7⟩ := HA.out w1 (Ext.refl _)
  go_region_held3 (fun w' => w'.cell? ⟨w.heap.size, 0, none⟩ = some (.int .i64 mk.c) ∧ w'.cell? ⟨w.heap.size, 1, none⟩ = some (.int .i64 mk.d) ∧ w'.cell? ⟨w.heap.size, 2, none⟩ = some (.int .i64 mk.s) ∧ w'.cell? ⟨w.heap.size, 3, none⟩ = some (.int .i64 mk.m) ∧ w'.cell? ⟨w.heap.size, 4, none⟩ = some (.int .i64 mk.l) ∧ w'.cell? ⟨w.heap.size, 5, none⟩ = some (.slice (some ⟨b, off, none⟩) n cap) ∧ w'.cell? ⟨w.heap.size + 1, 0, none⟩ = some (.slice a2 n2 cap2) ∧ w'.cell? ⟨b, off + n2, none⟩ = some (.slice ra rn rc)) (exact HA.out _ (by repeat (first | with_reducible exact Ext.refl _ | with_reducible assumption | (with_reducible refine Ext.trans ?_ (Ext.drew _)) | (with_reducible refine Ext.trans ?_ (Ext.alloc _ _)) | (with_reducible refine keep_store ?_ (Nat.le_refl _)) | (with_reducible refine keep_store ?_ (Nat.le_succ _)) | (with_reducible refine keep_store ?_ zX) | (with_reducible refine keep_store ?_ (Nat.le_succ_of_le zX))))) (first | (go_at_call 100; (with_reducible refine (HL.out _ (by repeat (first | exact Ext.refl _ | assumption | (refine Ext.trans ?_ (Ext.alloc _ _)) | (refine Ext.trans ?_ (Ext.drew _)) | (refine Ext.trans ?_ (by assumption))))).mono ?_); rintro e w7 hr7; obtain ⟨r7, rfl, o7, e7⟩ := ret_ext hr7; clear hr7; obtain ⟨a7, n7, k7, rfl, -⟩ := SliceR.shape o7; obtain ⟨Z7, hZ7, o7⟩ := zone_new o7; have eX : Ext w1 w7 := (by repeat (first | exact Ext.refl _ | assumption | (refine Ext.trans ?_ (Ext.alloc _ _)) | (refine Ext.trans ?_ (Ext.drew _)) | (refine Ext.trans ?_ (by assumption)))); have zX := Ext.size eX; (first | (with_reducible have q := afterA2 e7; obtain ⟨q5, f5, q6, f6⟩ := q; have z5 := World.block_lt_of_cell? _ _ q5; have z6 := World.block_lt_of_cell? _ _ q6; simp only at z5 z6) | (with_reducible have q := afterA1 e7; obtain ⟨q5, f5⟩ := q; have z5 := World.block_lt_of_cell? _ _ q5; simp only at z5; have z5' := Nat.ne_of_lt z5; have z5'' := Nat.ne_of_gt z5) | skip); clear c0 c1 c2 c3 c4 c5 c6 c7) | fail)
  all_goals
    have HAo := HA
    clear HA
    go_wp2_with fail
    go_ret
    refine ⟨_, rfl, ⟨_, _, _, _, .slice a7 n7 k7, Z7, .slice ra rn rc, yr, rfl, ?_, ?_, ?_, ?_, ?_, ?_, ?_, HN3.out, ?_, ?_, ?_, ?_⟩, ?_⟩
    · repeat (first | exact o7 | (refine stable_locks.ext ?_ (Ext.alloc _ _)) | (refine keep_set stable_locks ?_ (fun h => by have q := h.1; rw [hZ7] at q; simp [Zone.new] at q <;> omega)))
    · rw [← Hn2.out]; exact Hyr.out _ (e1.trans (by repeat (first | with_reducible exact Ext.refl _ | with_reducible assumption | (with_reducible refine Ext.trans ?_ (Ext.drew _)) | (with_reducible refine Ext.trans ?_ (Ext.alloc _ _)) | (with_reducible refine keep_store ?_ (Nat.le_refl _)) | (with_reducible refine keep_store ?_ (Nat.le_succ _)) | (with_reducible refine keep_store ?_ zX) | (with_reducible refine keep_store ?_ (Nat.le_succ_of_le zX)))))
    · go_simp
    · go_simp
    · exact (HAo.out _ (by repeat (first | with_reducible exact Ext.refl _ | with_reducible assumption | (with_reducible refine Ext.trans ?_ (Ext.drew _)) | (with_reducible refine Ext.trans ?_ (Ext.alloc _ _)) | (with_reducible refine keep_store ?_ (Nat.le_refl _)) | (with_reducible refine keep_store ?_ (Nat.le_succ _)) | (with_reducible refine keep_store ?_ zX) | (with_reducible refine keep_store ?_ (Nat.le_succ_of_le zX))))).2.2.2.2.2.2.1
    · exact sysAt_of (HAo.out _ (by repeat (first | with_reducible exact Ext.refl _ | with_reducible assumption | (with_reducible refine Ext.trans ?_ (Ext.drew _)) | (with_reducible refine Ext.trans ?_ (Ext.alloc _ _)) | (with_reducible refine keep_store ?_ (Nat.le_refl _)) | (with_reducible refine keep_store ?_ (Nat.le_succ _)) | (with_reducible refine keep_store ?_ zX) | (with_reducible refine keep_store ?_ (Nat.le_succ_of_le zX)))))
    · intro k hk
      have q := hk.1
      rw [hZ7] at q
      have q2 := e1.size
      refine HN1.out k ?_
      simp [Zone.new] at q <;> omega
    · refine HN1.out _ ?_
      have q2 := e1.size
      simp <;> omega
    · refine HN1.out _ ?_
      have q2 := e1.size
      simp <;> omega
    · exact HN1.out _ (Nat.le_succ _)
    · exact HN1.out _ (Nat.le_refl _)
    · exact e1.trans (by repeat (first | with_reducible exact Ext.refl _ | with_reducible assumption | (with_reducible refine Ext.trans ?_ (Ext.drew _)) | (with_reducible refine Ext.trans ?_ (Ext.alloc _ _)) | (with_reducible refine keep_store ?_ (Nat.le_refl _)) | (with_reducible refine keep_store ?_ (Nat.le_succ _)) | (with_reducible refine keep_store ?_ zX) | (with_reducible refine keep_store ?_ (Nat.le_succ_of_le zX))))
end Go.Proofs.YtegmognpofcfiaaGreat
