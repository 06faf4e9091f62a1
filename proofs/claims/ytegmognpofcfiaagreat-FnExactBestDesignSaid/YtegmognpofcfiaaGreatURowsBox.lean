/- Proved: a variable of the call's own that holds a list of rows; and the visit of keys that collects them. -/
import Derived.Test.YtegmognpofcfiaaGreatChecked
import Derived.Deep.RegionLaw
import Derived.Test.YtegmognpofcfiaaGreatUEachKept
import Derived.Test.YtegmognpofcfiaaGreatUPkE
namespace Go.Proofs.YtegmognpofcfiaaGreat
open Go.ChangeShapes Go.WideShapes Go.ChangeAt Go.RowKit
set_option linter.unusedVariables false

theorem OwnP.keepA {α : Type} {f : α → Value} {e : TypeId} {B : Nat} {w w' : World} {v : Value} {xs : List α} (h : OwnP f e B w v xs) (hown : ∀ k, v.ownBlock = some k → w'.heap[k]? = w.heap[k]?) : OwnP f e B w' v xs := by
  obtain ⟨h1, h2⟩ := h
  refine ⟨h1, ?_⟩
  rcases h2 with h2 | ⟨g, cap, cur, hv, hbg, hg, r⟩
  · exact .inl h2
  · exact .inr ⟨g, cap, cur, hv, hbg, by rw [hown g (by rw [hv]; rfl)]; exact hg, r⟩
theorem OwnA.keepA {α : Type} {b : Bool} {A : Nat → Prop} {E : Repr α} {e : TypeId} {B : Nat} {w w' : World} {v : Value} {xs : List α} (hE : Stable E) (h : OwnA b A E e B w v xs) (hA : ∀ k, A k → w'.heap[k]? = w.heap[k]?) (hown : ∀ k, v.ownBlock = some k → w'.heap[k]? = w.heap[k]?) (hs : w.heap.size ≤ w'.heap.size) : OwnA b A E e B w' v xs := by
  obtain ⟨us, Z, hl, ho, h1, h2, h3⟩ := h
  exact ⟨us, Z, hl, ho.keepA hown, fun i hi => ⟨(h1 i hi).1, fun k hk => ⟨((h1 i hi).2 k hk).1, Nat.lt_of_lt_of_le ((h1 i hi).2 k hk).2.1 hs, ((h1 i hi).2 k hk).2.2⟩⟩, h2, fun i hi hi' => hE.keep (h3 i hi hi') (fun k hz _ => hA k ((h1 i hi).2 k hz).1)⟩
theorem OwnA.raise {α : Type} {b : Bool} {A : Nat → Prop} {E : Repr α} {e : TypeId} {B B' : Nat} {w : World} {v : Value} {xs : List α} (h : OwnA b A E e B w v xs) (hB : ∀ k, v.ownBlock = some k → B' ≤ k) : OwnA b A E e B' w v xs := by
  obtain ⟨us, Z, hl, ho, h1, h2, h3⟩ := h
  exact ⟨us, Z, hl, ho.raise hB, h1, h2, h3⟩
/-- the variable b holds a list of rows; all of it lies in the blocks of F -/
structure RowsBox (b : Nat) (F : Nat → Prop) (s : List (List Int)) (w : World) (v : Value) : Prop where
  cell : w.cell? ⟨b, 0, none⟩ = some v
  free : w.frozen? ⟨b, 0, none⟩ = false
  own : OwnA true (fun k => F k ∧ k ≠ b) IntsR 29 0 w v s
  row : ∀ k, v.ownBlock = some k → F k ∧ k ≠ b
  box : F b
  lt : ∀ k, F k → k < w.heap.size
theorem RowsBox.keep {b : Nat} {F : Nat → Prop} {s : List (List Int)} {w w' : World} {v : Value} (h : RowsBox b F s w v) (hb : ∀ k, F k → w'.heap[k]? = w.heap[k]?) (hs : w.heap.size ≤ w'.heap.size) : RowsBox b F s w' v :=
  ⟨(World.cell?_of_block (a := ⟨b, 0, none⟩) (hb b h.box)).trans h.cell, (World.frozen?_of_block (a := ⟨b, 0, none⟩) (hb b h.box)).trans h.free, h.own.keepA stable_ints (fun k hk => hb k hk.1) (fun k hk => hb k (h.row k hk).1) hs, h.row, h.box, fun k hk => Nat.lt_of_lt_of_le (h.lt k hk) hs⟩
/-- a row of its own is appended, and the variable is written -/
theorem RowsBox.push {b : Nat} {F : Nat → Prop} {s s' : List (List Int)} {w w7 w8 : World} {v v8 : Value} (h : RowsBox b F s w v) (e7 : Ext w w7)
    (ha : AppA1 true (fun k => (F k ∧ k ≠ b) ∨ w.heap.size ≤ k) IntsR 29 0 w w7 v s' v8 w8) :
    RowsBox b (fun k => F k ∨ (w.heap.size ≤ k ∧ k < w8.heap.size)) s' (w8.setCell ⟨b, 0, none⟩ v8) v8 ∧ Frame F w (w8.setCell ⟨b, 0, none⟩ v8) := by
  obtain ⟨ho, -, hs, hg, hv⟩ := ha
  have hbl := h.lt b h.box
  have hs7 := e7.size
  have hbo : ¬ some b = v.ownBlock := fun e => (h.row b e.symm).2 rfl
  have hb8 : w8.heap[b]? = w.heap[b]? := (hg.block b (by omega) hbo).trans (Below.block e7 b hbl)
  have hset : ∀ k, k ≠ b → (w8.setCell ⟨b, 0, none⟩ v8).heap[k]? = w8.heap[k]? := fun k hk => Below.heap_setCell _ _ _ _ hk
  have hsz : (w8.setCell ⟨b, 0, none⟩ v8).heap.size = w8.heap.size := setCell_size _ _ _
  have hrow : ∀ k, v8.ownBlock = some k → (F k ∨ (w.heap.size ≤ k ∧ k < w8.heap.size)) ∧ k ≠ b := fun k hk => by
    rcases hv k hk with q | q
    · exact ⟨.inl (h.row k q).1, (h.row k q).2⟩
    · have := ho.block k hk
      exact ⟨.inr ⟨by omega, this.2⟩, by omega⟩
  refine ⟨⟨World.cell?_setCell_same _ _ _ ((World.cell?_of_block (a := ⟨b, 0, none⟩) hb8).trans h.cell), by rw [World.frozen?_setCell]; exact (World.frozen?_of_block (a := ⟨b, 0, none⟩) hb8).trans h.free, ?_, hrow, .inl h.box, fun k hk => ?_⟩, ?_⟩
  · have h1 : OwnA true (fun k => (F k ∨ (w.heap.size ≤ k ∧ k < w8.heap.size)) ∧ k ≠ b) IntsR 29 0 w8 v8 s' := ho.weaken (fun k hk ha => by
      rcases ha with ha | ha
      · exact ⟨.inl ha.1, ha.2⟩
      · exact ⟨.inr ⟨ha, hk⟩, by omega⟩)
    exact h1.keepA stable_ints (fun k hk => hset k hk.2) (fun k hk => hset k (hrow k hk).2) (by omega)
  · rw [hsz]
    rcases hk with hk | hk
    · have := h.lt k hk; omega
    · exact hk.2
  · refine ⟨hg.os.trans e7.os, hg.tape.trans e7.tape, hg.output.trans e7.output, by omega, fun k hk hn => ?_⟩
    rw [hset k (fun e => hn (e ▸ h.box)), hg.block k (by omega) (fun e => hn (h.row k e.symm).1)]
    exact Below.block e7 k hk
theorem RowsBox.weak {b : Nat} {F : Nat → Prop} {s : List (List Int)} {w : World} {v : Value} (h : RowsBox b F s w v) : OwnA true (fun k => (F k ∧ k ≠ b) ∨ w.heap.size ≤ k) IntsR 29 0 w v s := h.own.weaken (fun _ _ ha => .inl ha)
theorem RowsBox.rows {b : Nat} {F : Nat → Prop} {s : List (List Int)} {w : World} {v : Value} (h : RowsBox b F s w v) {L : Nat} (hL : ∀ k, F k → L ≤ k) : RowsR ⟨L, w.heap.size, true⟩ w v s :=
  OwnA.reads (h.own.raise (B' := L) (fun k hk => hL k (h.row k hk).1)) (fun k hk => hL k hk.1) (Nat.le_refl _)
def BoxInv (b : Nat) : (Nat → Prop) → List (List Int) → World → Prop := fun F s w => ∃ v, RowsBox b F s w v
/-- the first so many -/
def takeStep (most : Int) (s : List (List Int)) (k : List Int) : List (List Int) := if (s.length : Int) < most then s ++ [k] else s
def takeMore (most : Int) (s : List (List Int)) (k : List Int) : Bool := decide (((takeStep most s k).length : Int) < most)

theorem Tryz.goesIssueKeys1 : Goes Tryz.prog 133 := goes_of Tryz.func133 (by kernel_rfl) (by kernel_rfl)

set_option maxRecDepth 20000 in
set_option maxHeartbeats 2000000 in
theorem issueKeys1_c {b bm : Nat} {F : Nat → Prop} {s : List (List Int)} (w : World) (v : Value) (z : Zone) (key : List Int) (most : Int) (hI : BoxInv b F s w) (hsl : s.length ≤ 1000000) (hm : w.cell? ⟨bm, 0, none⟩ = some (.int .i64 most)) (hbm : ¬ F bm) (hk : IntsR z w v key) (hkl : key.length ≤ 1000) :
    Calls Tryz.prog 133 #[v, .pointer (some ⟨b, 0, none⟩), .pointer (some ⟨bm, 0, none⟩)] w (fun e w' => e = .returned (.bool (takeMore most s key)) ∧ ∃ F', BoxInv b F' (takeStep most s key) w' ∧ (∀ k, F' k → F k ∨ w.heap.size ≤ k) ∧ Frame F w w') := by
  obtain ⟨lv, hB⟩ := hI
  have HB := Lib.hid hB
  have HCl := Lib.hid (fun (w' : World) (e : Ext w w') => Clone_c w' v z key (stable_ints.ext hk e) (by omega))
  have HM := Lib.hid (IntsR.mem hk)
  obtain ⟨a2, n2, c2, rfl, hn2, hn3⟩ := OwnA.shape hB.own
  obtain ⟨a, n, c, rfl, -⟩ := SliceR.shape hk
  have hc := hB.cell
  have hfz := hB.free
  rw [← hn2] at hsl
  have Hn2 := Lib.hid hn2
  have Hlen : Hid (s.length + 1 ≤ 1099511627776) := by show _ ≤ _; rw [← Hn2.out]; omega
  have hblt := hB.lt b hB.box
  clear hB hk hn2
  by_cases hlt : (n2 : Int) < most
  · have HS : Hid (takeStep most s key = s ++ [key]) := by show _ = _; unfold takeStep; rw [if_pos (by rw [← Hn2.out]; exact hlt)]
    have HMo : Hid (takeMore most s key = decide (((n2 + 1 : Nat) : Int) < most)) := by show _ = _; unfold takeMore; rw [HS.out, List.length_append, List.length_singleton, ← Hn2.out]
    generalize takeStep most s key = s' at *
    generalize takeMore most s key = mo at *
    go_enter Tryz.func133, Tryz.ntmps133
    go_wp2_with fail
    go_region_law (first | (go_simp; go_at_call 127; refine (HCl.out _ (by repeat (first | exact Ext.refl _ | assumption | (refine Ext.trans ?_ (Ext.alloc _ _)) | (refine Ext.trans ?_ (Ext.drew _)) | (refine Ext.trans ?_ (by assumption))))).mono ?_; rintro e w7 hr7; obtain ⟨r7, rfl, o7, e7⟩ := ret_ext hr7; clear hr7; have e77 : Ext w w7 := (by repeat (first | exact Ext.refl _ | assumption | (refine Ext.trans ?_ (Ext.alloc _ _)) | (refine Ext.trans ?_ (Ext.drew _)) | (refine Ext.trans ?_ (by assumption)))); have x1 := e77.cell hc; have zb := Nat.lt_of_lt_of_le hblt e77.size; have zb' := Nat.ne_of_lt zb; have zb'' := Nat.ne_of_gt zb; have i7 : IntsR (.new w w7) w7 r7 key := OwnP.ints (o7.lower (Ext.size (by repeat (first | exact Ext.refl _ | assumption | (refine Ext.trans ?_ (Ext.alloc _ _)) | (refine Ext.trans ?_ (Ext.drew _)) | (refine Ext.trans ?_ (by assumption)))))) HM.out (Nat.le_refl _); obtain ⟨a7, n7, k7, rfl, -⟩ := OwnP.shape o7) | (refine step_append_of (by rfl) _ _ 26 (by rfl) (by rfl) (by rfl) (fun ty => run_appendRowA (w := w7) (w0 := w) (A := fun k => (F k ∧ k ≠ b) ∨ w.heap.size ≤ k) (B := 0) (E := IntsR) (xs := s) (u := (a7, n7, k7)) (y := key) stable_ints slRepr_slice 26 ty Tryz.underlying26 Tryz.infoInts HB.out.weak e77 i7 rfl Hlen.out (fun k hk => .inr hk) (Nat.zero_le _)) ?_; intro v8 w8 h8; have HP := Lib.hid (HB.out.push e77 h8); obtain ⟨o8, -, z8, hg8, -⟩ := h8; have y1 : w8.cell? ⟨b, 0, none⟩ = some (.slice a2 n2 c2) := (World.cell?_of_block (a := ⟨b, 0, none⟩) (hg8.block b (Nat.lt_of_lt_of_le hblt e77.size) (fun e => (HB.out.row b e.symm).2 rfl))).trans x1; have y2 : w8.frozen? ⟨b, 0, none⟩ = false := (World.frozen?_of_block (a := ⟨b, 0, none⟩) (hg8.block b (Nat.lt_of_lt_of_le hblt e77.size) (fun e => (HB.out.row b e.symm).2 rfl))).trans ((Below.frozen e77 hblt).trans hfz); obtain ⟨a8, n8, k8, rfl, hn8, -⟩ := OwnA.shape o8; rw [List.length_append, List.length_singleton, ← Hn2.out] at hn8; subst hn8; clear hg8 z8 o8) | fail)
    all_goals
      clear x1 y1 y2 zb zb' zb'' hc hfz o7 i7 e7
      generalize hw9 : World.setCell _ _ _ = w9 at *
      have hm9 := HP.out.2.cell hbm hm
      have hb9 := HP.out.1.cell
      clear hw9
      go_wp2_with fail
      go_ret
      refine ⟨by rw [HMo.out]; rfl, fun k => F k ∨ (w.heap.size ≤ k ∧ k < w8.heap.size), ⟨_, by rw [HS.out]; exact HP.out.1⟩, fun k hk => Or.elim hk .inl (fun q => .inr q.1), HP.out.2⟩
  · have HS : Hid (takeStep most s key = s) := by show _ = _; unfold takeStep; rw [if_neg (by rw [← Hn2.out]; exact hlt)]
    have HMo : Hid (takeMore most s key = decide ((n2 : Int) < most)) := by show _ = _; unfold takeMore; rw [HS.out, ← Hn2.out]
    generalize takeStep most s key = s' at *
    generalize takeMore most s key = mo at *
    go_enter Tryz.func133, Tryz.ntmps133
    go_wp2_with fail
    go_ret
    refine ⟨?_, F, ⟨_, by rw [HS.out]; exact HB.out⟩, fun k hk => .inl hk, Frame.refl _ _⟩
    rw [HMo.out, decide_eq_false (by omega)]
    rfl
end Go.Proofs.YtegmognpofcfiaaGreat
