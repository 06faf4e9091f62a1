/- Proved: each key that is visited is a key (plain); a variable of the call's own that holds a list of rows; and the visit of keys that collects them; a variable of the call's own that holds a list of things in rows of their own; the designs that a search of the program collects; searchCode of the program, no cuts; the first designs that the program finds; FindDesign and DesignsOf of the program; what FnBest and FnWafers ask of designs that a search finds (plain). -/
import Derived.Test.YthgmojggpjnckaaGreatChecked
import Derived.Deep.RegionLaw
import Derived.Deep.RegionHeld3
import Derived.Test.YthgmojggpjnckaaGreatUPkF1
import Derived.Test.YthgmojggpjnckaaGreatUEachKept
import Derived.Test.YthgmojggpjnckaaGreatUPkE
import Derived.Test.YthgmojggpjnckaaGreatUGoAll
import Derived.Test.YthgmojggpjnckaaGreatUBestLaw
import Derived.Test.YthgmojggpjnckaaGreatUPkF2
import Derived.Test.YthgmojggpjnckaaGreatUPkB
import Derived.Test.YthgmojggpjnckaaGreatUPkD
import Derived.Test.YthgmojggpjnckaaGreatUGoNew
import Derived.Test.YthgmojggpjnckaaGreatUBestFacts
import Derived.Test.YthgmojggpjnckaaGreatUPkWa
namespace Go.Proofs.YthgmojggpjnckaaGreat
open Go.ChangeShapes Go.WideShapes Go.ChangeAt Go.RowKit
set_option linter.unusedVariables false

theorem keysR_in {mk : MK} {D : Nat} : ∀ (r : Nat) {pre k : List Int}, k ∈ keysR mk D r pre → begins mk k = true ∧ mk.l ≤ (kinds k : Int)
  | 0, pre, k, h => by
    rw [keysR_zero] at h
    split at h
    · split at h
      · rename_i h1 h2
        rw [List.mem_singleton.1 h]; exact ⟨h1, h2⟩
      · cases h
    · cases h
  | r + 1, pre, k, h => by
    rw [keysR_succ] at h
    split at h
    · unfold sweep at h
      obtain ⟨d, -, hd⟩ := List.mem_flatMap.1 h
      exact keysR_in r hd
    · cases h
theorem allK_isKey {mk : MK} (ok : MkOk mk) {k : List Int} (h : k ∈ allK mk) : isKeyB mk k = true := by
  obtain ⟨hb, hk⟩ := keysR_in mk.c.toNat h
  obtain ⟨h1, h2⟩ := allK_mem h
  have hc := ok.c6
  have hd := ok.d8
  have hcut : cutsOk mk k = true := by
    unfold cutsOk
    rw [Bool.and_eq_true, decide_eq_true_iff]
    refine ⟨?_, by omega⟩
    unfold allB
    rw [List.all_eq_true]
    intro x hx
    have := h2 x hx
    unfold inB
    rw [Bool.and_eq_true, decide_eq_true_iff, decide_eq_true_iff]
    omega
  unfold begins at hb
  obtain ⟨hf, hm⟩ := Bool.and_eq_true_iff.1 hb
  have hm := of_decide_eq_true hm
  unfold isKeyB keyFault
  rw [decide_eq_true_iff, if_neg (by omega), if_neg (by rw [hcut]; decide), if_neg (by simpa using hf), if_neg (by omega), if_neg (by omega)]

open Go.ChangeShapes Go.WideShapes Go.ChangeAt Go.RowKit
set_option linter.unusedVariables false

theorem OwnP.keepA {α : Type} {f : α → Value} {e : TypeId} {B : Nat} {w w' : World} {v : Value} {xs : List α} (h : OwnP f e B w v xs) (hown : ∀ k, v.ownBlock = some k → w'.heap[k]? = w.heap[k]?) : OwnP f e B w' v xs := by
  obtain ⟨h1, h2⟩ := h
  refine ⟨h1, ?_⟩
  rcases h2 with h2 | ⟨g, cap, cur, hv, hbg, hg, r⟩
  · exact .inl h2
  · exact .inr ⟨g, cap, cur, hv, hbg, by rw [hown g (by rw [hv]; rfl)]; exact hg, r⟩
theorem OwnA.keepA {α : Type} {b : Bool} {A : Nat → Prop} {E : Repr α} {e : TypeId} {B : Nat} {w w' : World} {v : Value} {xs : List α} (hE : Stable E) (h : OwnA b A E e B w v xs) (hA : ∀ k, A k → w'.heap[k]? = w.heap[k]?) (hown : ∀ k, v.ownBlock = some k → w'.heap[k]? = w.heap[k]?) (hs : w.heap.size ≤ w'.heap.size) : OwnA b A E e B w' v xs := by
  obtain ⟨us, Z, hl, ho, h1, h2, h3⟩ := h
  exact ⟨us, Z, hl, ho.keepA hown, fun i hi => ⟨(h1 i hi).1, fun k hk => ⟨((h1 i hi).2 k hk).1, Nat.lt_of_lt_of_le ((h1 i hi).2 k hk).2.1 hs, ((h1 i hi).2 k hk).2.2⟩⟩, h2, fun i hi hi' => hE.keep (h3 i hi hi') (fun k hz _ => hA k ((h1 i hi).2 k hz).1)⟩
theorem OwnA.raise {α : Type} {b : Bool} {A : Nat → Prop} {E : Repr α} {e : TypeId} {B B' : Nat} {w : World} {v : Value} {xs : List α} (h : OwnA b A E e B w v xs) (hB : ∀ k, v.ownBlock = some k → B' ≤ k) : OwnA b A E e B' w v xs := by
  obtain ⟨us, Z, hl, ho, h1, h2, h3⟩ := h
  exact ⟨us, Z, hl, ho.raise hB, h1, h2, h3⟩
/-- the variable b holds a list of rows; all of it lies in the blocks of F -/
structure RowsBox (b : Nat) (F : Nat → Prop) (s : List (List Int)) (w : World) (v : Value) : Prop where
  cell : w.cell? ⟨b, 0, none⟩ = some v
  free : w.frozen? ⟨b, 0, none⟩ = false
  own : OwnA true (fun k => F k ∧ k ≠ b) IntsR 41 0 w v s
  row : ∀ k, v.ownBlock = some k → F k ∧ k ≠ b
  box : F b
  lt : ∀ k, F k → k < w.heap.size
theorem RowsBox.keep {b : Nat} {F : Nat → Prop} {s : List (List Int)} {w w' : World} {v : Value} (h : RowsBox b F s w v) (hb : ∀ k, F k → w'.heap[k]? = w.heap[k]?) (hs : w.heap.size ≤ w'.heap.size) : RowsBox b F s w' v :=
  ⟨(World.cell?_of_block (a := ⟨b, 0, none⟩) (hb b h.box)).trans h.cell, (World.frozen?_of_block (a := ⟨b, 0, none⟩) (hb b h.box)).trans h.free, h.own.keepA stable_ints (fun k hk => hb k hk.1) (fun k hk => hb k (h.row k hk).1) hs, h.row, h.box, fun k hk => Nat.lt_of_lt_of_le (h.lt k hk) hs⟩
/-- a row of its own is appended, and the variable is written -/
theorem RowsBox.push {b : Nat} {F : Nat → Prop} {s s' : List (List Int)} {w w7 w8 : World} {v v8 : Value} (h : RowsBox b F s w v) (e7 : Ext w w7)
    (ha : AppA1 true (fun k => (F k ∧ k ≠ b) ∨ w.heap.size ≤ k) IntsR 41 0 w w7 v s' v8 w8) :
    RowsBox b (fun k => F k ∨ (w.heap.size ≤ k ∧ k < w8.heap.size)) s' (w8.setCell ⟨b, 0, none⟩ v8) v8 ∧ Frame F w (w8.setCell ⟨b, 0, none⟩ v8) := by
  obtain ⟨ho, -, hs, hg, hv⟩ := ha
  have hbl := h.lt b h.box
  have hs7 := e7.size
  have hbo : ¬ some b = v.ownBlock := fun e => (h.row b e.symm).2 rfl
  have hb8 : w8.heap[b]? = w.heap[b]? := (hg.block b (by omega) hbo).trans (Below.block e7 b hbl)
  have hset : ∀ k, k ≠ b → (w8.setCell ⟨b, 0, none⟩ v8).heap[k]? = w8.heap[k]? := fun k hk => Below.heap_setCell _ _ _ _ hk
  have hsz : (w8.setCell ⟨b, 0, none⟩ v8).heap.size = w8.heap.size := setCell_size _ _ _
  have hrow : ∀ k, v8.ownBlock = some k → (F k ∨ (w.heap.size ≤ k ∧ k < w8.heap.size)) ∧ k ≠ b := fun k hk => by
    rcases hv k hk with q | q
    · exact ⟨.inl (h.row k q).1, (h.row k q).2⟩
    · have := ho.block k hk
      exact ⟨.inr ⟨by omega, this.2⟩, by omega⟩
  refine ⟨⟨World.cell?_setCell_same _ _ _ ((World.cell?_of_block (a := ⟨b, 0, none⟩) hb8).trans h.cell), by rw [World.frozen?_setCell]; exact (World.frozen?_of_block (a := ⟨b, 0, none⟩) hb8).trans h.free, ?_, hrow, .inl h.box, fun k hk => ?_⟩, ?_⟩
  · have h1 : OwnA true (fun k => (F k ∨ (w.heap.size ≤ k ∧ k < w8.heap.size)) ∧ k ≠ b) IntsR 41 0 w8 v8 s' := ho.weaken (fun k hk ha => by
      rcases ha with ha | ha
      · exact ⟨.inl ha.1, ha.2⟩
      · exact ⟨.inr ⟨ha, hk⟩, by omega⟩)
    exact h1.keepA stable_ints (fun k hk => hset k hk.2) (fun k hk => hset k (hrow k hk).2) (by omega)
  · rw [hsz]
    rcases hk with hk | hk
    · have := h.lt k hk; omega
    · exact hk.2
  · refine ⟨hg.os.trans e7.os, hg.tape.trans e7.tape, hg.output.trans e7.output, by omega, fun k hk hn => ?_⟩
    rw [hset k (fun e => hn (e ▸ h.box)), hg.block k (by omega) (fun e => hn (h.row k e.symm).1)]
    exact Below.block e7 k hk
theorem RowsBox.weak {b : Nat} {F : Nat → Prop} {s : List (List Int)} {w : World} {v : Value} (h : RowsBox b F s w v) : OwnA true (fun k => (F k ∧ k ≠ b) ∨ w.heap.size ≤ k) IntsR 41 0 w v s := h.own.weaken (fun _ _ ha => .inl ha)
theorem RowsBox.rows {b : Nat} {F : Nat → Prop} {s : List (List Int)} {w : World} {v : Value} (h : RowsBox b F s w v) {L : Nat} (hL : ∀ k, F k → L ≤ k) : RowsR ⟨L, w.heap.size, true⟩ w v s :=
  OwnA.reads (h.own.raise (B' := L) (fun k hk => hL k (h.row k hk).1)) (fun k hk => hL k hk.1) (Nat.le_refl _)
def BoxInv (b : Nat) : (Nat → Prop) → List (List Int) → World → Prop := fun F s w => ∃ v, RowsBox b F s w v
/-- the first so many -/
def takeStep (most : Int) (s : List (List Int)) (k : List Int) : List (List Int) := if (s.length : Int) < most then s ++ [k] else s
def takeMore (most : Int) (s : List (List Int)) (k : List Int) : Bool := decide (((takeStep most s k).length : Int) < most)

open Go.ChangeShapes Go.WideShapes Go.ChangeAt Go.RowKit
set_option linter.unusedVariables false

/-- the variable b holds a list; all of it lies in the blocks of F -/
structure BoxE {α : Type} (E : Repr α) (e : TypeId) (b : Nat) (F : Nat → Prop) (s : List α) (w : World) (v : Value) : Prop where
  cell : w.cell? ⟨b, 0, none⟩ = some v
  free : w.frozen? ⟨b, 0, none⟩ = false
  own : OwnA true (fun k => F k ∧ k ≠ b) E e 0 w v s
  row : ∀ k, v.ownBlock = some k → F k ∧ k ≠ b
  box : F b
  lt : ∀ k, F k → k < w.heap.size
section
variable {α : Type} {E : Repr α} {e : TypeId} {b : Nat} {F : Nat → Prop} {s s' : List α} {w w' w7 w8 : World} {v v8 : Value}
theorem BoxE.keep (hE : Stable E) (h : BoxE E e b F s w v) (hb : ∀ k, F k → w'.heap[k]? = w.heap[k]?) (hs : w.heap.size ≤ w'.heap.size) : BoxE E e b F s w' v :=
  ⟨(World.cell?_of_block (a := ⟨b, 0, none⟩) (hb b h.box)).trans h.cell, (World.frozen?_of_block (a := ⟨b, 0, none⟩) (hb b h.box)).trans h.free, h.own.keepA hE (fun k hk => hb k hk.1) (fun k hk => hb k (h.row k hk).1) hs, h.row, h.box, fun k hk => Nat.lt_of_lt_of_le (h.lt k hk) hs⟩
theorem BoxE.push (hE : Stable E) (h : BoxE E e b F s w v) (e7 : Ext w w7) (ha : AppA1 true (fun k => (F k ∧ k ≠ b) ∨ w.heap.size ≤ k) E e 0 w w7 v s' v8 w8) :
    BoxE E e b (fun k => F k ∨ (w.heap.size ≤ k ∧ k < w8.heap.size)) s' (w8.setCell ⟨b, 0, none⟩ v8) v8 ∧ Frame F w (w8.setCell ⟨b, 0, none⟩ v8) := by
  obtain ⟨ho, -, hs, hg, hv⟩ := ha
  have hbl := h.lt b h.box
  have hs7 := e7.size
  have hbo : ¬ some b = v.ownBlock := fun e => (h.row b e.symm).2 rfl
  have hb8 : w8.heap[b]? = w.heap[b]? := (hg.block b (by omega) hbo).trans (Below.block e7 b hbl)
  have hset : ∀ k, k ≠ b → (w8.setCell ⟨b, 0, none⟩ v8).heap[k]? = w8.heap[k]? := fun k hk => Below.heap_setCell _ _ _ _ hk
  have hsz : (w8.setCell ⟨b, 0, none⟩ v8).heap.size = w8.heap.size := setCell_size _ _ _
  have hrow : ∀ k, v8.ownBlock = some k → (F k ∨ (w.heap.size ≤ k ∧ k < w8.heap.size)) ∧ k ≠ b := fun k hk => by
    rcases hv k hk with q | q
    · exact ⟨.inl (h.row k q).1, (h.row k q).2⟩
    · have := ho.block k hk
      exact ⟨.inr ⟨by omega, this.2⟩, by omega⟩
  refine ⟨⟨World.cell?_setCell_same _ _ _ ((World.cell?_of_block (a := ⟨b, 0, none⟩) hb8).trans h.cell), by rw [World.frozen?_setCell]; exact (World.frozen?_of_block (a := ⟨b, 0, none⟩) hb8).trans h.free, ?_, hrow, .inl h.box, fun k hk => ?_⟩, ?_⟩
  · have h1 : OwnA true (fun k => (F k ∨ (w.heap.size ≤ k ∧ k < w8.heap.size)) ∧ k ≠ b) E e 0 w8 v8 s' := ho.weaken (fun k hk ha => by
      rcases ha with ha | ha
      · exact ⟨.inl ha.1, ha.2⟩
      · exact ⟨.inr ⟨ha, hk⟩, by omega⟩)
    exact h1.keepA hE (fun k hk => hset k hk.2) (fun k hk => hset k (hrow k hk).2) (by omega)
  · rw [hsz]
    rcases hk with hk | hk
    · have := h.lt k hk; omega
    · exact hk.2
  · refine ⟨hg.os.trans e7.os, hg.tape.trans e7.tape, hg.output.trans e7.output, by omega, fun k hk hn => ?_⟩
    rw [hset k (fun e => hn (e ▸ h.box)), hg.block k (by omega) (fun e => hn (h.row k e.symm).1)]
    exact Below.block e7 k hk
theorem BoxE.weak (h : BoxE E e b F s w v) : OwnA true (fun k => (F k ∧ k ≠ b) ∨ w.heap.size ≤ k) E e 0 w v s := h.own.weaken (fun _ _ ha => .inl ha)
theorem BoxE.reads (h : BoxE E e b F s w v) {L : Nat} (hL : ∀ k, F k → L ≤ k) : SliceR E ⟨L, w.heap.size, true⟩ w v s :=
  OwnA.reads (h.own.raise (B' := L) (fun k hk => hL k (h.row k hk).1)) (fun k hk => hL k hk.1) (Nat.le_refl _)
end

open Go.ChangeShapes Go.WideShapes Go.ChangeAt Go.RowKit
set_option linter.unusedVariables false

def DesInv (b : Nat) (F : Nat → Prop) (s : List (List (List Int))) (w : World) : Prop := ∃ v, BoxE RowsR 30 b F s w v
theorem Tryz.goesFirstDesigns1 : Goes Tryz.prog 141 := goes_of Tryz.func141 (by kernel_rfl) (by kernel_rfl)

set_option maxRecDepth 20000 in
set_option maxHeartbeats 2000000 in
theorem first1_c {b bm : Nat} {F : Nat → Prop} {s : List (List (List Int))} (w : World) (v : Value) (z : Zone) (x : List (List Int)) (most : Int) (hI : DesInv b F s w) (hsl : s.length < 4000) (hm : w.cell? ⟨bm, 0, none⟩ = some (.int .i64 most)) (hbm : ¬ F bm) (hx : RowsR z w v x) (hxl : x.length ≤ 1000) (hxr : ∀ k, k < x.length → (x.getD k []).length ≤ 1000) :
    Calls Tryz.prog 141 #[v, .pointer (some ⟨b, 0, none⟩), .pointer (some ⟨bm, 0, none⟩)] w (fun e w' => e = .returned (.bool (decide (((s.length + 1 : Nat) : Int) < most))) ∧ ∃ F', DesInv b F' (s ++ [x]) w' ∧ (∀ k, F' k → F k ∨ w.heap.size ≤ k) ∧ Frame F w w') := by
  obtain ⟨lv, hB⟩ := hI
  have HB := Lib.hid hB
  have HCl := Lib.hid (fun (w' : World) (e : Ext w w') => copyLists_c w' v z x (stable_rows.ext hx e) hxl hxr)
  obtain ⟨a2, n2, c2, rfl, hn2, hn3⟩ := OwnA.shape hB.own
  obtain ⟨a, n, c, rfl, -⟩ := SliceR.shape hx
  have hc := hB.cell
  have hfz := hB.free
  rw [← hn2] at hsl
  have Hn2 := Lib.hid hn2
  have Hlen : Hid (s.length + 1 ≤ 1099511627776) := by show _ ≤ _; rw [← Hn2.out]; omega
  have hblt := hB.lt b hB.box
  have HMo : Hid (decide (((s.length + 1 : Nat) : Int) < most) = decide (((n2 + 1 : Nat) : Int) < most)) := by show _ = _; rw [← Hn2.out]
  generalize decide (((s.length + 1 : Nat) : Int) < most) = mo at *
  clear hB hx hn2 hxl hxr
  go_enter Tryz.func141, Tryz.ntmps141
  go_wp2_with fail
  go_region_law (first | (go_simp; go_at_call 70; refine (HCl.out _ (by repeat (first | exact Ext.refl _ | assumption | (refine Ext.trans ?_ (Ext.alloc _ _)) | (refine Ext.trans ?_ (Ext.drew _)) | (refine Ext.trans ?_ (by assumption))))).mono ?_; rintro e w7 hr7; obtain ⟨r7, rfl, o7, e7⟩ := ret_ext hr7; clear hr7; have e77 : Ext w w7 := (by repeat (first | exact Ext.refl _ | assumption | (refine Ext.trans ?_ (Ext.alloc _ _)) | (refine Ext.trans ?_ (Ext.drew _)) | (refine Ext.trans ?_ (by assumption)))); have x1 := e77.cell hc; have zb := Nat.lt_of_lt_of_le hblt e77.size; have zb' := Nat.ne_of_lt zb; have zb'' := Nat.ne_of_gt zb; have i7 : RowsR (.new w w7) w7 r7 x := stable_rows.sub (OwnR.rows o7) ⟨fun k hk => ⟨Nat.le_trans (Ext.size (by repeat (first | exact Ext.refl _ | assumption | (refine Ext.trans ?_ (Ext.alloc _ _)) | (refine Ext.trans ?_ (Ext.drew _)) | (refine Ext.trans ?_ (by assumption))))) hk.1, hk.2⟩, fun h => h⟩; obtain ⟨a7, n7, k7, rfl, -⟩ := OwnR.shape o7) | (refine step_append_of (by rfl) _ _ 106 (by rfl) (by rfl) (by rfl) (fun ty => run_appendRowA (w := w7) (w0 := w) (A := fun k => (F k ∧ k ≠ b) ∨ w.heap.size ≤ k) (B := 0) (E := RowsR) (xs := s) (u := (a7, n7, k7)) (y := x) stable_rows slRepr_slice 106 ty Tryz.underlying106 Tryz.infoRows HB.out.weak e77 i7 rfl Hlen.out (fun k hk => .inr hk) (Nat.zero_le _)) ?_; intro v8 w8 h8; have HP := Lib.hid (HB.out.push stable_rows e77 h8); obtain ⟨o8, -, z8, hg8, -⟩ := h8; have y1 : w8.cell? ⟨b, 0, none⟩ = some (.slice a2 n2 c2) := (World.cell?_of_block (a := ⟨b, 0, none⟩) (hg8.block b (Nat.lt_of_lt_of_le hblt e77.size) (fun e => (HB.out.row b e.symm).2 rfl))).trans x1; have y2 : w8.frozen? ⟨b, 0, none⟩ = false := (World.frozen?_of_block (a := ⟨b, 0, none⟩) (hg8.block b (Nat.lt_of_lt_of_le hblt e77.size) (fun e => (HB.out.row b e.symm).2 rfl))).trans ((Below.frozen e77 hblt).trans hfz); obtain ⟨a8, n8, k8, rfl, hn8, -⟩ := OwnA.shape o8; rw [List.length_append, List.length_singleton, ← Hn2.out] at hn8; subst hn8; clear hg8 z8 o8) | fail)
  all_goals
    clear x1 y1 y2 zb zb' zb'' hc hfz o7 i7 e7
    generalize hw9 : World.setCell _ _ _ = w9 at *
    have hm9 := HP.out.2.cell hbm hm
    have hb9 := HP.out.1.cell
    clear hw9
    go_wp2_with fail
    go_ret
    refine ⟨by rw [HMo.out]; rfl, fun k => F k ∨ (w.heap.size ≤ k ∧ k < w8.heap.size), ⟨_, HP.out.1⟩, fun k hk => Or.elim hk .inl (fun q => .inr q.1), HP.out.2⟩

theorem visitDes {b bm : Nat} {most : Int} {mk : MK} {t : List (List Int)} (hs : isSystem mk t = true) {w0 : World} {F0 : Nat → Prop} (hc : w0.cell? ⟨bm, 0, none⟩ = some (.int .i64 most)) (hbm : ¬ F0 bm) :
    VisitD 141 #[.pointer (some ⟨b, 0, none⟩), .pointer (some ⟨bm, 0, none⟩)] w0 F0 (DesInv b) (fun s x => s ++ [x]) (fun s _ => decide (((s.length + 1 : Nat) : Int) < most)) List.length (Goods mk t) where
  goes := Tryz.goesFirstDesigns1
  size := fun s x => by simp
  keep := by
    rintro F s w w' ⟨v, hb⟩ hk hs
    exact ⟨v, hb.keep stable_rows hk hs⟩
  fresh := by
    rintro F s w ⟨v, hb⟩
    exact hb.lt
  call := by
    rintro F s w v z x hI hF hK hx hg hr
    have hl := (sysOk hs).len
    have hlt : bm < w0.heap.size := World.block_lt_of_cell? _ _ hc
    refine first1_c w v z x most hI hr (hK.cell hbm hc) (fun q => (hF bm q).elim hbm (fun q => by omega)) hx (by have := hg.len; omega) (fun k hk => ?_)
    have e : x.getD k [] = x[k] := by simp [hk]
    rw [e]
    have := (hg.key _ (List.getElem_mem hk)).len
    have := (sysOk hs).mk1
    omega

open Go.ChangeShapes Go.WideShapes Go.ChangeAt Go.RowKit
set_option linter.unusedVariables false

theorem partOk_nil {mk : MK} {t : List (List Int)} (h : isSystem mk t = true) : PartOk mk t [] := ⟨sysOk h, Nat.zero_le _, by simp⟩
theorem areKeysB_nil (mk : MK) : areKeysB mk [] = true := rfl
theorem faults_nil (mk : MK) (t : List (List Int)) : faults mk t [] = 0 := by rw [faults_zero]; intro k hk; simp at hk
def partC (mk : MK) (t : List (List Int)) : Int := if isSystem mk t = true then 0 else 1

set_option maxRecDepth 20000 in
set_option maxHeartbeats 1000000 in
theorem partCode0_c (w : World) (mk : MK) (v : Value) (z : Zone) (t : List (List Int)) (h : RowsR z w v t) :
    Calls Tryz.prog 138 #[sysV mk v, .slice none 0 0] w (Ret w fun r _ => r = .int .i64 (partC mk t)) := by
  have HM : Hid (isSystem mk t = true → (2 ≤ mk.d ∧ mk.d ≤ 8) ∧ 0 ≤ mk.m) := fun h => by
    obtain ⟨-, a, -, b, -⟩ := isMaker_iff.1 (sysMaker h)
    exact ⟨a, by omega⟩
  have HP : Hid (partC mk t = if isSystem mk t = true then 0 else 1) := rfl
  have HC1 := Lib.hid (fun (w' : World) (e : Ext w w') => IsSystem_c w' mk v z t (stable_rows.ext h e))
  have HC2 := Lib.hid (fun (w' : World) (h1 : 2 ≤ mk.d ∧ mk.d ≤ 8) (h2 : 0 ≤ mk.m) => by
    have := areKeys_c w' mk h1 h2 (.slice none 0 0) (.old w') [] (SliceR.nil _ _ _)
    rw [areKeysB_nil] at this
    exact this)
  generalize isSystem mk t = q at *
  generalize partC mk t = res at *
  obtain ⟨a, n, cap, rfl, -⟩ := SliceR.shape h
  clear h
  unfold sysV MK.v at *
  go_enter Tryz.func138, Tryz.ntmps138
  go_wp2_with fail
  generalize hw0 : World.alloc _ _ = w0
  obtain ⟨e0, S0⟩ := sys_box hw0
  clear hw0
  have HS := Lib.hid S0
  clear S0
  refine Calls.mono (HC1.out w0 e0) ?_
  rintro e w1 hr
  obtain ⟨r, rfl, rfl, e1⟩ := ret_ext hr
  clear hr
  have et := e0.trans e1
  obtain ⟨c0, c1, c2, c3, c4, c5⟩ := HS.out.all e1
  cases q with
  | false =>
    go_wp2_with fail
    go_ret
    exact ⟨.int .i64 1, rfl, congrArg (Value.int .i64) HP.out.symm, et⟩
  | true =>
    have hb0 : ¬ ((n : Int) < 0) := by omega
    have hb1 : decide ((n : Int) < 0) = false := decide_eq_false hb0
    obtain ⟨m1, m2⟩ := HM.out rfl
    have hcall := HC2.out w1 m1 m2
    go_wp2_with fail
    refine Calls.mono hcall ?_
    rintro e w2 hr
    obtain ⟨r, rfl, rfl, e2⟩ := ret_ext hr
    clear hr hcall
    go_wp2_with fail
    go_ret
    exact ⟨.int .i64 0, rfl, congrArg (Value.int .i64) HP.out.symm, et.trans e2⟩

set_option maxRecDepth 20000 in
set_option maxHeartbeats 1000000 in
theorem isOpenPart0_c (w : World) (mk : MK) (v : Value) (z : Zone) (t : List (List Int)) (h : RowsR z w v t) (hs : isSystem mk t = true) :
    Calls Tryz.prog 140 #[sysV mk v, .slice none 0 0] w (Ret w fun r _ => r = .bool true) := by
  have HC := Lib.hid (fun (w' : World) (e : Ext w w') => by
    have := partFaults_c w' mk v z t (stable_rows.ext h e) (.slice none 0 0) (.old w') [] (SliceR.nil _ _ _) (partOk_nil hs)
    rw [faults_nil] at this
    exact this)
  obtain ⟨a, n, cap, rfl, -⟩ := SliceR.shape h
  clear h
  unfold sysV at *
  go_enter Tryz.func140, Tryz.ntmps140
  go_wp2_with fail
  generalize hw0 : World.alloc _ _ = w0
  obtain ⟨e0, S0⟩ := sys_box hw0
  clear hw0
  refine Calls.mono (HC.out w0 e0) ?_
  rintro e w1 hr
  obtain ⟨r, rfl, ⟨a7, n7, k7, rfl, rfl, -⟩, e1⟩ := ret_ext hr
  clear hr
  have et := e0.trans e1
  go_wp2_with fail
  go_ret
  exact ⟨.bool true, rfl, rfl, et⟩

set_option maxRecDepth 20000 in
set_option maxHeartbeats 1000000 in
theorem isLimit_c (w : World) (limit : Int) : Calls Tryz.prog 139 #[.int .i64 limit] w (RetQ w (.bool (inB limit 0 4000))) := by
  have HI := Lib.hid (fun (w' : World) => within_c w' limit 0 4000)
  generalize inB limit 0 4000 = q at *
  go_enter Tryz.func139, Tryz.ntmps139
  go_wp2_with fail
  refine Calls.mono (HI.out w) ?_
  rintro e w2 ⟨rfl, hd2⟩
  go_wp2_with fail
  go_ret
  exact ⟨rfl, hd2⟩

set_option maxRecDepth 20000 in
set_option maxHeartbeats 1000000 in
theorem searchCode_c (w : World) (mk : MK) (v : Value) (z : Zone) (t : List (List Int)) (h : RowsR z w v t) (limit : Int) (hl : I64 limit) :
    Calls Tryz.prog 107 #[sysV mk v, .slice none 0 0, .int .i64 limit] w (Ret w fun r _ => r = .int .i64 (searchC mk t limit)) := by
  have H1 : Hid (isSystem mk t = false → searchC mk t limit = 1) := searchC_sys
  have H2 : Hid (isSystem mk t = true → inB limit 0 4000 = false → searchC mk t limit = 2) := searchC_lim
  have H3 : Hid (isSystem mk t = true → inB limit 0 4000 = true → searchC mk t limit = 0) := searchC_ok
  have HP : Hid (partC mk t = if isSystem mk t = true then 0 else 1) := rfl
  have HC1 := Lib.hid (fun (w' : World) (e : Ext w w') => partCode0_c w' mk v z t (stable_rows.ext h e))
  have HC2 := Lib.hid (fun (w' : World) => isLimit_c w' limit)
  have HC3 := Lib.hid (fun (hs : isSystem mk t = true) (w' : World) (e : Ext w w') => isOpenPart0_c w' mk v z t (stable_rows.ext h e) hs)
  generalize searchC mk t limit = res at *
  generalize partC mk t = pc at *
  generalize isSystem mk t = q at *
  generalize inB limit 0 4000 = q2 at *
  obtain ⟨a, n, cap, rfl, -⟩ := SliceR.shape h
  clear h
  unfold sysV at *
  go_enter Tryz.func107, Tryz.ntmps107
  go_wp2_with fail
  generalize hw0 : World.alloc _ _ = w0
  obtain ⟨e0, S0⟩ := sys_box hw0
  clear hw0
  have HS := Lib.hid S0
  clear S0
  refine Calls.mono (HC1.out w0 e0) ?_
  rintro e w1 hr
  obtain ⟨r, rfl, rfl, e1⟩ := ret_ext hr
  clear hr
  have et := e0.trans e1
  obtain ⟨c0, c1, c2, c3, c4, c5⟩ := HS.out.all e1
  cases q with
  | false =>
    have hp : pc = 1 := HP.out
    subst hp
    have HH := Lib.hid (H1.out rfl)
    go_wp2_with fail
    go_ret
    exact ⟨.int .i64 1, rfl, congrArg (Value.int .i64) HH.out.symm, et⟩
  | true =>
    have hp : pc = 0 := HP.out
    subst hp
    have H2' := Lib.hid (H2.out rfl)
    have H3' := Lib.hid (H3.out rfl)
    have hcall := HC3.out rfl
    have HC3' := Lib.hid hcall
    clear H1 H2 H3 HP hcall HC3
    go_wp2_with fail
    refine Calls.mono (HC2.out w1) ?_
    rintro e w2 hr
    obtain ⟨rfl, hd, e2⟩ := retq_ext hr
    clear hr
    have et2 := et.trans e2
    cases q2 with
    | false =>
      have HH := Lib.hid (H2'.out rfl)
      go_wp2_with fail
      go_ret
      exact ⟨.int .i64 2, rfl, congrArg (Value.int .i64) HH.out.symm, et2⟩
    | true =>
      have HH := Lib.hid (H3'.out rfl)
      have hcall := HC3'.out w2 et2
      obtain ⟨d0, d1, d2, d3, d4, d5⟩ := HS.out.all (e1.trans e2)
      clear c0 c1 c2 c3 c4 c5
      go_wp2_with fail
      refine Calls.mono hcall ?_
      rintro e w3 hr
      obtain ⟨r, rfl, rfl, e3⟩ := ret_ext hr
      clear hr hcall
      go_wp2_with fail
      go_ret
      exact ⟨.int .i64 0, rfl, congrArg (Value.int .i64) HH.out.symm, et2.trans e3⟩

open Go.ChangeShapes Go.WideShapes Go.ChangeAt Go.RowKit
set_option linter.unusedVariables false

/-- what the search for the first designs hands back -/
def FirstR (w : World) (st : SS) (r : Value) (w' : World) : Prop := ∃ (g : Nat) (a : Option Addr) (n c : Nat), r = .tuple #[.slice a n c, .pointer (some ⟨g, 0, none⟩)] ∧ n = st.found.length ∧ SliceR RowsR (.new w w') w' (.slice a n c) st.found ∧ w'.cell? ⟨g, 7, none⟩ = some (.int .i64 st.tries) ∧ w'.cell? ⟨g, 8, none⟩ = some (.bool st.over)
theorem foldl_app {α : Type} : ∀ (L A : List α), L.foldl (fun s x => s ++ [x]) A = A ++ L
  | [], A => by simp
  | x :: L, A => by simp [foldl_app L]

theorem first_new {w w6 : World} {mk : MK} {v : Value} {limit most : Int} {Fv : FuncId} {caps : Array Value} {t0 t1 t3 t4 : TypeId}
    (h : ((((w.alloc (.cells #[.int .i64 mk.c, .int .i64 mk.d, .int .i64 mk.s, .int .i64 mk.m, .int .i64 mk.l, v] t0)).alloc (.cells #[.int .i64 most] t1)).alloc (.cells #[] 30)).alloc (.cells #[.slice (some ⟨w.heap.size + 1 + 1, 0, none⟩) 0 0] t3)).alloc (.cells #[.int .i64 mk.c, .int .i64 mk.d, .int .i64 mk.s, .int .i64 mk.m, .int .i64 mk.l, v, .int .i64 limit, .int .i64 0, .bool false, .func (.func Fv) #[] caps] t4) = w6) :
    Ext w w6 ∧ w6.cell? ⟨w.heap.size + 1, 0, none⟩ = some (.int .i64 most) ∧ GoAt (w.heap.size + 1 + 1 + 1 + 1) mk v limit Fv caps (DesInv (w.heap.size + 1 + 1 + 1)) (fun k => (k = w.heap.size + 1 + 1 ∨ k = w.heap.size + 1 + 1 + 1) ∨ k = w.heap.size + 1 + 1 + 1 + 1) ⟨0, false, []⟩ w6 := by
  obtain ⟨wA, hA⟩ : ∃ wA, wA = (w.alloc (.cells #[.int .i64 mk.c, .int .i64 mk.d, .int .i64 mk.s, .int .i64 mk.m, .int .i64 mk.l, v] t0)).alloc (.cells #[.int .i64 most] t1) := ⟨_, rfl⟩
  have eA : Ext w wA := by rw [hA]; exact (Ext.alloc _ _).trans (Ext.alloc _ _)
  have sA : wA.heap.size = w.heap.size + 1 + 1 := by rw [hA]; simp
  have d0 : wA.cell? ⟨w.heap.size + 1, 0, none⟩ = some (.int .i64 most) := by rw [hA]; clear h hA eA sA; go_simp
  rw [← hA] at h
  clear hA
  have o1 : OwnA true (fun k => (k = w.heap.size + 1 + 1 ∨ k = w.heap.size + 1 + 1 + 1) ∧ k ≠ w.heap.size + 1 + 1 + 1) RowsR 30 0 (wA.alloc (.cells #[] 30)) (.slice (some ⟨wA.heap.size, 0, none⟩) 0 0) [] := OwnA.empty (Nat.zero_le _)
  rw [sA] at o1
  rw [← sA] at h
  have e6 : Ext (wA.alloc (.cells #[] 30)) w6 := by rw [← h]; exact (Ext.alloc _ _).trans (Ext.alloc _ _)
  have s6 : w6.heap.size = wA.heap.size + 3 := by rw [← h]; simp
  have d1 : w6.cell? ⟨wA.heap.size + 1, 0, none⟩ = some (.slice (some ⟨wA.heap.size, 0, none⟩) 0 0) := by rw [← h]; clear h e6 s6 o1 d0 eA sA; go_simp
  have f1 : w6.frozen? ⟨wA.heap.size + 1, 0, none⟩ = false := by rw [← h]; clear h e6 s6 o1 d0 eA sA d1; go_simp
  rw [sA] at d1 f1 s6
  have hI : DesInv (w.heap.size + 1 + 1 + 1) (fun k => k = w.heap.size + 1 + 1 ∨ k = w.heap.size + 1 + 1 + 1) [] w6 :=
    ⟨_, d1, f1, OwnA.below stable_rows o1 e6, (fun k hk => by injection hk with hk; simp only at hk; exact ⟨.inl hk.symm, by omega⟩), .inr rfl, fun k hk => by omega⟩
  have eA6 : Ext wA w6 := (Ext.alloc _ _).trans e6
  refine ⟨eA.trans eA6, eA6.cell d0, ?_⟩
  subst h
  have hsz : ((wA.alloc (.cells #[] 30)).alloc (.cells #[.slice (some ⟨wA.heap.size, 0, none⟩) 0 0] t3)).heap.size = w.heap.size + 1 + 1 + 1 + 1 := by simp [sA]
  have hG := goAt_new (w := (wA.alloc (.cells #[] 30)).alloc (.cells #[.slice (some ⟨wA.heap.size, 0, none⟩) 0 0] t3)) (G := fun k => k = w.heap.size + 1 + 1 ∨ k = w.heap.size + 1 + 1 + 1) hI (fun k hk => by omega)
  rw [hsz] at hG
  exact hG

set_option maxRecDepth 20000 in
set_option maxHeartbeats 1000000 in
theorem firstDesigns_c (w : World) (mk : MK) (v : Value) (z : Zone) (t : List (List Int)) (h : RowsR z w v t) (hs : isSystem mk t = true) (limit most : Int) (h0 : 0 ≤ limit) (h4 : limit ≤ 4000) (hm : 0 < most) (hmi : I64 most) :
    Calls Tryz.prog 108 #[sysV mk v, .slice none 0 0, .int .i64 most, .int .i64 limit] w (Ret w (FirstR w (searchS mk t limit most))) := by
  have HT : RowsR ⟨z.lo, min z.hi w.heap.size, false⟩ w v t := shrinks_rows _ _ _ _ h
  have HSim : Hid (Sim (fun s x => s ++ [x]) [] (searchS mk t limit most) (goV mk t limit (fun s x => s ++ [x]) (fun s _ => decide (((s.length + 1 : Nat) : Int) < most)) t.length [] ⟨0, false, []⟩).2) := search_sim hs h0 (fun fs x _ => by
    rw [foldl_app, List.nil_append]
    by_cases q : most ≤ ((fs.length + 1 : Nat) : Int)
    · rw [decide_eq_true q, decide_eq_false (by omega)]; rfl
    · rw [decide_eq_false q, decide_eq_true (by omega)]; rfl)
  have HGo := Lib.hid (fun (w0 : World) (e : Ext w w0) (b bm g : Nat) (F : Nat → Prop) (hF : ∀ k, F k → w.heap.size ≤ k ∧ k ≠ bm) (hc : w0.cell? ⟨bm, 0, none⟩ = some (.int .i64 most)) (hG : GoAt g mk v limit 141 #[.pointer (some ⟨b, 0, none⟩), .pointer (some ⟨bm, 0, none⟩)] (DesInv b) F ⟨0, false, []⟩ w0) =>
    goN_all (visitDes hs hc (fun q => (hF bm q).2 rfl)) (sys_mkOk hs) (sysOk hs) (by unfold I64; omega) h4 (fun x h1 h2 h3 => ⟨h1, h2, h3⟩) t.length [] F ⟨0, false, []⟩ w0 _ (fun _ => False) (.slice none 0 0) hG (fun k hk => .inl hk) (Kept.refl _ _) (stable_rows.ext HT e) (fun k hk q => by have h1 := hk.2; have h2 := (hF k q).1; simp only at h1; omega) RowsA.nil (fun k hk => hk.elim) (by simp) (by simp) (faults_nil mk t) (Int.le_refl _) h0 (by have := (sysOk hs).len; rw [if_neg (by omega)]; exact Int.le_refl _))
  generalize goV mk t limit (fun s x => s ++ [x]) (fun s _ => decide (((s.length + 1 : Nat) : Int) < most)) t.length [] ⟨0, false, []⟩ = res at *
  generalize searchS mk t limit most = st at *
  obtain ⟨a, n, cap, rfl, -⟩ := SliceR.shape h
  clear h HT hs h0 h4
  unfold sysV at *
  go_enter Tryz.func108, Tryz.ntmps108
  go_wp2_with fail
  generalize hw6 : World.alloc (World.alloc (World.alloc (World.alloc (World.alloc w _) _) _) _) _ = w6
  obtain ⟨e6, d6, i6⟩ := first_new hw6
  clear hw6
  refine Calls.mono (HGo.out w6 e6 (w.heap.size + 1 + 1 + 1) (w.heap.size + 1) (w.heap.size + 1 + 1 + 1 + 1) _ (fun k hk => by rcases hk with (q | q) | q <;> omega) d6 i6) ?_
  rintro e w7 ⟨rfl, F7, i7, g7, f7⟩
  have e6s := e6.size
  have HE7 : Hid (Ext w w7) := (Frame.trans (Frame.of_ext (F := fun k => (k = w.heap.size + 1 + 1 ∨ k = w.heap.size + 1 + 1 + 1) ∨ k = w.heap.size + 1 + 1 + 1 + 1) e6) f7 (fun i hi _ => hi)).below (B := w.heap.size) (fun k hk => by rcases hk with (q | q) | q <;> omega) (Nat.le_refl _)
  obtain ⟨gb, gs⟩ := res
  obtain ⟨x1, x2, x3⟩ := HSim.out
  simp only at x1 x2 x3 i7 ⊢
  rw [foldl_app, List.nil_append] at x3
  obtain ⟨G7, ⟨v7, hB7⟩, hG7⟩ := i7.val
  have c7 := i7.c7
  have c8 := i7.c8
  rw [x1] at c7
  rw [x2] at c8
  rw [x3] at hB7
  have hc7 := hB7.cell
  obtain ⟨a7, n7, k7, rfl, hn7, -⟩ := OwnA.shape hB7.own
  have HZ : Hid (SliceR RowsR (.new w w7) w7 (.slice a7 n7 k7) st.found) := BoxE.reads hB7 (L := w.heap.size) (fun k hk => by
    have h1 := (hG7 k hk).1
    rcases g7 k h1 with q | q
    · rcases q with (q | q) | q <;> omega
    · omega)
  have HR : Hid (FirstR w st (.tuple #[.slice a7 n7 k7, .pointer (some ⟨w.heap.size + 1 + 1 + 1 + 1, 0, none⟩)]) w7) := ⟨_, _, _, _, rfl, hn7, HZ.out, c7, c8⟩
  clear hB7 hG7 g7 f7 i7 i6 e6 HGo HSim x1 x2 x3 c7 c8 HZ hn7
  go_wp2_with fail
  go_ret2
  exact ⟨_, rfl, HR.out, HE7.out⟩

open Go.ChangeShapes Go.WideShapes Go.ChangeAt Go.RowKit
set_option linter.unusedVariables false

/-- what FindDesign hands back -/
def FindI (_ : World) (x : (List (List Int) × Int) × Int) (r : Value) (w' : World) : Prop := ∃ u y, r = .tuple #[u, .int .i64 x.1.2, .int .i64 x.2] ∧ RowsR y w' u x.1.1

set_option maxRecDepth 20000 in
set_option maxHeartbeats 1000000 in
theorem FindFrom0_c (w : World) (mk : MK) (v : Value) (z : Zone) (t : List (List Int)) (h : RowsR z w v t) (limit : Int) (hl : I64 limit) :
    Calls Tryz.prog 64 #[sysV mk v, .slice none 0 0, .int .i64 limit] w (Ret w (FindI w (findD mk t limit))) := by
  have H1 : Hid (searchC mk t limit ≠ 0 → findD mk t limit = (([], 0), searchC mk t limit)) := findD_bad
  have H2 : Hid (searchC mk t limit = 0 → findD mk t limit = firstS (searchS mk t limit 1)) := findD_ok
  have HC1 := Lib.hid (fun (w' : World) (e : Ext w w') => searchCode_c w' mk v z t (stable_rows.ext h e) limit hl)
  have HC2 := Lib.hid (fun (h0 : searchC mk t limit = 0) (w' : World) (e : Ext w w') => firstDesigns_c w' mk v z t (stable_rows.ext h e) (searchC_zero h0).1 limit 1 (searchC_zero h0).2.1 (searchC_zero h0).2.2 (by omega) (by unfold I64; omega))
  generalize findD mk t limit = res at *
  generalize searchC mk t limit = rc at *
  generalize searchS mk t limit 1 = st at *
  obtain ⟨a, n, cap, rfl, -⟩ := SliceR.shape h
  clear h
  unfold sysV at *
  go_enter Tryz.func64, Tryz.ntmps64
  go_wp2_with fail
  generalize hw0 : World.alloc _ _ = w0
  obtain ⟨e0, S0⟩ := sys_box hw0
  clear hw0
  have HS := Lib.hid S0
  clear S0
  refine Calls.mono (HC1.out w0 e0) ?_
  rintro e w1 hr
  obtain ⟨r, rfl, rfl, e1⟩ := ret_ext hr
  clear hr HC1
  have et := e0.trans e1
  obtain ⟨c0, c1, c2, c3, c4, c5⟩ := HS.out.ext e1
  by_cases hd : rc = 0
  · have HH := Lib.hid (H2.out hd)
    have hcall := HC2.out hd w1 et
    have hb0 : (rc != 0) = false := by rw [hd]; rfl
    clear hd H1 H2 HC2
    go_wp2_with fail
    refine Calls.mono hcall ?_
    rintro e w2 hr
    obtain ⟨r, rfl, ⟨g, ad, dn, dc, rfl, hn, hD, c7, c8⟩, e2⟩ := ret_ext hr
    clear hr hcall c0 c1 c2 c3 c4 c5 HS
    have HE := Lib.hid (et.trans e2)
    obtain ⟨tries, over, found⟩ := st
    simp only at hn hD c7 c8
    cases found with
    | nil =>
      have hn0 : dn = 0 := hn
      subst hn0
      clear hn hD
      cases over with
      | true =>
        go_wp2_with fail
        go_ret3
        exact ⟨_, rfl, by rw [HH.out]; exact ⟨_, .old w, rfl, SliceR.nil _ _ _⟩, HE.out⟩
      | false =>
        go_wp2_with fail
        go_ret3
        exact ⟨_, rfl, by rw [HH.out]; exact ⟨_, .old w, rfl, SliceR.nil _ _ _⟩, HE.out⟩
    | cons x rest =>
      have hdn : 0 < dn := by rw [hn]; exact Nat.succ_pos _
      obtain ⟨b, off, rfl, a1, n1, c1, -, hc, y, -, hx⟩ := locks_at hD hdn
      have HX := Lib.hid hx
      have HCel : Hid (∀ w', Ext w2 w' → w'.cell? ⟨b, off, none⟩ = some (.slice a1 n1 c1) ∧ w'.cell? ⟨g, 7, none⟩ = some (.int .i64 tries)) := fun w' e => ⟨hc w' e, e.cell c7⟩
      have hd1 : (0 : Int) < (dn : Int) := by omega
      obtain ⟨y1, y2⟩ := HCel.out w2 (Ext.refl _)
      clear hn hD hc hx c7 c8
      go_wp2_with fail
      go_quiet (fail)
      have eD : Ext w2 (w2.drewN nq) := Ext.drewN _ _
      go_wp2_with fail
      go_ret3
      exact ⟨_, rfl, by rw [HH.out]; exact ⟨_, y, rfl, HX.out _ eD⟩, HE.out.trans eD⟩
  · have HH := Lib.hid (H1.out hd)
    have hb0 : (rc != 0) = true := by rw [bne_iff_ne]; exact hd
    clear hd H1 H2 HC2
    go_wp2_with fail
    go_ret3
    exact ⟨_, rfl, by rw [HH.out]; exact ⟨_, .old w, rfl, SliceR.nil _ _ _⟩, et⟩

set_option maxRecDepth 20000 in
set_option maxHeartbeats 1000000 in
theorem FindDesign_c (w : World) (mk : MK) (v : Value) (z : Zone) (t : List (List Int)) (h : RowsR z w v t) (limit : Int) (hl : I64 limit) :
    Calls Tryz.prog 16 #[sysV mk v, .int .i64 limit] w (Ret w (FindI w (findD mk t limit))) := by
  have HC1 := Lib.hid (fun (w' : World) (e : Ext w w') => FindFrom0_c w' mk v z t (stable_rows.ext h e) limit hl)
  generalize findD mk t limit = res at *
  obtain ⟨a, n, cap, rfl, -⟩ := SliceR.shape h
  clear h
  unfold sysV at *
  go_enter Tryz.func16, Tryz.ntmps16
  go_wp2_with fail
  generalize hw0 : World.alloc _ _ = w0
  obtain ⟨e0, S0⟩ := sys_box hw0
  clear hw0 S0
  refine Calls.mono (HC1.out w0 e0) ?_
  rintro e w1 hr
  obtain ⟨r, rfl, ⟨u, y, rfl, hu⟩, e1⟩ := ret_ext hr
  have HU := Lib.hid hu
  clear hr HC1 hu
  go_wp2_with fail
  go_ret3
  exact ⟨_, rfl, ⟨u, y, rfl, HU.out⟩, e0.trans e1⟩

/-- what DesignsOf hands back for at most ten designs -/
def listS (st : SS) : List (List (List Int)) × Int := if st.over = true then ([], 3) else (st.found, 0)
def desD (mk : MK) (t : List (List Int)) (limit : Int) : List (List (List Int)) × Int := if searchC mk t limit ≠ 0 then ([], searchC mk t limit) else listS (searchS mk t limit 10)
theorem desD_bad {mk : MK} {t : List (List Int)} {limit : Int} (h : searchC mk t limit ≠ 0) : desD mk t limit = ([], searchC mk t limit) := by unfold desD; rw [if_pos h]
theorem desD_ok {mk : MK} {t : List (List Int)} {limit : Int} (h : searchC mk t limit = 0) : desD mk t limit = listS (searchS mk t limit 10) := by unfold desD; rw [if_neg (by omega)]
def DesR (x : List (List (List Int)) × Int) (r : Value) (w' : World) : Prop := ∃ u y, r = .tuple #[u, .int .i64 x.2] ∧ SliceR RowsR y w' u x.1

open Go.ChangeShapes Go.WideShapes Go.ChangeAt Go.RowKit
set_option linter.unusedVariables false

theorem fromS_keys {mk : MK} {t : List (List Int)} {limit most : Int} : ∀ (n : Nat) (cuts : List (List Int)) (st : SS), (∀ r ∈ cuts, r ∈ allK mk) → (∀ x ∈ st.found, ∀ r ∈ x, r ∈ allK mk) → ∀ x ∈ (fromS mk t limit most n cuts st).2.found, ∀ r ∈ x, r ∈ allK mk
  | 0, cuts, st, hc, hf => by
    intro x hx
    unfold fromS at hx
    simp only at hx
    rcases List.mem_append.1 hx with q | q
    · exact hf x q
    · rw [List.mem_singleton.1 q]; exact hc
  | n + 1, cuts, st, hc, hf => by
    unfold fromS
    refine sweepS_inv (P := fun st => ∀ x ∈ st.found, ∀ r ∈ x, r ∈ allK mk) (fun st h => h) _ _ (fun k hk st h _ => ?_) hf
    by_cases q : faults mk t (cuts ++ [k]) = 0
    · simp only [q, if_true]
      refine fromS_keys n (cuts ++ [k]) ⟨st.tries + 1, st.over, st.found⟩ (fun r hr => ?_) h
      rcases List.mem_append.1 hr with hr | hr
      · exact hc r hr
      · rw [List.mem_singleton.1 hr]; exact hk
    · simp only [q, if_false]; exact h
/-- what a search finds is a design -/
theorem found_design {mk : MK} {t : List (List Int)} {limit most : Int} (h : searchC mk t limit = 0) : ∀ x ∈ (searchS mk t limit most).found, designCode mk t x = 0 := by
  intro x hx
  obtain ⟨hs, h0, -⟩ := searchC_zero h
  have hg := (searchS_ok (most := most) hs h0).cuts x hx
  have hk := fromS_keys (mk := mk) (t := t) (limit := limit) (most := most) t.length [] ⟨0, false, []⟩ (by simp) (by simp) x hx
  unfold designCode isDesign
  rw [hs, decide_eq_true hg.len, decide_eq_true hg.open_, show areKeysB mk x = true from by
    unfold areKeysB
    rw [List.all_eq_true]
    exact fun r hr => allK_isKey (sys_mkOk hs) (hk r hr)]
  rfl
theorem design_faults {mk : MK} {t cuts : List (List Int)} (h : designCode mk t cuts = 0) : faults mk t cuts = 0 := by
  have h1 : isDesign mk t cuts = true := by
    unfold designCode at h
    split at h
    · assumption
    · omega
  unfold isDesign at h1
  obtain ⟨-, h3⟩ := Bool.and_eq_true_iff.1 h1
  obtain ⟨-, h4⟩ := Bool.and_eq_true_iff.1 h3
  exact of_decide_eq_true h4
theorem spared_pos {mk : MK} {t cuts : List (List Int)} {n : Int} (h : spared mk t cuts = (n, 0)) : 0 ≤ n := by
  by_cases hd : designCode mk t cuts = 0
  · rw [spared_ok hd] at h
    injection h with h _
    have := least_wafers (designCode_zero hd) (design_faults hd)
    omega
  · rw [spared_bad hd] at h
    injection h with _ h
    exact absurd h hd
/-- what is told where there is a best design -/
structure BF (mk : MK) (t : List (List Int)) (limit : Int) (d : List (List Int)) (wd : Int) (L : List (List (List Int))) : Prop where
  own : sysWaf mk t d = (wd, 0)
  list : desD mk t limit = (L, 0)
  each : ∀ k, k < L.length → ∃ y, sysWaf mk t (L.getD k []) = (y, 0) ∧ wd ≤ y
theorem best_facts {mk : MK} {t : List (List Int)} {limit : Int} {d : List (List Int)} (h : bestD mk t limit = (d, 0)) : ∃ wd L, BF mk t limit d wd L := by
  by_cases hc : searchC mk t limit = 0
  · cases ho : (allS mk t limit).over with
    | true => rw [bestD_over hc ho] at h; injection h with _ h; cases h
    | false =>
      cases hb : bestL (sysWafers mk t) (allS mk t limit).found with
      | none => rw [bestD_none hc ho hb] at h; injection h with _ h; cases h
      | some b =>
        rw [bestD_some hc ho hb] at h
        injection h with h _
        subst h
        obtain ⟨q1, q2⟩ := all_ahead (mk := mk) (t := t) (limit := limit) (most := 10) (by omega) ho
        refine ⟨sysWafers mk t b, (searchS mk t limit 10).found, ?_, ?_, fun k hk => ?_⟩
        · exact sysWaf_ok (found_design (most := 1000000) hc b (bestL_mem hb))
        · rw [desD_ok hc]
          unfold listS
          rw [q1]
          rfl
        · have e : (searchS mk t limit 10).found.getD k [] = (searchS mk t limit 10).found[k] := by simp [hk]
          rw [e]
          have hm : (searchS mk t limit 10).found[k] ∈ (searchS mk t limit 10).found := List.getElem_mem hk
          generalize (searchS mk t limit 10).found[k] = x at *
          exact ⟨sysWafers mk t x, sysWaf_ok (found_design hc x hm), bestL_le hb x (q2 x hm)⟩
  · rw [bestD_bad hc] at h
    injection h with _ h
    exact absurd h hc
theorem find_design {mk : MK} {t : List (List Int)} {limit : Int} {d : List (List Int)} {n : Int} (h : findD mk t limit = ((d, n), 0)) : designCode mk t d = 0 := by
  by_cases hc : searchC mk t limit = 0
  · rw [findD_ok hc] at h
    unfold firstS at h
    cases hf : (searchS mk t limit 1).found with
    | nil =>
      rw [hf] at h
      simp only at h
      split at h
      · injection h with _ h; cases h
      · injection h with _ h; cases h
    | cons x r =>
      rw [hf] at h
      simp only at h
      injection h with h _
      injection h with h _
      subst h
      exact found_design hc x (by rw [hf]; exact List.mem_cons_self ..)
  · rw [findD_bad hc] at h
    injection h with _ h
    exact absurd h hc
end Go.Proofs.YthgmojggpjnckaaGreat
