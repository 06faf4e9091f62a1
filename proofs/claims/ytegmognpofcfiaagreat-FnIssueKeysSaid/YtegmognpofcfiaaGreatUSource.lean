/- Proved: the source of draws: l01From, l01Next, l01Pick. -/
import Derived.Test.YtegmognpofcfiaaGreatChecked
import Derived.Test.YtegmognpofcfiaaGreatUBytes
import Derived.Test.YtegmognpofcfiaaGreatUPkA
namespace Go.Proofs.YtegmognpofcfiaaGreat
open Go.ChangeShapes Go.WideShapes Go.ChangeAt Go.RowKit
set_option linter.unusedVariables false

/-- block g holds a source of draws -/
def Src (g : Nat) (w : World) : Prop := ∃ (a : Option Addr) (n cap k : Nat) (s : Int),
  w.cell? ⟨g, 0, none⟩ = some (.slice a n cap) ∧ w.cell? ⟨g, 1, none⟩ = some (.int .i64 k) ∧ w.cell? ⟨g, 2, none⟩ = some (.int .i64 s) ∧
  w.frozen? ⟨g, 1, none⟩ = false ∧ w.frozen? ⟨g, 2, none⟩ = false ∧ n ≤ 9223372036854775807 ∧ k ≤ n ∧ 0 ≤ s ∧ s < 2147483647 ∧
  ∀ i, i < n → ∃ b off x, a = some ⟨b, off, none⟩ ∧ b < g ∧ w.cell? ⟨b, off + i, none⟩ = some (.int .u8 x) ∧ 0 ≤ x ∧ x ≤ 255
theorem Src.lt {g : Nat} {w : World} (h : Src g w) : g < w.heap.size := by
  obtain ⟨a, n, cap, k, s, h0, -⟩ := h
  exact World.block_lt_of_cell? w _ h0
theorem Src.grown {g : Nat} {w w' : World} {row : Option Nat} (h : Src g w) (hg : w.grownBy w' row) (hr : ∀ k, row = some k → g < k) : Src g w' := by
  have hlt := h.lt
  obtain ⟨a, n, cap, k, s, h0, h1, h2, h3, h4, h5, h6, h7, h8, h9⟩ := h
  have hb : ∀ b, b ≤ g → w'.heap[b]? = w.heap[b]? := fun b hb => hg.block b (by omega) (fun e => by have := hr b e.symm; omega)
  refine ⟨a, n, cap, k, s, ?_, ?_, ?_, ?_, ?_, h5, h6, h7, h8, fun i hi => ?_⟩
  · rw [World.cell?_of_block (a := ⟨g, 0, none⟩) (hb g (Nat.le_refl _))]; exact h0
  · rw [World.cell?_of_block (a := ⟨g, 1, none⟩) (hb g (Nat.le_refl _))]; exact h1
  · rw [World.cell?_of_block (a := ⟨g, 2, none⟩) (hb g (Nat.le_refl _))]; exact h2
  · rw [World.frozen?_of_block (a := ⟨g, 1, none⟩) (hb g (Nat.le_refl _))]; exact h3
  · rw [World.frozen?_of_block (a := ⟨g, 2, none⟩) (hb g (Nat.le_refl _))]; exact h4
  · obtain ⟨b, off, x, e, hbg, hc, hx⟩ := h9 i hi
    exact ⟨b, off, x, e, hbg, by rw [World.cell?_of_block (a := ⟨b, off + i, none⟩) (hb b (by omega))]; exact hc, hx⟩
theorem Src.alloc {g : Nat} {w : World} (h : Src g w) (o : Obj) : Src g (w.alloc o) := h.grown (row := none) (World.grownBy_alloc w o none) (fun k hk => by cases hk)
theorem Src.drewN {g : Nat} {w : World} (h : Src g w) (n : Nat) : Src g (w.drewN n) := h
theorem Src.drew {g : Nat} {w : World} (h : Src g w) : Src g w.drew := h

/-- what a draw leaves: the source has gone on, new memory; all else is as it was -/
structure Dr (g : Nat) (w w' : World) : Prop where
  src : Src g w'
  lt : g < w.heap.size
  grown : w.grownBy w' (some g)
theorem Dr.refl {g : Nat} {w : World} (h : Src g w) : Dr g w w := ⟨h, h.lt, World.grownBy.refl _ _⟩
theorem Dr.trans {g : Nat} {a b c : World} (h : Dr g a b) (k : Dr g b c) : Dr g a c := ⟨k.src, h.lt, h.grown.trans k.grown⟩
theorem Dr.size {g : Nat} {w w' : World} (h : Dr g w w') : w.heap.size ≤ w'.heap.size := h.grown.size
theorem Dr.own {g : Nat} {a b c : World} (h : Dr g a b) {row : Option Nat} (k : b.grownBy c row) (hr : ∀ j, row = some j → a.heap.size ≤ j) : Dr g a c :=
  ⟨h.src.grown k (fun j hj => Nat.lt_of_lt_of_le h.lt (hr j hj)), h.lt, h.grown.andThen k (fun j hj => .inl (hr j hj))⟩
theorem Dr.alloc {g : Nat} {a b : World} (h : Dr g a b) (o : Obj) : Dr g a (b.alloc o) := h.own (row := none) (World.grownBy_alloc b o none) (fun k hk => by cases hk)
theorem Dr.below {g : Nat} {a b c : World} (h : Dr g a b) (k : Below b.heap.size b c) : Dr g a c :=
  h.own (row := none) ⟨k.os, k.tape, k.output, k.size, fun i hi _ => k.block i hi⟩ (fun j hj => by cases hj)
theorem Dr.drew {g : Nat} {a b : World} (h : Dr g a b) : Dr g a b.drew := ⟨h.src, h.lt, h.grown.os, h.grown.tape, h.grown.output, h.grown.size, h.grown.block⟩
theorem Dr.drewN {g : Nat} {a b : World} (h : Dr g a b) (n : Nat) : Dr g a (b.drewN n) := ⟨h.src, h.lt, h.grown.os, h.grown.tape, h.grown.output, h.grown.size, h.grown.block⟩
theorem Dr.same {g : Nat} {w w' : World} (h : Dr g w w') {z : Zone} (hz : ¬ z.Has g) : Same z w w' := fun k hk hl => h.grown.block k hl (fun e => by injection e with e; exact hz (e ▸ hk))
theorem Dr.back {g : Nat} {a w w' : World} (h : Dr g w w') (ha : a.heap.size ≤ g) : Below a.heap.size w w' := ⟨h.grown.os, h.grown.tape, h.grown.output, h.grown.size, fun k hk => h.grown.block k (by have := h.lt; omega) (fun e => by injection e with e; omega)⟩
theorem Dr.below' {g : Nat} {w w' : World} (h : Dr g w w') : Below g w w' := ⟨h.grown.os, h.grown.tape, h.grown.output, h.grown.size, fun k hk => h.grown.block k (by have := h.lt; omega) (fun e => by injection e with e; omega)⟩
theorem Stable.dr {α : Type} {E : Repr α} (hE : Stable E) {g : Nat} {z w w' v x} (h : E z w v x) (hd : Dr g w w') (hz : g < z.lo ∨ z.hi ≤ g) : E z w' v x := hE.keep h (hd.same (fun hh => by have h1 := hh.1; have h2 := hh.2; omega))
theorem OwnP.dr {α : Type} {f : α → Value} {e : TypeId} {B : Nat} {w w' : World} {v : Value} {xs : List α} {g : Nat} (h : OwnP f e B w v xs) (hd : Dr g w w') (hg : g < B) : OwnP f e B w' v xs := by
  cases hv : v.ownBlock with
  | none => exact h.kept hd.grown (.inl hv)
  | some k => exact h.kept hd.grown (.inr (by rw [hv]; intro e; injection e with e; have := (h.block k hv).1; omega))
theorem OwnR.dr {α : Type} {E : Repr α} (hE : Stable E) {e : TypeId} {B : Nat} {w w' : World} {v : Value} {xs : List α} {g L : Nat} {b : Bool} (h : OwnR b L E e B w v xs) (hd : Dr g w w') (hg : g < B) (hL : g < L) : OwnR b L E e B w' v xs := by
  cases hv : v.ownBlock with
  | none => exact OwnA.kept hE h hd.grown (.inl hv) (fun k hk => by injection hk with hk; omega)
  | some k => exact OwnA.kept hE h hd.grown (.inr (by rw [hv]; intro e; injection e with e; have := (OwnA.block h k hv).1; omega)) (fun k hk => by injection hk with hk; omega)

/-- what a draw hands back -/
def DrawR (g : Nat) (w : World) (R : Value → World → Prop) (e : Ending) (w' : World) : Prop := ∃ v, e = .returned v ∧ R v w' ∧ Dr g w w'
/-- a number of a draw below n -/
def Num (n : Int) (v : Value) (_ : World) : Prop := ∃ x : Int, v = .int .i64 x ∧ 0 ≤ x ∧ (x = 0 ∨ x < n)

theorem tmod_rng {x n : Int} (hx : 0 ≤ x) (hn : 1 < n) : 0 ≤ x.tmod n ∧ x.tmod n < n := by
  rw [Int.tmod_eq_emod_of_nonneg hx]
  exact ⟨Int.emod_nonneg _ (by omega), Int.emod_lt_of_pos _ (by omega)⟩
theorem setSrc {g : Nat} {w : World} (i : Nat) (u : Value) : w.grownBy (w.setCell ⟨g, i, none⟩ u) (some g) :=
  ⟨rfl, rfl, rfl, by simp [World.setCell], fun k _ hk => Below.heap_setCell _ _ _ _ (fun e => hk (by rw [e]))⟩

/-- the source's next number is stored -/
theorem Src.seed {g : Nat} {w : World} (h : Src g w) {s : Int} (h1 : 0 ≤ s) (h2 : s < 2147483647) : Src g (w.setCell ⟨g, 2, none⟩ (.int .i64 s)) := by
  obtain ⟨a, n, cap, k, s', c0, c1, c2, c3, c4, c5, c6, c7, c8, c9⟩ := h
  refine ⟨a, n, cap, k, s, ?_, ?_, World.cell?_setCell_same _ _ _ c2, by rw [World.frozen?_setCell]; exact c3, by rw [World.frozen?_setCell]; exact c4, c5, c6, h1, h2, fun i hi => ?_⟩
  · rw [World.cell?_setCell_other _ _ _ _ (by simp)]; exact c0
  · rw [World.cell?_setCell_other _ _ _ _ (by simp)]; exact c1
  · obtain ⟨b, off, x, e, hb, hc, hx⟩ := c9 i hi
    exact ⟨b, off, x, e, hb, by rw [World.cell?_setCell_other _ _ _ _ (by intro e; injection e; omega)]; exact hc, hx⟩
theorem Src.step {g : Nat} {w : World} (h : Src g w) {a : Option Addr} {n cap : Nat} (h0 : w.cell? ⟨g, 0, none⟩ = some (.slice a n cap)) {k : Nat} (hk : k ≤ n) : Src g (w.setCell ⟨g, 1, none⟩ (.int .i64 k)) := by
  obtain ⟨a', n', cap', k', s, c0, c1, c2, c3, c4, c5, c6, c7, c8, c9⟩ := h
  rw [h0] at c0
  injection c0 with c0
  injection c0 with e1 e2 e3
  subst e1; subst e2; subst e3
  refine ⟨a, n, cap, k, s, ?_, World.cell?_setCell_same _ _ _ c1, ?_, by rw [World.frozen?_setCell]; exact c3, by rw [World.frozen?_setCell]; exact c4, c5, hk, c7, c8, fun i hi => ?_⟩
  · rw [World.cell?_setCell_other _ _ _ _ (by simp)]; exact h0
  · rw [World.cell?_setCell_other _ _ _ _ (by simp)]; exact c2
  · obtain ⟨b, off, x, e, hb, hc, hx⟩ := c9 i hi
    exact ⟨b, off, x, e, hb, by rw [World.cell?_setCell_other _ _ _ _ (by intro e; injection e; omega)]; exact hc, hx⟩
theorem Dr.set {g : Nat} {a w : World} (h : Dr g a w) {i : Nat} {u : Value} (hs : Src g (w.setCell ⟨g, i, none⟩ u)) : Dr g a (w.setCell ⟨g, i, none⟩ u) := ⟨hs, h.lt, h.grown.trans (setSrc i u)⟩
theorem emod_rng (x n : Int) (hn : 1 < n) : 0 ≤ x % n ∧ x % n < n := ⟨Int.emod_nonneg _ (by omega), Int.emod_lt_of_pos _ (by omega)⟩

set_option maxRecDepth 20000 in
set_option maxHeartbeats 1000000 in
theorem l01Next_c (w : World) (g : Nat) (h : Src g w) (n : Int) (hn : I64 n) : Calls Tryz.prog 91 #[.pointer (some ⟨g, 0, none⟩), .int .i64 n] w (DrawR g w (Num n)) := by
  have hlt := h.lt
  have hD := Lib.hid (Dr.refl h)
  have hSeed := Lib.hid (fun s h1 h2 => h.seed (s := s) h1 h2)
  obtain ⟨a, len, cap, k, s, h0, h1, h2, h3, h4, h5, h6, h7, h8, h9⟩ := h
  obtain ⟨hn1, hn2⟩ := hn
  have H9 := Lib.hid h9
  clear h9
  by_cases hle : n ≤ 1
  · go_enter Tryz.func91, Tryz.ntmps91
    go_wp2_with fail
    go_ret
    exact ⟨_, rfl, ⟨0, rfl, by omega, .inl rfl⟩, hD.out⟩
  · have hgt : 1 < n := by omega
    have HR : Hid (∀ x, 0 ≤ x % n ∧ (x % n = 0 ∨ x % n < n)) := fun x => ⟨(emod_rng x n hgt).1, .inr (emod_rng x n hgt).2⟩
    go_enter Tryz.func91, Tryz.ntmps91
    go_wp2_with fail
    have hs1 := emod_rng (s * 48271 + 29) 2147483647 (by omega)
    generalize (s * 48271 + 29) % 2147483647 = S at *
    have hw1 := hSeed.out S hs1.1 hs1.2
    have c0 : (w.setCell ⟨g, 2, none⟩ (.int .i64 S)).cell? ⟨g, 0, none⟩ = some (.slice a len cap) := by rw [World.cell?_setCell_other _ _ _ _ (by simp)]; exact h0
    have c1 : (w.setCell ⟨g, 2, none⟩ (.int .i64 S)).cell? ⟨g, 1, none⟩ = some (.int .i64 k) := by rw [World.cell?_setCell_other _ _ _ _ (by simp)]; exact h1
    have c3 : (w.setCell ⟨g, 2, none⟩ (.int .i64 S)).frozen? ⟨g, 1, none⟩ = false := by rw [World.frozen?_setCell]; exact h3
    have hd1 : Hid (Dr g w (w.setCell ⟨g, 2, none⟩ (.int .i64 S))) := Dr.set hD.out hw1
    have c9 : ∀ i, i < len → ∃ b off x, a = some ⟨b, off, none⟩ ∧ b < g ∧ (w.setCell ⟨g, 2, none⟩ (.int .i64 S)).cell? ⟨b, off + i, none⟩ = some (.int .u8 x) ∧ 0 ≤ x ∧ x ≤ 255 := fun i hi => by
      obtain ⟨b, off, x, e, hb, hc, hx⟩ := H9.out i hi
      exact ⟨b, off, x, e, hb, by rw [World.cell?_setCell_other _ _ _ _ (by intro e; injection e; omega)]; exact hc, hx⟩
    have hw1 := Lib.hid hw1
    generalize w.setCell ⟨g, 2, none⟩ (.int .i64 S) = w1 at *
    have hq : 0 ≤ S / 31 ∧ S / 31 < 2147483647 := by omega
    generalize S / 31 = q at *
    clear h0 h1 h2 h3 h4 hSeed
    by_cases hkl : k < len
    · obtain ⟨b, off, x, rfl, hb, hc, hx1, hx2⟩ := c9 k hkl
      clear c9 H9
      have HE : Hid (∀ m, Dr g w ((w1.drewN m).setCell ⟨g, 1, none⟩ (.int .i64 (k + 1)))) := fun m =>
        Dr.set (hd1.out.drewN m) (Src.step (k := k + 1) (hw1.out.drewN m) c0 (by omega))
      have HB : Hid (∀ m, ((w1.drewN m).setCell ⟨g, 1, none⟩ (.int .i64 (k + 1))).cell? ⟨b, off + k, none⟩ = some (.int .u8 x) ∧ ((w1.drewN m).setCell ⟨g, 1, none⟩ (.int .i64 (k + 1))).cell? ⟨g, 0, none⟩ = some (.slice (some ⟨b, off, none⟩) len cap) ∧ ((w1.drewN m).setCell ⟨g, 1, none⟩ (.int .i64 (k + 1))).cell? ⟨g, 1, none⟩ = some (.int .i64 (k + 1))) := fun m =>
        ⟨by rw [World.cell?_setCell_other _ _ _ _ (by intro e; injection e; omega)]; exact hc, by rw [World.cell?_setCell_other _ _ _ _ (by simp)]; exact c0, World.cell?_setCell_same _ _ _ c1⟩
      go_quiet (fail)
      go_wp2_with fail
      go_quiet (fail)
      go_wp2_with fail
      · rename_i nq1 e1 e2
        obtain ⟨d1, d2, d3⟩ := HB.out (nq1 + nq)
        have HE' := Lib.hid (HE.out (nq1 + nq))
        clear HB HE
        generalize ((w1.drewN (nq1 + nq)).setCell ⟨g, 1, none⟩ (.int .i64 (k + 1))) = w2 at *
        have hk1 : ((k : Int) + 1) - 1 = k := by omega
        go_quiet (fail)
        go_wp2_with fail
        go_ret
        exact ⟨_, rfl, ⟨_, rfl, HR.out _⟩, HE'.out.drewN _⟩
      · go_ret
        exact ⟨_, rfl, ⟨_, rfl, HR.out _⟩, HE.out _⟩
      · go_ret
        exact ⟨_, rfl, ⟨_, rfl, HR.out _⟩, HE.out _⟩
    · go_quiet (fail)
      go_wp2_with fail
      go_ret
      exact ⟨_, rfl, ⟨_, rfl, HR.out _⟩, hd1.out.drewN _⟩

set_option maxRecDepth 20000 in
set_option maxHeartbeats 1000000 in
theorem l01Pick_c (w : World) (g : Nat) (h : Src g w) (v : Value) (z : Zone) (xs : List Int) (hx : IntsR z w v xs) (hz : g < z.lo ∨ z.hi ≤ g) (h0 : 0 < xs.length) :
    Calls Tryz.prog 92 #[.pointer (some ⟨g, 0, none⟩), v] w (DrawR g w fun r _ => ∃ x ∈ xs, r = .int .i64 x) := by
  have hm := Lib.hid hx.mem
  have hst := Lib.hid (fun w' (hd : Dr g w w') => stable_ints.dr hx hd hz)
  obtain ⟨a, n, cap, rfl, hn, hmax, -⟩ := IntsR.shape hx
  have hcall := l01Next_c w g h n ⟨by omega, by omega⟩
  have Hn := Lib.hid hn
  clear hn hx h
  go_enter Tryz.func92, Tryz.ntmps92
  go_wp2_with fail
  refine Calls.mono hcall ?_
  rintro e w1 ⟨_, rfl, ⟨x, rfl, hx0, hx1⟩, hd⟩
  clear hcall
  obtain ⟨i, rfl⟩ : ∃ i : Nat, x = i := ⟨x.toNat, by omega⟩
  have hil : i < n := by have := Hn.out; omega
  obtain ⟨a', n', cap', e', hn', -, -, -, -, hel⟩ := IntsR.shape (hst.out w1 hd)
  injection e' with e1 e2 e3
  subst e1; subst e2; subst e3
  obtain ⟨b, off, rfl, hc, -⟩ := hel i hil
  have HM : Hid (xs.getD i 0 ∈ xs) := by
    show _ ∈ _
    rw [show xs.getD i 0 = xs[i]'(by omega) by simp [show i < xs.length by omega]]
    exact List.getElem_mem _
  have HD := Lib.hid hd
  clear hel hst hn' hd hm Hn
  generalize xs.getD i 0 = y at *
  go_wp2_with fail
  go_ret
  exact ⟨_, rfl, ⟨_, HM.out, rfl⟩, HD.out⟩

theorem src_new {w : World} {v : Value} {z : Zone} {xs : List Int} (h : BytesR z w v xs) (e : TypeId) : Src w.heap.size (w.alloc (.cells #[v, .int .i64 0, .int .i64 30011] e)) := by
  obtain ⟨a, n, cap, rfl, hn, hmax, -, -, -, hel⟩ := BytesR.shape h
  refine ⟨a, n, cap, 0, 30011, by simp, by simp, by simp, frozen_of_row _ _ _ _ e (heap_alloc_new w _), frozen_of_row _ _ _ _ e (heap_alloc_new w _), hmax, by omega, by omega, by omega, fun i hi => ?_⟩
  obtain ⟨b, off, x, e1, hb, hc, hx⟩ := hel i hi
  exact ⟨b, off, x, e1, hb, (Below.cell ((Below.refl _ _).alloc (Nat.le_refl _) _) hb).trans hc, hx⟩

/-- the bytes lie ahead of block g -/
def BytesAt (a : Option Addr) (n g : Nat) (w : World) : Prop := ∀ i, i < n → ∃ b off x, a = some ⟨b, off, none⟩ ∧ b < g ∧ w.cell? ⟨b, off + i, none⟩ = some (.int .u8 x) ∧ 0 ≤ x ∧ x ≤ 255
theorem BytesAt.dr {a : Option Addr} {n g : Nat} {w w' : World} (h : BytesAt a n g w) (hd : Dr g w w') : BytesAt a n g w' := fun i hi => by
  obtain ⟨b, off, x, e, hb, hc, hx⟩ := h i hi
  exact ⟨b, off, x, e, hb, by rw [World.cell?_of_block (a := ⟨b, off + i, none⟩) (hd.grown.block b (by have := hd.lt; omega) (by intro e; injection e; omega))]; exact hc, hx⟩
/-- where the source's seed lies -/
theorem Src.cells {g : Nat} {w : World} (h : Src g w) : ∃ s : Int, w.cell? ⟨g, 2, none⟩ = some (.int .i64 s) ∧ w.frozen? ⟨g, 2, none⟩ = false ∧ 0 ≤ s ∧ s < 2147483647 := by
  obtain ⟨a, n, cap, k, s, h0, h1, h2, h3, h4, h5, h6, h7, h8, h9⟩ := h
  exact ⟨s, h2, h4, h7, h8⟩

set_option maxRecDepth 20000 in
set_option maxHeartbeats 1000000 in
theorem l01From_c (w : World) (v : Value) (z : Zone) (xs : List Int) (h : BytesR z w v xs) :
    Calls Tryz.prog 89 #[v] w (Ret w fun r w' => ∃ g, w.heap.size ≤ g ∧ r = .pointer (some ⟨g, 0, none⟩) ∧ Src g w') := by
  have hsrc := src_new h 163
  obtain ⟨a, n, cap, rfl, hn, hmax, -, -, -, hel⟩ := BytesR.shape h
  clear hn h
  have hb0 : Below w.heap.size w (w.alloc (.cells #[.slice a n cap, .int .i64 0, .int .i64 30011] 163)) := (Below.refl _ _).alloc (Nat.le_refl _) _
  have hby : BytesAt a n w.heap.size (w.alloc (.cells #[.slice a n cap, .int .i64 0, .int .i64 30011] 163)) := fun i hi => by
    obtain ⟨b, off, x, e1, hb, hc, hx⟩ := hel i hi
    exact ⟨b, off, x, e1, hb, (Below.cell hb0 hb).trans hc, hx⟩
  clear hel
  go_enter Tryz.func89, Tryz.ntmps89
  go_wp2_with fail
  have HB : Hid (Below w.heap.size w (w.alloc (.cells #[.slice a n cap, .int .i64 0, .int .i64 30011] 163)) ∧ w.heap.size ≤ w.heap.size) := ⟨hb0, Nat.le_refl _⟩
  clear hb0
  generalize w.alloc (.cells #[.slice a n cap, .int .i64 0, .int .i64 30011] 163) = w0 at *
  generalize hg : w.heap.size = g at *
  go_loopw [4] (fun t wr => ∃ i : Nat, i ≤ n ∧ i ≤ 64 ∧ t = .int .i64 i ∧ Dr g w0 wr) (fun t _ => 64 - (intOf t).toNat)
  case atStart => exact ⟨0, by omega, by omega, rfl, Dr.refl hsrc⟩
  case round =>
    obtain ⟨i, hi, hi64, rfl, hd⟩ := hrel
    have hst := Lib.hid (fun s h1 h2 => hd.src.seed (s := s) h1 h2)
    have HD := Lib.hid hd
    obtain ⟨s, h2, h4, h7, h8⟩ := hd.src.cells
    have hby' := hby.dr hd
    have Hby := Lib.hid hby
    clear hd hby hsrc
    by_cases hin : i < n
    · by_cases hi6 : i < 64
      · obtain ⟨b, off, x, rfl, hb, hc, hx1, hx2⟩ := hby' i hin
        clear hby'
        go_wp2_with fail
        have hr := emod_rng (s * 67 + x) 2147483647 (by omega)
        go_region
        all_goals (go_wp2_with fail)
        all_goals (refine ⟨⟨i + 1, by omega, by omega, by go_num, (Dr.set HD.out (hst.out _ hr.1 hr.2)).drew⟩, ?_⟩; simp [intOf]; omega)
      · go_wp2_with fail
        go_ret
        have hD := HD.out
        exact ⟨_, rfl, ⟨g, Nat.le_of_eq hg, rfl, hD.src⟩, by rw [hg]; exact HB.out.1.trans hD.below'⟩
    · go_wp2_with fail
      go_ret
      have hD := HD.out
      exact ⟨_, rfl, ⟨g, Nat.le_of_eq hg, rfl, hD.src⟩, by rw [hg]; exact HB.out.1.trans hD.below'⟩
end Go.Proofs.YtegmognpofcfiaaGreat
