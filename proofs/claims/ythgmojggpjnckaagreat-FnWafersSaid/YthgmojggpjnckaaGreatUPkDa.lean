/- Proved: an argument that is a list of bytes; the source of draws: l01From, l01Next, l01Pick; lists and lists of lists that a draw makes; a list of lists that a draw makes: a store of an element; the draw of a building: spec.l09Valid; the draws of a plan and its access table; the draw of an access table: spec.l11Valid, spec.l11Draw. -/
import Derived.Test.YthgmojggpjnckaaGreatChecked
import Derived.Deep.RegionHeld3
import Derived.Deep.Cut
import Derived.Test.YthgmojggpjnckaaGreatUPkL
import Derived.Test.YthgmojggpjnckaaGreatUPkA
namespace Go.Proofs.YthgmojggpjnckaaGreat
open Go.ChangeShapes Go.WideShapes Go.ChangeAt Go.RowKit
set_option linter.unusedVariables false
open Go.Deep

def ByteR : Repr Int := fun _ _ u x => u = .int .u8 x ∧ 0 ≤ x ∧ x ≤ 255
abbrev BytesR : Repr (List Int) := SliceR ByteR
theorem stable_byte : Stable ByteR := ⟨fun h _ => h, fun h _ => h⟩
theorem stable_bytes : Stable BytesR := stable_slice stable_byte

section
variable {H : Type} {enc : TypeId × Value → H} {P : Program} {w : World} {held : Bool}
theorem bytes_of_cells {z : Zone} {w : World} {A : Option Addr} {L C : Nat} {Z : List Int} (hlo : z.lo = 0) (hhi : z.hi = w.heap.size) (ho : z.own = false) (h1 : L ≤ C) (h2 : C ≤ maxLen) (h3 : Z.length = C) (hw : ∀ n ∈ Z, (Lit.int .u8 n).wf = true) (hn : A = none → C = 0)
    (hc : ∀ a', A = some a' → ∀ c, c < C → w.cell? (a'.add c) = some (.int .u8 (Z.getD c 0))) : BytesR z w (.slice A L C) (Z.take L) := by
  have hl : (Z.take L).length = L := by simp; omega
  refine ⟨A, C, by rw [hl], by omega, h2, fun h => ⟨by have := hn h; simp; right; exact List.eq_nil_of_length_eq_zero (by omega), hn h⟩, fun ad had hpos => ?_⟩
  rw [hl] at hpos
  have hcell : ∀ i, i < L → w.cell? ⟨ad.block, ad.off + i, none⟩ = some (.int .u8 (Z.getD i 0)) ∧ ad.spot = none := fun i hi => by
    have hx := hc ad had i (by omega)
    have hs := spot_of_cell (hc ad had 0 (by omega))
    rw [Addr.add_zero'] at hs
    obtain ⟨b, o, s⟩ := ad
    simp only at hs
    subst hs
    rw [Addr.add_lit] at hx
    exact ⟨hx, rfl⟩
  refine ⟨(hcell 0 hpos).2, ⟨by omega, ?_⟩, blk (hcell 0 hpos).1, (fun h => by rw [ho] at h; cases h), fun _ => z, fun _ _ => Zone.Sub.refl z, (fun h => by rw [ho] at h; cases h), fun i hi => ?_⟩
  · rw [hhi]; exact blk (hcell 0 hpos).1
  · rw [hl] at hi
    have hiz : i < Z.length := by omega
    refine ⟨_, (hcell i hi).1, ?_, ?_⟩
    · simp [hiz]
    · rw [List.getElem_take]; exact bounds_u8 (hw _ (List.getElem_mem hiz))
theorem open_BytesR {t e : TypeId} {fuel : Nat} {v : Value} {x : DataW H × List MemPlace} (ht : P.underlying t = some (.slice e)) (he : P.underlying e = some (.int .u8)) (ce : P.cellsOf e = 1)
    (h : DataW.trod enc P w 0 (fun _ => true) held fuel t [v] = some x) : ∃ xs, BytesR (.old w) w v xs := by
  rcases open_ints ht he ce h with ⟨hcs, -⟩ | ⟨a, len, cap, zs, hcs, -, hl, hm, hz, -, hcell, hwf⟩
  · simp at hcs; subst hcs
    exact ⟨[], SliceR.nil _ _ _⟩
  · simp at hcs; subst hcs
    simp only [if_true] at hz
    exact ⟨zs.take len, bytes_of_cells rfl rfl rfl hl hm hz hwf (fun h => by cases h) (fun a' ha c hc => by cases ha; exact hcell c (by omega))⟩
end
/-- a list of bytes: element i -/
theorem BytesR.shape {z w v xs} (h : BytesR z w v xs) : ∃ (a : Option Addr) (n cap : Nat), v = .slice a n cap ∧ n = xs.length ∧ n ≤ 9223372036854775807 ∧ n ≤ cap ∧ cap ≤ maxLen ∧ (a = none → n = 0 ∧ cap = 0) ∧
    ∀ i, i < n → ∃ b off x, a = some ⟨b, off, none⟩ ∧ b < w.heap.size ∧ w.cell? ⟨b, off + i, none⟩ = some (.int .u8 x) ∧ 0 ≤ x ∧ x ≤ 255 := by
  obtain ⟨a, n, cap, rfl, rfl, h1, h2, h3, h4, h5⟩ := SliceR.shape h
  refine ⟨a, _, cap, rfl, rfl, h1, h2, h3, h4, fun i hi => ?_⟩
  obtain ⟨b, off, rfl, _, hb, _, u, y, c1, _, _, rfl, c3⟩ := h5 i hi
  exact ⟨b, off, _, rfl, hb, c1, c3⟩

open Go.ChangeShapes Go.WideShapes Go.ChangeAt Go.RowKit
set_option linter.unusedVariables false

/-- block g holds a source of draws -/
def Src (g : Nat) (w : World) : Prop := ∃ (a : Option Addr) (n cap k : Nat) (s : Int),
  w.cell? ⟨g, 0, none⟩ = some (.slice a n cap) ∧ w.cell? ⟨g, 1, none⟩ = some (.int .i64 k) ∧ w.cell? ⟨g, 2, none⟩ = some (.int .i64 s) ∧
  w.frozen? ⟨g, 1, none⟩ = false ∧ w.frozen? ⟨g, 2, none⟩ = false ∧ n ≤ 9223372036854775807 ∧ k ≤ n ∧ 0 ≤ s ∧ s < 2147483647 ∧
  ∀ i, i < n → ∃ b off x, a = some ⟨b, off, none⟩ ∧ b < g ∧ w.cell? ⟨b, off + i, none⟩ = some (.int .u8 x) ∧ 0 ≤ x ∧ x ≤ 255
theorem Src.lt {g : Nat} {w : World} (h : Src g w) : g < w.heap.size := by
  obtain ⟨a, n, cap, k, s, h0, -⟩ := h
  exact World.block_lt_of_cell? w _ h0
theorem Src.grown {g : Nat} {w w' : World} {row : Option Nat} (h : Src g w) (hg : w.grownBy w' row) (hr : ∀ k, row = some k → g < k) : Src g w' := by
  have hlt := h.lt
  obtain ⟨a, n, cap, k, s, h0, h1, h2, h3, h4, h5, h6, h7, h8, h9⟩ := h
  have hb : ∀ b, b ≤ g → w'.heap[b]? = w.heap[b]? := fun b hb => hg.block b (by omega) (fun e => by have := hr b e.symm; omega)
  refine ⟨a, n, cap, k, s, ?_, ?_, ?_, ?_, ?_, h5, h6, h7, h8, fun i hi => ?_⟩
  · rw [World.cell?_of_block (a := ⟨g, 0, none⟩) (hb g (Nat.le_refl _))]; exact h0
  · rw [World.cell?_of_block (a := ⟨g, 1, none⟩) (hb g (Nat.le_refl _))]; exact h1
  · rw [World.cell?_of_block (a := ⟨g, 2, none⟩) (hb g (Nat.le_refl _))]; exact h2
  · rw [World.frozen?_of_block (a := ⟨g, 1, none⟩) (hb g (Nat.le_refl _))]; exact h3
  · rw [World.frozen?_of_block (a := ⟨g, 2, none⟩) (hb g (Nat.le_refl _))]; exact h4
  · obtain ⟨b, off, x, e, hbg, hc, hx⟩ := h9 i hi
    exact ⟨b, off, x, e, hbg, by rw [World.cell?_of_block (a := ⟨b, off + i, none⟩) (hb b (by omega))]; exact hc, hx⟩
theorem Src.alloc {g : Nat} {w : World} (h : Src g w) (o : Obj) : Src g (w.alloc o) := h.grown (row := none) (World.grownBy_alloc w o none) (fun k hk => by cases hk)
theorem Src.drewN {g : Nat} {w : World} (h : Src g w) (n : Nat) : Src g (w.drewN n) := h
theorem Src.drew {g : Nat} {w : World} (h : Src g w) : Src g w.drew := h

/-- what a draw leaves: the source has gone on, new memory; all else is as it was -/
structure Dr (g : Nat) (w w' : World) : Prop where
  src : Src g w'
  lt : g < w.heap.size
  grown : w.grownBy w' (some g)
theorem Dr.refl {g : Nat} {w : World} (h : Src g w) : Dr g w w := ⟨h, h.lt, World.grownBy.refl _ _⟩
theorem Dr.trans {g : Nat} {a b c : World} (h : Dr g a b) (k : Dr g b c) : Dr g a c := ⟨k.src, h.lt, h.grown.trans k.grown⟩
theorem Dr.size {g : Nat} {w w' : World} (h : Dr g w w') : w.heap.size ≤ w'.heap.size := h.grown.size
theorem Dr.own {g : Nat} {a b c : World} (h : Dr g a b) {row : Option Nat} (k : b.grownBy c row) (hr : ∀ j, row = some j → a.heap.size ≤ j) : Dr g a c :=
  ⟨h.src.grown k (fun j hj => Nat.lt_of_lt_of_le h.lt (hr j hj)), h.lt, h.grown.andThen k (fun j hj => .inl (hr j hj))⟩
theorem Dr.alloc {g : Nat} {a b : World} (h : Dr g a b) (o : Obj) : Dr g a (b.alloc o) := h.own (row := none) (World.grownBy_alloc b o none) (fun k hk => by cases hk)
theorem Dr.below {g : Nat} {a b c : World} (h : Dr g a b) (k : Below b.heap.size b c) : Dr g a c :=
  h.own (row := none) ⟨k.os, k.tape, k.output, k.size, fun i hi _ => k.block i hi⟩ (fun j hj => by cases hj)
theorem Dr.drew {g : Nat} {a b : World} (h : Dr g a b) : Dr g a b.drew := ⟨h.src, h.lt, h.grown.os, h.grown.tape, h.grown.output, h.grown.size, h.grown.block⟩
theorem Dr.drewN {g : Nat} {a b : World} (h : Dr g a b) (n : Nat) : Dr g a (b.drewN n) := ⟨h.src, h.lt, h.grown.os, h.grown.tape, h.grown.output, h.grown.size, h.grown.block⟩
theorem Dr.same {g : Nat} {w w' : World} (h : Dr g w w') {z : Zone} (hz : ¬ z.Has g) : Same z w w' := fun k hk hl => h.grown.block k hl (fun e => by injection e with e; exact hz (e ▸ hk))
theorem Dr.back {g : Nat} {a w w' : World} (h : Dr g w w') (ha : a.heap.size ≤ g) : Below a.heap.size w w' := ⟨h.grown.os, h.grown.tape, h.grown.output, h.grown.size, fun k hk => h.grown.block k (by have := h.lt; omega) (fun e => by injection e with e; omega)⟩
theorem Dr.below' {g : Nat} {w w' : World} (h : Dr g w w') : Below g w w' := ⟨h.grown.os, h.grown.tape, h.grown.output, h.grown.size, fun k hk => h.grown.block k (by have := h.lt; omega) (fun e => by injection e with e; omega)⟩
theorem Stable.dr {α : Type} {E : Repr α} (hE : Stable E) {g : Nat} {z w w' v x} (h : E z w v x) (hd : Dr g w w') (hz : g < z.lo ∨ z.hi ≤ g) : E z w' v x := hE.keep h (hd.same (fun hh => by have h1 := hh.1; have h2 := hh.2; omega))
theorem OwnP.dr {α : Type} {f : α → Value} {e : TypeId} {B : Nat} {w w' : World} {v : Value} {xs : List α} {g : Nat} (h : OwnP f e B w v xs) (hd : Dr g w w') (hg : g < B) : OwnP f e B w' v xs := by
  cases hv : v.ownBlock with
  | none => exact h.kept hd.grown (.inl hv)
  | some k => exact h.kept hd.grown (.inr (by rw [hv]; intro e; injection e with e; have := (h.block k hv).1; omega))
theorem OwnR.dr {α : Type} {E : Repr α} (hE : Stable E) {e : TypeId} {B : Nat} {w w' : World} {v : Value} {xs : List α} {g L : Nat} {b : Bool} (h : OwnR b L E e B w v xs) (hd : Dr g w w') (hg : g < B) (hL : g < L) : OwnR b L E e B w' v xs := by
  cases hv : v.ownBlock with
  | none => exact OwnA.kept hE h hd.grown (.inl hv) (fun k hk => by injection hk with hk; omega)
  | some k => exact OwnA.kept hE h hd.grown (.inr (by rw [hv]; intro e; injection e with e; have := (OwnA.block h k hv).1; omega)) (fun k hk => by injection hk with hk; omega)

/-- what a draw hands back -/
def DrawR (g : Nat) (w : World) (R : Value → World → Prop) (e : Ending) (w' : World) : Prop := ∃ v, e = .returned v ∧ R v w' ∧ Dr g w w'
/-- a number of a draw below n -/
def Num (n : Int) (v : Value) (_ : World) : Prop := ∃ x : Int, v = .int .i64 x ∧ 0 ≤ x ∧ (x = 0 ∨ x < n)

theorem tmod_rng {x n : Int} (hx : 0 ≤ x) (hn : 1 < n) : 0 ≤ x.tmod n ∧ x.tmod n < n := by
  rw [Int.tmod_eq_emod_of_nonneg hx]
  exact ⟨Int.emod_nonneg _ (by omega), Int.emod_lt_of_pos _ (by omega)⟩
theorem setSrc {g : Nat} {w : World} (i : Nat) (u : Value) : w.grownBy (w.setCell ⟨g, i, none⟩ u) (some g) :=
  ⟨rfl, rfl, rfl, by simp [World.setCell], fun k _ hk => Below.heap_setCell _ _ _ _ (fun e => hk (by rw [e]))⟩

/-- the source's next number is stored -/
theorem Src.seed {g : Nat} {w : World} (h : Src g w) {s : Int} (h1 : 0 ≤ s) (h2 : s < 2147483647) : Src g (w.setCell ⟨g, 2, none⟩ (.int .i64 s)) := by
  obtain ⟨a, n, cap, k, s', c0, c1, c2, c3, c4, c5, c6, c7, c8, c9⟩ := h
  refine ⟨a, n, cap, k, s, ?_, ?_, World.cell?_setCell_same _ _ _ c2, by rw [World.frozen?_setCell]; exact c3, by rw [World.frozen?_setCell]; exact c4, c5, c6, h1, h2, fun i hi => ?_⟩
  · rw [World.cell?_setCell_other _ _ _ _ (by simp)]; exact c0
  · rw [World.cell?_setCell_other _ _ _ _ (by simp)]; exact c1
  · obtain ⟨b, off, x, e, hb, hc, hx⟩ := c9 i hi
    exact ⟨b, off, x, e, hb, by rw [World.cell?_setCell_other _ _ _ _ (by intro e; injection e; omega)]; exact hc, hx⟩
theorem Src.step {g : Nat} {w : World} (h : Src g w) {a : Option Addr} {n cap : Nat} (h0 : w.cell? ⟨g, 0, none⟩ = some (.slice a n cap)) {k : Nat} (hk : k ≤ n) : Src g (w.setCell ⟨g, 1, none⟩ (.int .i64 k)) := by
  obtain ⟨a', n', cap', k', s, c0, c1, c2, c3, c4, c5, c6, c7, c8, c9⟩ := h
  rw [h0] at c0
  injection c0 with c0
  injection c0 with e1 e2 e3
  subst e1; subst e2; subst e3
  refine ⟨a, n, cap, k, s, ?_, World.cell?_setCell_same _ _ _ c1, ?_, by rw [World.frozen?_setCell]; exact c3, by rw [World.frozen?_setCell]; exact c4, c5, hk, c7, c8, fun i hi => ?_⟩
  · rw [World.cell?_setCell_other _ _ _ _ (by simp)]; exact h0
  · rw [World.cell?_setCell_other _ _ _ _ (by simp)]; exact c2
  · obtain ⟨b, off, x, e, hb, hc, hx⟩ := c9 i hi
    exact ⟨b, off, x, e, hb, by rw [World.cell?_setCell_other _ _ _ _ (by intro e; injection e; omega)]; exact hc, hx⟩
theorem Dr.set {g : Nat} {a w : World} (h : Dr g a w) {i : Nat} {u : Value} (hs : Src g (w.setCell ⟨g, i, none⟩ u)) : Dr g a (w.setCell ⟨g, i, none⟩ u) := ⟨hs, h.lt, h.grown.trans (setSrc i u)⟩
theorem emod_rng (x n : Int) (hn : 1 < n) : 0 ≤ x % n ∧ x % n < n := ⟨Int.emod_nonneg _ (by omega), Int.emod_lt_of_pos _ (by omega)⟩

set_option maxRecDepth 20000 in
set_option maxHeartbeats 1000000 in
theorem l01Next_c (w : World) (g : Nat) (h : Src g w) (n : Int) (hn : I64 n) : Calls Tryz.prog 49 #[.pointer (some ⟨g, 0, none⟩), .int .i64 n] w (DrawR g w (Num n)) := by
  have hlt := h.lt
  have hD := Lib.hid (Dr.refl h)
  have hSeed := Lib.hid (fun s h1 h2 => h.seed (s := s) h1 h2)
  obtain ⟨a, len, cap, k, s, h0, h1, h2, h3, h4, h5, h6, h7, h8, h9⟩ := h
  obtain ⟨hn1, hn2⟩ := hn
  have H9 := Lib.hid h9
  clear h9
  by_cases hle : n ≤ 1
  · go_enter Tryz.func49, Tryz.ntmps49
    go_wp2_with fail
    go_ret
    exact ⟨_, rfl, ⟨0, rfl, by omega, .inl rfl⟩, hD.out⟩
  · have hgt : 1 < n := by omega
    have HR : Hid (∀ x, 0 ≤ x % n ∧ (x % n = 0 ∨ x % n < n)) := fun x => ⟨(emod_rng x n hgt).1, .inr (emod_rng x n hgt).2⟩
    go_enter Tryz.func49, Tryz.ntmps49
    go_wp2_with fail
    have hs1 := emod_rng (s * 48271 + 29) 2147483647 (by omega)
    generalize (s * 48271 + 29) % 2147483647 = S at *
    have hw1 := hSeed.out S hs1.1 hs1.2
    have c0 : (w.setCell ⟨g, 2, none⟩ (.int .i64 S)).cell? ⟨g, 0, none⟩ = some (.slice a len cap) := by rw [World.cell?_setCell_other _ _ _ _ (by simp)]; exact h0
    have c1 : (w.setCell ⟨g, 2, none⟩ (.int .i64 S)).cell? ⟨g, 1, none⟩ = some (.int .i64 k) := by rw [World.cell?_setCell_other _ _ _ _ (by simp)]; exact h1
    have c3 : (w.setCell ⟨g, 2, none⟩ (.int .i64 S)).frozen? ⟨g, 1, none⟩ = false := by rw [World.frozen?_setCell]; exact h3
    have hd1 : Hid (Dr g w (w.setCell ⟨g, 2, none⟩ (.int .i64 S))) := Dr.set hD.out hw1
    have c9 : ∀ i, i < len → ∃ b off x, a = some ⟨b, off, none⟩ ∧ b < g ∧ (w.setCell ⟨g, 2, none⟩ (.int .i64 S)).cell? ⟨b, off + i, none⟩ = some (.int .u8 x) ∧ 0 ≤ x ∧ x ≤ 255 := fun i hi => by
      obtain ⟨b, off, x, e, hb, hc, hx⟩ := H9.out i hi
      exact ⟨b, off, x, e, hb, by rw [World.cell?_setCell_other _ _ _ _ (by intro e; injection e; omega)]; exact hc, hx⟩
    have hw1 := Lib.hid hw1
    generalize w.setCell ⟨g, 2, none⟩ (.int .i64 S) = w1 at *
    have hq : 0 ≤ S / 31 ∧ S / 31 < 2147483647 := by omega
    generalize S / 31 = q at *
    clear h0 h1 h2 h3 h4 hSeed
    by_cases hkl : k < len
    · obtain ⟨b, off, x, rfl, hb, hc, hx1, hx2⟩ := c9 k hkl
      clear c9 H9
      have HE : Hid (∀ m, Dr g w ((w1.drewN m).setCell ⟨g, 1, none⟩ (.int .i64 (k + 1)))) := fun m =>
        Dr.set (hd1.out.drewN m) (Src.step (k := k + 1) (hw1.out.drewN m) c0 (by omega))
      have HB : Hid (∀ m, ((w1.drewN m).setCell ⟨g, 1, none⟩ (.int .i64 (k + 1))).cell? ⟨b, off + k, none⟩ = some (.int .u8 x) ∧ ((w1.drewN m).setCell ⟨g, 1, none⟩ (.int .i64 (k + 1))).cell? ⟨g, 0, none⟩ = some (.slice (some ⟨b, off, none⟩) len cap) ∧ ((w1.drewN m).setCell ⟨g, 1, none⟩ (.int .i64 (k + 1))).cell? ⟨g, 1, none⟩ = some (.int .i64 (k + 1))) := fun m =>
        ⟨by rw [World.cell?_setCell_other _ _ _ _ (by intro e; injection e; omega)]; exact hc, by rw [World.cell?_setCell_other _ _ _ _ (by simp)]; exact c0, World.cell?_setCell_same _ _ _ c1⟩
      go_quiet (fail)
      go_wp2_with fail
      go_quiet (fail)
      go_wp2_with fail
      · rename_i nq1 e1 e2
        obtain ⟨d1, d2, d3⟩ := HB.out (nq1 + nq)
        have HE' := Lib.hid (HE.out (nq1 + nq))
        clear HB HE
        generalize ((w1.drewN (nq1 + nq)).setCell ⟨g, 1, none⟩ (.int .i64 (k + 1))) = w2 at *
        have hk1 : ((k : Int) + 1) - 1 = k := by omega
        go_quiet (fail)
        go_wp2_with fail
        go_ret
        exact ⟨_, rfl, ⟨_, rfl, HR.out _⟩, HE'.out.drewN _⟩
      · go_ret
        exact ⟨_, rfl, ⟨_, rfl, HR.out _⟩, HE.out _⟩
      · go_ret
        exact ⟨_, rfl, ⟨_, rfl, HR.out _⟩, HE.out _⟩
    · go_quiet (fail)
      go_wp2_with fail
      go_ret
      exact ⟨_, rfl, ⟨_, rfl, HR.out _⟩, hd1.out.drewN _⟩

set_option maxRecDepth 20000 in
set_option maxHeartbeats 1000000 in
theorem l01Pick_c (w : World) (g : Nat) (h : Src g w) (v : Value) (z : Zone) (xs : List Int) (hx : IntsR z w v xs) (hz : g < z.lo ∨ z.hi ≤ g) (h0 : 0 < xs.length) :
    Calls Tryz.prog 48 #[.pointer (some ⟨g, 0, none⟩), v] w (DrawR g w fun r _ => ∃ x ∈ xs, r = .int .i64 x) := by
  have hm := Lib.hid hx.mem
  have hst := Lib.hid (fun w' (hd : Dr g w w') => stable_ints.dr hx hd hz)
  obtain ⟨a, n, cap, rfl, hn, hmax, -⟩ := IntsR.shape hx
  have hcall := l01Next_c w g h n ⟨by omega, by omega⟩
  have Hn := Lib.hid hn
  clear hn hx h
  go_enter Tryz.func48, Tryz.ntmps48
  go_wp2_with fail
  refine Calls.mono hcall ?_
  rintro e w1 ⟨_, rfl, ⟨x, rfl, hx0, hx1⟩, hd⟩
  clear hcall
  obtain ⟨i, rfl⟩ : ∃ i : Nat, x = i := ⟨x.toNat, by omega⟩
  have hil : i < n := by have := Hn.out; omega
  obtain ⟨a', n', cap', e', hn', -, -, -, -, hel⟩ := IntsR.shape (hst.out w1 hd)
  injection e' with e1 e2 e3
  subst e1; subst e2; subst e3
  obtain ⟨b, off, rfl, hc, -⟩ := hel i hil
  have HM : Hid (xs.getD i 0 ∈ xs) := by
    show _ ∈ _
    rw [show xs.getD i 0 = xs[i]'(by omega) by simp [show i < xs.length by omega]]
    exact List.getElem_mem _
  have HD := Lib.hid hd
  clear hel hst hn' hd hm Hn
  generalize xs.getD i 0 = y at *
  go_wp2_with fail
  go_ret
  exact ⟨_, rfl, ⟨_, HM.out, rfl⟩, HD.out⟩

theorem src_new {w : World} {v : Value} {z : Zone} {xs : List Int} (h : BytesR z w v xs) (e : TypeId) : Src w.heap.size (w.alloc (.cells #[v, .int .i64 0, .int .i64 30011] e)) := by
  obtain ⟨a, n, cap, rfl, hn, hmax, -, -, -, hel⟩ := BytesR.shape h
  refine ⟨a, n, cap, 0, 30011, by simp, by simp, by simp, frozen_of_row _ _ _ _ e (heap_alloc_new w _), frozen_of_row _ _ _ _ e (heap_alloc_new w _), hmax, by omega, by omega, by omega, fun i hi => ?_⟩
  obtain ⟨b, off, x, e1, hb, hc, hx⟩ := hel i hi
  exact ⟨b, off, x, e1, hb, (Below.cell ((Below.refl _ _).alloc (Nat.le_refl _) _) hb).trans hc, hx⟩

/-- the bytes lie ahead of block g -/
def BytesAt (a : Option Addr) (n g : Nat) (w : World) : Prop := ∀ i, i < n → ∃ b off x, a = some ⟨b, off, none⟩ ∧ b < g ∧ w.cell? ⟨b, off + i, none⟩ = some (.int .u8 x) ∧ 0 ≤ x ∧ x ≤ 255
theorem BytesAt.dr {a : Option Addr} {n g : Nat} {w w' : World} (h : BytesAt a n g w) (hd : Dr g w w') : BytesAt a n g w' := fun i hi => by
  obtain ⟨b, off, x, e, hb, hc, hx⟩ := h i hi
  exact ⟨b, off, x, e, hb, by rw [World.cell?_of_block (a := ⟨b, off + i, none⟩) (hd.grown.block b (by have := hd.lt; omega) (by intro e; injection e; omega))]; exact hc, hx⟩
/-- where the source's seed lies -/
theorem Src.cells {g : Nat} {w : World} (h : Src g w) : ∃ s : Int, w.cell? ⟨g, 2, none⟩ = some (.int .i64 s) ∧ w.frozen? ⟨g, 2, none⟩ = false ∧ 0 ≤ s ∧ s < 2147483647 := by
  obtain ⟨a, n, cap, k, s, h0, h1, h2, h3, h4, h5, h6, h7, h8, h9⟩ := h
  exact ⟨s, h2, h4, h7, h8⟩

set_option maxRecDepth 20000 in
set_option maxHeartbeats 1000000 in
theorem l01From_c (w : World) (v : Value) (z : Zone) (xs : List Int) (h : BytesR z w v xs) :
    Calls Tryz.prog 46 #[v] w (Ret w fun r w' => ∃ g, w.heap.size ≤ g ∧ r = .pointer (some ⟨g, 0, none⟩) ∧ Src g w') := by
  have hsrc := src_new h 101
  obtain ⟨a, n, cap, rfl, hn, hmax, -, -, -, hel⟩ := BytesR.shape h
  clear hn h
  have hb0 : Below w.heap.size w (w.alloc (.cells #[.slice a n cap, .int .i64 0, .int .i64 30011] 101)) := (Below.refl _ _).alloc (Nat.le_refl _) _
  have hby : BytesAt a n w.heap.size (w.alloc (.cells #[.slice a n cap, .int .i64 0, .int .i64 30011] 101)) := fun i hi => by
    obtain ⟨b, off, x, e1, hb, hc, hx⟩ := hel i hi
    exact ⟨b, off, x, e1, hb, (Below.cell hb0 hb).trans hc, hx⟩
  clear hel
  go_enter Tryz.func46, Tryz.ntmps46
  go_wp2_with fail
  have HB : Hid (Below w.heap.size w (w.alloc (.cells #[.slice a n cap, .int .i64 0, .int .i64 30011] 101)) ∧ w.heap.size ≤ w.heap.size) := ⟨hb0, Nat.le_refl _⟩
  clear hb0
  generalize w.alloc (.cells #[.slice a n cap, .int .i64 0, .int .i64 30011] 101) = w0 at *
  generalize hg : w.heap.size = g at *
  go_loopw [4] (fun t wr => ∃ i : Nat, i ≤ n ∧ i ≤ 64 ∧ t = .int .i64 i ∧ Dr g w0 wr) (fun t _ => 64 - (intOf t).toNat)
  case atStart => exact ⟨0, by omega, by omega, rfl, Dr.refl hsrc⟩
  case round =>
    obtain ⟨i, hi, hi64, rfl, hd⟩ := hrel
    have hst := Lib.hid (fun s h1 h2 => hd.src.seed (s := s) h1 h2)
    have HD := Lib.hid hd
    obtain ⟨s, h2, h4, h7, h8⟩ := hd.src.cells
    have hby' := hby.dr hd
    have Hby := Lib.hid hby
    clear hd hby hsrc
    by_cases hin : i < n
    · by_cases hi6 : i < 64
      · obtain ⟨b, off, x, rfl, hb, hc, hx1, hx2⟩ := hby' i hin
        clear hby'
        go_wp2_with fail
        have hr := emod_rng (s * 67 + x) 2147483647 (by omega)
        go_region
        all_goals (go_wp2_with fail)
        all_goals (refine ⟨⟨i + 1, by omega, by omega, by go_num, (Dr.set HD.out (hst.out _ hr.1 hr.2)).drew⟩, ?_⟩; simp [intOf]; omega)
      · go_wp2_with fail
        go_ret
        have hD := HD.out
        exact ⟨_, rfl, ⟨g, Nat.le_of_eq hg, rfl, hD.src⟩, by rw [hg]; exact HB.out.1.trans hD.below'⟩
    · go_wp2_with fail
      go_ret
      have hD := HD.out
      exact ⟨_, rfl, ⟨g, Nat.le_of_eq hg, rfl, hD.src⟩, by rw [hg]; exact HB.out.1.trans hD.below'⟩

open Go.ChangeShapes Go.WideShapes Go.ChangeAt Go.RowKit
set_option linter.unusedVariables false

/-- 'append(s, y)' among draws -/
theorem wpList_drawInt {P : Program} {ops : Array Oper} {rest : List Oper} {o : Oper} {a : Act} {Q : Exit → Act → World → Prop} {w0 w : World} {v : Value} {xs : List Int} {B g : Nat} {e : TypeId} (hgd : o.guard = Option.none) (s x : Operand) (t : TypeId)
    (ho : o.op = .call { callee := .builtin .append, args := #[s, x], argTypes := #[t, t] }) (ht : P.underlying t = some (.slice e)) (hinfo : (P.info? e).map (fun i => (i.zero, i.size, i.bytes)) = some (some (.int .i64 0), 1, 8))
    (hs : a.eval s = v) (hown : OwnP (Value.int .i64) e B w v xs) (y : Int) (hx : a.eval x = .slice (some ⟨w.heap.size, 0, none⟩) 1 1) (hn : xs.length ≤ 1000000) (hd : Dr g w0 w) (hB : w0.heap.size ≤ B) (hBw : B ≤ w.heap.size)
    (h : ∀ v' w', OwnP (Value.int .i64) e B w' v' (xs ++ [y]) → Dr g w0 w' → w.heap.size ≤ w'.heap.size → wpList P ops Q rest (a.put o.dst v') w') : wpList P ops Q (o :: rest) a (w.alloc (.cells #[.int .i64 y] e)) :=
  wpList_append1 (f := Value.int .i64) hgd s x t ho 0 8 ht hinfo rfl (fun _ => rfl) hs hown y hx (by omega) (by omega) hBw (fun v' w' h1 h2 h3 => h v' w' h1 (hd.own h2 (fun k hk => Nat.le_trans hB (hown.block k hk).1)) h2.size)
/-- 'append(s, r)' among draws, r a list that lies from block lo on -/
theorem wpList_drawRow {α : Type} {E : Repr α} {P : Program} {ops : Array Oper} {rest : List Oper} {o : Oper} {a : Act} {Q : Exit → Act → World → Prop} {w0 w : World} {v : Value} {xs : List α} {B g : Nat} {e : TypeId} (hE : Stable E) (hsl : SlRepr E) (hgd : o.guard = Option.none) (s x : Operand) (t : TypeId)
    (ho : o.op = .call { callee := .builtin .append, args := #[s, x], argTypes := #[t, t] }) (ht : P.underlying t = some (.slice e)) (hinfo : (P.info? e).map (fun i => (i.zero, i.size, i.bytes)) = some (some (.slice Option.none 0 0), 1, 24))
    (hs : a.eval s = v) (hown : OwnR false B E e B w v xs) (u : Option Addr × Nat × Nat) (y : α) {lo : Nat} {q : Bool} (hu : E ⟨lo, w.heap.size, q⟩ w (slV u) y) {gx : Nat} (hgx : w.heap.size = gx) (hx : a.eval x = .slice (some ⟨gx, 0, Option.none⟩) 1 1) (hn : xs.length ≤ 1000000)
    (hlo : B ≤ lo) (hlw : lo ≤ w.heap.size) (hv : ∀ k, v.ownBlock = some k → k < lo) (hd : Dr g w0 w) (hB : w0.heap.size ≤ B)
    (h : ∀ v' w', OwnR false B E e B w' v' (xs ++ [y]) → Dr g w0 w' → w.heap.size ≤ w'.heap.size → wpList P ops Q rest (a.put o.dst v') w') : wpList P ops Q (o :: rest) a (w.alloc (.cells #[slV u] e)) := by
  subst hgx
  exact wpList_appendRows (b := false) hE hsl hgd s x t ho ht hinfo hs hown ((Below.refl _ _).alloc (Nat.le_refl _) _) hx (SliceR.one hE hu (Nat.le_refl _) (Nat.le_refl _) hlw) (fun h => by cases h)
    (fun k hk => ⟨Nat.le_trans hlo hk.1, by have := hk.2; simpa using this, fun e => by have h1 := hv k e; have h2 : lo ≤ k := hk.1; omega⟩) (fun h => by cases h) (by simp only [List.length_cons, List.length_nil]; omega) (Nat.le_trans hlo hlw)
    (fun v' w' h1 h2 _ => h v' w' h1 ((hd.alloc _).own h2 (fun k hk => Nat.le_trans hB (OwnA.block hown k hk).1)) (Nat.le_trans (Nat.le_of_lt (by simp)) h2.size))
theorem ints_new {w : World} {v : Value} {xs : List Int} {e : TypeId} {B : Nat} (h : OwnP (Value.int .i64) e B w v xs) (hm : ∀ x ∈ xs, I64 x) : IntsR ⟨B, w.heap.size, true⟩ w v xs := OwnP.ints h hm (Nat.le_refl _)
theorem ints_snoc {l : List Int} {x : Int} (h : ∀ y ∈ l, I64 y) (hx : I64 x) : ∀ y ∈ l ++ [x], I64 y := fun y hy => by
  rcases List.mem_append.1 hy with hy | hy
  · exact h y hy
  · rw [List.mem_singleton.1 hy]; exact hx
theorem OwnR.alloc {α : Type} {E : Repr α} (hE : Stable E) {b : Bool} {L B : Nat} {e : TypeId} {w : World} {v : Value} {xs : List α} (h : OwnR b L E e B w v xs) (o : Obj) : OwnR b L E e B (w.alloc o) v xs := OwnR.below hE h ((Below.refl _ _).alloc (Nat.le_refl _) _)
def drawLen : Value → Nat
  | .slice _ n _ => n
  | _ => 0

open Go.ChangeShapes Go.WideShapes Go.ChangeAt Go.RowKit
set_option linter.unusedVariables false

theorem OwnR.put {α : Type} {E : Repr α} (hE : Stable E) {L B : Nat} {e : TypeId} {w : World} {gb n cap : Nat} {xs : List α} (h : OwnR false L E e B w (.slice (some ⟨gb, 0, Option.none⟩) n cap) xs) (k : Nat) (u : Option Addr × Nat × Nat) (y : α) {Zn : Zone} (hu : E Zn w (slV u) y) (hz : ∀ j, Zn.Has j → L ≤ j ∧ j < w.heap.size ∧ j ≠ gb) :
    OwnR false L E e B (w.setCell ⟨gb, k, Option.none⟩ (slV u)) (.slice (some ⟨gb, 0, Option.none⟩) n cap) (xs.set k y) := by
  obtain ⟨us, Z, hl, ho, h1, h2, h3⟩ := h
  have hset : ∀ j, j ≠ gb → (w.setCell ⟨gb, k, Option.none⟩ (slV u)).heap[j]? = w.heap[j]? := fun j hj => Below.heap_setCell _ _ _ _ hj
  have hsz : (w.setCell ⟨gb, k, Option.none⟩ (slV u)).heap.size = w.heap.size := by simp [World.setCell]
  refine ⟨us.set k u, fun j => if j = k then Zn else Z j, by simp [hl], OwnP.store ho k u, fun i hi => ⟨(fun h => by cases h), fun j hj => ?_⟩, (fun h => by cases h), fun i hi hi' => ?_⟩
  · rw [hsz]
    by_cases e : i = k
    · simp only [e, if_true] at hj
      have := hz j hj
      exact ⟨this.1, this.2.1, fun e => this.2.2 (by injection e with e; exact e.symm)⟩
    · simp only [e, if_false] at hj
      exact (h1 i (by simpa using hi)).2 j hj
  · by_cases e : i = k
    · subst e
      simp only [if_true, List.getElem_set_self]
      exact hE.keep hu (fun j hj _ => hset j (hz j hj).2.2)
    · simp only [e, if_false]
      rw [List.getElem_set_ne (by omega), List.getElem_set_ne (by omega)]
      refine hE.keep (h3 i (by simpa using hi) (by simpa using hi')) (fun j hj _ => hset j (fun e => ?_))
      exact ((h1 i (by simpa using hi)).2 j hj).2.2 (by rw [e]; rfl)
/-- what a store into a block of the call's own leaves -/
theorem Dr.put {g : Nat} {a w : World} (h : Dr g a w) {p : Addr} (hp : a.heap.size ≤ p.block) (u : Value) : Dr g a (w.setCell p u) :=
  h.own (row := some p.block) ⟨rfl, rfl, rfl, by simp [World.setCell], fun k _ hk => Below.heap_setCell _ _ _ _ (fun e => hk (by rw [e]))⟩ (fun j hj => by injection hj with hj; omega)
theorem Dr.cell {g : Nat} {w w' : World} (h : Dr g w w') {p : Addr} {u : Value} (hc : w.cell? p = some u) (hp : p.block ≠ g) : w'.cell? p = some u := by
  rw [World.cell?_of_block (h.grown.block p.block (World.block_lt_of_cell? _ _ hc) (fun e => hp (by injection e)))]; exact hc
theorem Dr.frozen {g : Nat} {w w' : World} (h : Dr g w w') {p : Addr} (hlt : p.block < w.heap.size) (hp : p.block ≠ g) : w'.frozen? p = w.frozen? p :=
  World.frozen?_of_block (h.grown.block p.block hlt (fun e => hp (by injection e)))
theorem OwnR.elem {α : Type} {E : Repr α} {L B : Nat} {e : TypeId} {w : World} {v : Value} {xs : List α} (h : OwnR false L E e B w v xs) {k : Nat} (hk : k < xs.length) :
    ∃ gb n cap u, v = .slice (some ⟨gb, 0, Option.none⟩) n cap ∧ n = xs.length ∧ n ≤ 9223372036854775807 ∧ B ≤ gb ∧ gb < w.heap.size ∧ w.cell? ⟨gb, k, Option.none⟩ = some (slV u) ∧ w.frozen? ⟨gb, k, Option.none⟩ = false := by
  obtain ⟨us, Z, hl, ho, h1, h2, h3⟩ := h
  obtain ⟨a, n, cap, rfl, hn, hm, hel⟩ := ho.shape
  obtain ⟨b, rfl, hb, hlt, hc, hf⟩ := hel k (by omega)
  exact ⟨b, n, cap, _, rfl, by omega, hm, hb, hlt, hc, hf⟩
theorem OwnR.lower {α : Type} {E : Repr α} {L B L' B' : Nat} {e : TypeId} {w : World} {v : Value} {xs : List α} {b : Bool} (h : OwnR b L E e B w v xs) (hL : L' ≤ L) (hB : B' ≤ B) : OwnR b L' E e B' w v xs := by
  obtain ⟨us, Z, hl, ho, h1, h2, h3⟩ := h
  exact ⟨us, Z, hl, ho.lower hB, fun i hi => ⟨(h1 i hi).1, fun k hk => ⟨Nat.le_trans hL ((h1 i hi).2 k hk).1, ((h1 i hi).2 k hk).2⟩⟩, h2, h3⟩
/-- a store elsewhere -/
theorem OwnR.set_far {α : Type} {E : Repr α} (hE : Stable E) {L B : Nat} {e : TypeId} {w : World} {v : Value} {xs : List α} {b : Bool} (h : OwnR b L E e B w v xs) {p : Addr} (hL : p.block < L) (hB : p.block < B) (u : Value) : OwnR b L E e B (w.setCell p u) v xs := by
  have hg : w.grownBy (w.setCell p u) (some p.block) := ⟨rfl, rfl, rfl, by simp [World.setCell], fun k _ hk => Below.heap_setCell _ _ _ _ (fun e => hk (by rw [e]))⟩
  cases hv : v.ownBlock with
  | none => exact OwnA.kept hE h hg (.inl hv) (fun k hk => by injection hk with hk; omega)
  | some k => exact OwnA.kept hE h hg (.inr (by rw [hv]; intro e; injection e with e; have := (OwnA.block h k hv).1; omega)) (fun k hk => by injection hk with hk; omega)
/-- two cells of a block of its own -/
def Box2 (b : Nat) (x y : Value) (w : World) : Prop := w.cell? ⟨b, 0, none⟩ = some x ∧ w.cell? ⟨b, 1, none⟩ = some y ∧ w.frozen? ⟨b, 0, none⟩ = false ∧ w.frozen? ⟨b, 1, none⟩ = false
theorem Box2.new (w : World) (x y : Value) (t : TypeId) : Box2 w.heap.size x y (w.alloc (.cells #[x, y] t)) :=
  ⟨by simp, by simp, frozen_of_row _ _ _ _ t (heap_alloc_new w _), frozen_of_row _ _ _ _ t (heap_alloc_new w _)⟩
theorem Box2.dr {b g : Nat} {x y : Value} {w w' : World} (h : Box2 b x y w) (hd : Dr g w w') (hb : b ≠ g) : Box2 b x y w' := by
  have hlt : b < w.heap.size := World.block_lt_of_cell? w _ h.1
  exact ⟨hd.cell h.1 hb, hd.cell h.2.1 hb, (hd.frozen hlt hb).trans h.2.2.1, (hd.frozen hlt hb).trans h.2.2.2⟩
/-- 'append(s, r)' among draws, with what it writes -/
theorem wpList_drawRowG {α : Type} {E : Repr α} {P : Program} {ops : Array Oper} {rest : List Oper} {o : Oper} {a : Act} {Q : Exit → Act → World → Prop} {w0 w : World} {v : Value} {xs : List α} {B g : Nat} {e : TypeId} (hE : Stable E) (hsl : SlRepr E) (hgd : o.guard = Option.none) (s x : Operand) (t : TypeId)
    (ho : o.op = .call { callee := .builtin .append, args := #[s, x], argTypes := #[t, t] }) (ht : P.underlying t = some (.slice e)) (hinfo : (P.info? e).map (fun i => (i.zero, i.size, i.bytes)) = some (some (.slice Option.none 0 0), 1, 24))
    (hs : a.eval s = v) (hown : OwnR false B E e B w v xs) (u : Option Addr × Nat × Nat) (y : α) {lo : Nat} {q : Bool} (hu : E ⟨lo, w.heap.size, q⟩ w (slV u) y) {gx : Nat} (hgx : w.heap.size = gx) (hx : a.eval x = .slice (some ⟨gx, 0, Option.none⟩) 1 1) (hn : xs.length ≤ 1000000)
    (hlo : B ≤ lo) (hlw : lo ≤ w.heap.size) (hv : ∀ k, v.ownBlock = some k → k < lo) (hd : Dr g w0 w) (hB : w0.heap.size ≤ B)
    (h : ∀ v' w', OwnR false B E e B w' v' (xs ++ [y]) → Dr g w0 w' → w.heap.size ≤ w'.heap.size → w.grownBy w' v.ownBlock → (∀ k, v'.ownBlock = some k → v.ownBlock = some k ∨ w.heap.size ≤ k) → wpList P ops Q rest (a.put o.dst v') w') : wpList P ops Q (o :: rest) a (w.alloc (.cells #[slV u] e)) := by
  subst hgx
  exact wpList_appendRows (b := false) hE hsl hgd s x t ho ht hinfo hs hown ((Below.refl _ _).alloc (Nat.le_refl _) _) hx (SliceR.one hE hu (Nat.le_refl _) (Nat.le_refl _) hlw) (fun h => by cases h)
    (fun k hk => ⟨Nat.le_trans hlo hk.1, by have := hk.2; simpa using this, fun e => by have h1 := hv k e; have h2 : lo ≤ k := hk.1; omega⟩) (fun h => by cases h) (by simp only [List.length_cons, List.length_nil]; omega) (Nat.le_trans hlo hlw)
    (fun v' w' h1 h2 h3 => h v' w' h1 ((hd.alloc _).own h2 (fun k hk => Nat.le_trans hB (OwnA.block hown k hk).1)) (Nat.le_trans (Nat.le_of_lt (by simp)) h2.size) ((World.grownBy_alloc _ _ _).trans h2) (fun k hk => by
      rcases h3 with h3 | h3
      · exact .inl (h3 ▸ hk)
      · rw [h3] at hk; injection hk with hk; right; simp at hk; omega))

open Go.ChangeShapes Go.WideShapes Go.ChangeAt Go.RowKit
set_option linter.unusedVariables false

theorem Tryz.infoBool : (Tryz.prog.info? 4).map (fun i => (i.zero, i.size, i.bytes)) = some (some (.bool false), 1, 1) := by kernel_rfl

/-- three rows of the call's own, in blocks of their own -/
structure Tri (B : Nat) (w : World) (v4 v5 v6 : Value) (ps : List Int) (ds : List Bool) (gs : List Int) : Prop where
  o4 : OwnP (Value.int .i64) 2 B w v4 ps
  o5 : OwnP Value.bool 4 B w v5 ds
  o6 : OwnP (Value.int .i64) 2 B w v6 gs
  a45 : ∀ k, v4.ownBlock = some k → v5.ownBlock ≠ some k
  a46 : ∀ k, v4.ownBlock = some k → v6.ownBlock ≠ some k
  a56 : ∀ k, v5.ownBlock = some k → v6.ownBlock ≠ some k
section
variable {B : Nat} {w w' : World} {v4 v5 v6 v' : Value} {ps : List Int} {ds : List Bool} {gs : List Int}
theorem noneOr {v : Value} {row : Option Nat} (h : ∀ k, v.ownBlock = some k → row ≠ some k) : v.ownBlock = none ∨ v.ownBlock ≠ row := by
  cases e : v.ownBlock with
  | none => exact .inl rfl
  | some k => exact .inr (fun q => h k e q.symm)
theorem Tri.dr {g : Nat} (h : Tri B w v4 v5 v6 ps ds gs) (hd : Dr g w w') (hg : g < B) : Tri B w' v4 v5 v6 ps ds gs := ⟨h.o4.dr hd hg, h.o5.dr hd hg, h.o6.dr hd hg, h.a45, h.a46, h.a56⟩
theorem Tri.push4 (h : Tri B w v4 v5 v6 ps ds gs) {y : Int} (ho : OwnP (Value.int .i64) 2 B w' v' (ps ++ [y])) (hg : w.grownBy w' v4.ownBlock) (hv : ∀ k, v'.ownBlock = some k → v4.ownBlock = some k ∨ w.heap.size ≤ k) : Tri B w' v' v5 v6 (ps ++ [y]) ds gs :=
  ⟨ho, h.o5.kept hg (noneOr (fun k hk e => h.a45 k e hk)), h.o6.kept hg (noneOr (fun k hk e => h.a46 k e hk)), fun k hk e => (hv k hk).elim (fun q => h.a45 k q e) (fun q => by have := (h.o5.block k e).2; omega), fun k hk e => (hv k hk).elim (fun q => h.a46 k q e) (fun q => by have := (h.o6.block k e).2; omega), h.a56⟩
theorem Tri.push5 (h : Tri B w v4 v5 v6 ps ds gs) {y : Bool} (ho : OwnP Value.bool 4 B w' v' (ds ++ [y])) (hg : w.grownBy w' v5.ownBlock) (hv : ∀ k, v'.ownBlock = some k → v5.ownBlock = some k ∨ w.heap.size ≤ k) : Tri B w' v4 v' v6 ps (ds ++ [y]) gs :=
  ⟨h.o4.kept hg (noneOr (fun k hk e => h.a45 k hk e)), ho, h.o6.kept hg (noneOr (fun k hk e => h.a56 k e hk)), fun k hk e => (hv k e).elim (fun q => h.a45 k hk q) (fun q => by have := (h.o4.block k hk).2; omega), h.a46, fun k hk e => (hv k hk).elim (fun q => h.a56 k q e) (fun q => by have := (h.o6.block k e).2; omega)⟩
theorem Tri.push6 (h : Tri B w v4 v5 v6 ps ds gs) {y : Int} (ho : OwnP (Value.int .i64) 2 B w' v' (gs ++ [y])) (hg : w.grownBy w' v6.ownBlock) (hv : ∀ k, v'.ownBlock = some k → v6.ownBlock = some k ∨ w.heap.size ≤ k) : Tri B w' v4 v5 v' ps ds (gs ++ [y]) :=
  ⟨h.o4.kept hg (noneOr (fun k hk e => h.a46 k hk e)), h.o5.kept hg (noneOr (fun k hk e => h.a56 k hk e)), ho, h.a45, fun k hk e => (hv k e).elim (fun q => h.a46 k hk q) (fun q => by have := (h.o4.block k hk).2; omega), fun k hk e => (hv k e).elim (fun q => h.a56 k hk q) (fun q => by have := (h.o5.block k hk).2; omega)⟩
end
/-- the first so many nodes of a building -/
structure BldTo (ps : List Int) (ds : List Bool) : Prop where
  len : ds.length = ps.length
  root : ps.getD 0 0 = -1
  par : ∀ i, 1 ≤ i → i < ps.length → 0 ≤ ps.getD i 0 ∧ ps.getD i 0 < i
theorem getD_app {α : Type} {l : List α} {x d : α} {i : Nat} : (l ++ [x]).getD i d = if i < l.length then l.getD i d else if i = l.length then x else d := by
  rw [List.getD_eq_getElem?_getD, List.getD_eq_getElem?_getD]
  by_cases h : i < l.length
  · rw [if_pos h, List.getElem?_append_left h]
  · rw [if_neg h, List.getElem?_append_right (by omega)]
    by_cases e : i = l.length
    · rw [if_pos e, e]; simp
    · rw [if_neg e, List.getElem?_eq_none (by simp; omega)]; rfl
theorem BldTo.snoc {ps : List Int} {ds : List Bool} (h : BldTo ps ds) (h1 : 1 ≤ ps.length) {p : Int} {d : Bool} (hp : 0 ≤ p ∧ p < ps.length) : BldTo (ps ++ [p]) (ds ++ [d]) := by
  refine ⟨by simp [h.len], by rw [getD_app, if_pos (by omega)]; exact h.root, fun i hi hl => ?_⟩
  rw [getD_app]
  by_cases e : i < ps.length
  · rw [if_pos e]; exact h.par i hi e
  · rw [List.length_append, List.length_singleton] at hl
    rw [if_neg e, if_pos (by omega)]; omega
structure BldOk (ps : List Int) (ds : List Bool) : Prop extends BldTo ps ds where
  lo : 2 ≤ ps.length
  hi : ps.length ≤ 10
  last : ds.getD (ps.length - 1) false = true
def Valid09 (w : World) (r : Value) (w' : World) : Prop := ∃ (up ud : Value) (ps : List Int) (ds : List Bool), r = .agg #[up, ud] ∧ BldOk ps ds ∧ IntsR ⟨w.heap.size, w'.heap.size, false⟩ w' up ps ∧ BoolsR ⟨w.heap.size, w'.heap.size, false⟩ w' ud ds
theorem BldOk.i64 {ps : List Int} {ds : List Bool} (h : BldOk ps ds) : ∀ x ∈ ps, I64 x := fun x hx => by
  obtain ⟨i, hi, rfl⟩ := List.getElem_of_mem hx
  have e : ps.getD i 0 = ps[i] := by simp [hi]
  have := h.hi
  rcases Nat.eq_zero_or_pos i with q | q
  · subst q; rw [← e, h.root]; unfold I64; omega
  · have := h.par i q hi; rw [← e]; unfold I64; omega

set_option maxRecDepth 20000 in
set_option maxHeartbeats 4000000 in
theorem l09Valid_c (w : World) (g : Nat) (h : Src g w) : Calls Tryz.prog 199 #[.pointer (some ⟨g, 0, none⟩)] w (DrawR g w (Valid09 w)) := by
  have hlt := h.lt
  have hd0 := (Dr.refl h).alloc (.cells #[.slice none 0 0, .slice none 0 0] 156)
  have hbx := Box2.new w (.slice none 0 0) (.slice none 0 0) 156
  have hcall := l01Next_c _ g hd0.src 9 (by unfold I64; omega)
  have hsz0 : (w.alloc (.cells #[.slice none 0 0, .slice none 0 0] 156)).heap.size = w.heap.size + 1 := by simp
  clear h
  go_enter Tryz.func199, Tryz.ntmps199
  go_wp2_with fail
  generalize w.alloc (.cells #[.slice none 0 0, .slice none 0 0] 156) = w0 at *
  refine Calls.mono hcall ?_
  rintro e w1 ⟨_, rfl, ⟨x, rfl, hx0, hx1⟩, hd1⟩
  clear hcall
  have hbx1 := hbx.dr hd1 (by omega)
  have hd2 := hd0.trans hd1
  have hs1 : w.heap.size + 1 ≤ w1.heap.size := by have := hd1.size; omega
  have HB : Hid (∀ w', Dr g w1 w' → Box2 w.heap.size (.slice none 0 0) (.slice none 0 0) w') := fun w' hd => hbx1.dr hd (by omega)
  clear hbx hbx1 hd1 hd0 hsz0
  go_wp2_with fail
  obtain ⟨n, hn⟩ : ∃ n : Nat, 2 + x = n := ⟨(2 + x).toNat, by omega⟩
  have hn7 : 2 ≤ n ∧ n ≤ 10 := by omega
  rw [hn]
  have hlt1 : g < w1.heap.size := by omega
  have d1 : Dr g w1 (((w1.alloc (.cells #[.int .i64 (-1)] 2)).alloc (.cells #[.bool false] 4)).alloc (.cells #[.int .i64 0] 2)) := (((Dr.refl hd2.src).alloc _).alloc _).alloc _
  have t1 : Tri w1.heap.size (((w1.alloc (.cells #[.int .i64 (-1)] 2)).alloc (.cells #[.bool false] 4)).alloc (.cells #[.int .i64 0] 2)) (.slice (some ⟨w1.heap.size, 0, none⟩) 1 1) (.slice (some ⟨w1.heap.size + 1, 0, none⟩) 1 1) (.slice (some ⟨w1.heap.size + 1 + 1, 0, none⟩) 1 1) [-1] [false] [0] := by
    refine ⟨((OwnP.one (Nat.le_refl _) _).alloc _).alloc _, ?_, ?_, fun k hk e => ?_, fun k hk e => ?_, fun k hk e => ?_⟩
    · have := (OwnP.one (f := Value.bool) (e := 4) (B := w1.heap.size) (w := w1.alloc (.cells #[.int .i64 (-1)] 2)) (by simp) false).alloc (.cells #[.int .i64 0] 2)
      rw [World.size_alloc] at this
      exact this
    · have := OwnP.one (f := Value.int .i64) (e := 2) (B := w1.heap.size) (w := (w1.alloc (.cells #[.int .i64 (-1)] 2)).alloc (.cells #[.bool false] 4)) (by simp; omega) 0
      rw [World.size_alloc, World.size_alloc] at this
      exact this
    · injection hk with hk; injection e with e; simp only at hk e; omega
    · injection hk with hk; injection e with e; simp only at hk e; omega
    · injection hk with hk; injection e with e; simp only at hk e; omega
  generalize ((w1.alloc (.cells #[.int .i64 (-1)] 2)).alloc (.cells #[.bool false] 4)).alloc (.cells #[.int .i64 0] 2) = w4 at *
  have HD2 := Lib.hid hd2
  clear hn hx0 hx1 hd2
  go_loopw [4, 5, 6, 7, 8] (fun s4 s5 s6 s7 _ wr => ∃ (i : Nat) (ps : List Int) (ds : List Bool) (gs : List Int), s7 = .int .i64 i ∧ 1 ≤ i ∧ i ≤ n ∧ ps.length = i ∧ Tri w1.heap.size wr s4 s5 s6 ps ds gs ∧ BldTo ps ds ∧ (∀ y ∈ gs, 0 ≤ y ∧ y < i) ∧ 1 ≤ gs.length ∧ gs.length ≤ i ∧ (i = n → ds.getD (i - 1) false = true) ∧ Dr g w1 wr) (fun _ _ _ s7 _ _ => n - (intOf s7).toNat)
  case atStart => exact ⟨1, [-1], [false], [0], rfl, Nat.le_refl _, by omega, rfl, t1, ⟨rfl, rfl, fun i h1 h2 => by simp at h2; omega⟩, by simp, by simp, by simp, fun h => by omega, d1⟩
  case round =>
    obtain ⟨i, ps, ds, gs, rfl, hi1, hin, hpl, ht, hb, hgs, hg1, hg2, hla, hd⟩ := hrel
    clear t1 d1
    by_cases hlti : i < n
    · obtain ⟨a6, n6, c6, rfl, hn6, -⟩ := OwnP.shape ht.o6
      have hn61 : 1 ≤ n6 := by omega
      have hn62 : n6 ≤ i := by omega
      have Hn6 := Lib.hid hn6
      have HT := Lib.hid ht
      have HBl := Lib.hid hb
      have HGs := Lib.hid hgs
      have Hpl := Lib.hid hpl
      have hcall := l01Next_c _ g hd.src n6 (by unfold I64; omega)
      have HDr := Lib.hid hd
      clear ht hb hgs hpl hn6 hla hd hg1 hg2
      go_wp2_with fail
      refine Calls.mono hcall ?_
      rintro e w5 ⟨_, rfl, ⟨x5, rfl, hx50, hx51⟩, hd5⟩
      clear hcall
      obtain ⟨k, rfl⟩ : ∃ k : Nat, x5 = k := ⟨x5.toNat, by omega⟩
      have hkn : k < n6 := by omega
      have HT5 := Lib.hid (HT.out.dr hd5 hlt1)
      have HD5 := Lib.hid (HDr.out.trans hd5)
      obtain ⟨gq, rfl, hgq1, hgq2, hcq, -⟩ := OwnP.elem HT5.out.o6 0 k hkn
      have hpk := HGs.out (gs.getD k 0) (by
        have hk' : k < gs.length := by rw [← Hn6.out]; exact hkn
        have e : gs.getD k 0 = gs[k] := by simp [hk']
        rw [e]; exact List.getElem_mem hk')
      generalize gs.getD k 0 = p at *
      have hs5 : w1.heap.size ≤ w5.heap.size := HD5.out.size
      have HL4 : Hid (ps.length + 1 ≤ 1099511627776) := by show _ ≤ _; rw [Hpl.out]; omega
      clear hd5 hx50 hx51
      go_upto_region 8 with (at_builtin; (refine wpList_append1X (f := Value.int .i64) (e := 2) (B := w1.heap.size) (xs := ps) rfl _ _ 41 rfl 0 8 Tryz.underlying41 Tryz.infoI64 rfl (fun _ => rfl) rfl HT5.out.o4 p rfl HL4.out (by omega) hs5 ?_); intro v8 w8 hown8 hg8 hb8 hat8; have HT8 := Lib.hid (HT5.out.push4 hown8 hg8 hat8); have HD8 := Lib.hid (HD5.out.own hg8 (fun j hj => (HT5.out.o4.block j hj).1)); clear hown8 hg8 hb8 hat8)
      have hs8 : w1.heap.size ≤ w8.heap.size := HD8.out.size
      have HL5 : Hid (ds.length + 1 ≤ 1099511627776) := by show _ ≤ _; rw [HBl.out.len, Hpl.out]; omega
      have HB8 := Lib.hid (fun (d : Bool) => HBl.out.snoc (d := d) (by rw [Hpl.out]; exact hi1) (p := p) (by rw [Hpl.out]; exact hpk))
      have HG8 : Hid (∀ y ∈ gs, 0 ≤ y ∧ y < ((i + 1 : Nat) : Int)) := fun y hy => by have := HGs.out y hy; omega
      by_cases hl : i = n - 1
      · have hbi : ((i : Int) == (n : Int) - 1) = true := by rw [beq_iff_eq]; omega
        have HLa : Hid ((ds ++ [true]).getD i false = true) := by show _ = _; rw [getD_app, if_neg (by rw [HBl.out.len, Hpl.out]; omega), if_pos (by rw [HBl.out.len, Hpl.out])]
        clear hl
        go_wp2_with (at_builtin; (refine wpList_append1X (f := Value.bool) (e := 4) (B := w1.heap.size) (xs := ds) rfl _ _ 154 rfl false 1 Tryz.underlying154 Tryz.infoBool rfl (fun _ => rfl) rfl HT8.out.o5 true rfl HL5.out (by omega) hs8 ?_); intro v9 w9 hown9 hg9 hb9 hat9; have HT9 := Lib.hid (HT8.out.push5 hown9 hg9 hat9); have HD9 := Lib.hid (HD8.out.own hg9 (fun j hj => (HT8.out.o5.block j hj).1)); clear hown9 hg9 hb9 hat9)
        exact ⟨⟨i + 1, ps ++ [p], ds ++ [true], gs, by go_num, by omega, by omega, by rw [List.length_append, List.length_singleton, Hpl.out], HT9.out, HB8.out true, HG8.out, by rw [← Hn6.out]; exact hn61, by rw [← Hn6.out]; omega, fun _ => HLa.out, HD9.out⟩, by simp [intOf]; omega⟩
      · have hbi : ((i : Int) == (n : Int) - 1) = false := by rw [beq_eq_false_iff_ne]; omega
        have hcall := l01Next_c _ g HD8.out.src 3 (by unfold I64; omega)
        go_wp2_with fail
        refine Calls.mono hcall ?_
        rintro e w10 ⟨_, rfl, ⟨y, rfl, hy0, hy1⟩, hd10⟩
        clear hcall
        replace HT8 := Lib.hid (HT8.out.dr hd10 hlt1)
        replace HD8 := Lib.hid (HD8.out.trans hd10)
        replace hs8 : w1.heap.size ≤ w10.heap.size := HD8.out.size
        clear hd10
        by_cases hy : 0 < y
        · go_wp2_with (at_builtin; (refine wpList_append1X (f := Value.bool) (e := 4) (B := w1.heap.size) (xs := ds) rfl _ _ 154 rfl false 1 Tryz.underlying154 Tryz.infoBool rfl (fun _ => rfl) rfl HT8.out.o5 true rfl HL5.out (by omega) hs8 ?_); intro v9 w9 hown9 hg9 hb9 hat9; have HT9 := Lib.hid (HT8.out.push5 hown9 hg9 hat9); have HD9 := Lib.hid (HD8.out.own hg9 (fun j hj => (HT8.out.o5.block j hj).1)); clear hown9 hg9 hb9 hat9)
          exact ⟨⟨i + 1, ps ++ [p], ds ++ [true], gs, by go_num, by omega, by omega, by rw [List.length_append, List.length_singleton, Hpl.out], HT9.out, HB8.out true, HG8.out, by rw [← Hn6.out]; exact hn61, by rw [← Hn6.out]; omega, fun h => by omega, HD9.out⟩, by simp [intOf]; omega⟩
        · have hyd : decide (0 < y) = false := decide_eq_false hy
          have hyn : ¬ 0 < y := hy
          have HL6 : Hid (gs.length + 1 ≤ 1099511627776) := by show _ ≤ _; rw [← Hn6.out]; omega
          go_wp2_with (first | (at_builtin; (refine wpList_append1X (f := Value.bool) (e := 4) (B := w1.heap.size) (xs := ds) rfl _ _ 154 rfl false 1 Tryz.underlying154 Tryz.infoBool rfl (fun _ => rfl) rfl HT8.out.o5 false rfl HL5.out (by omega) hs8 ?_); intro v9 w9 hown9 hg9 hb9 hat9; have HT9 := Lib.hid (HT8.out.push5 hown9 hg9 hat9); have HD9 := Lib.hid (HD8.out.own hg9 (fun j hj => (HT8.out.o5.block j hj).1)); clear hown9 hg9 hb9 hat9) | (at_builtin; (refine wpList_append1X (f := Value.int .i64) (e := 2) (B := w1.heap.size) (xs := gs) rfl _ _ 41 rfl 0 8 Tryz.underlying41 Tryz.infoI64 rfl (fun _ => rfl) rfl HT9.out.o6 (i : Int) rfl HL6.out (by omega) HD9.out.size ?_); intro v11 w11 hown9 hg9 hb9 hat9; have HT11 := Lib.hid (HT9.out.push6 hown9 hg9 hat9); have HD11 := Lib.hid (HD9.out.own hg9 (fun j hj => (HT9.out.o6.block j hj).1)); clear hown9 hg9 hb9 hat9))
          refine ⟨⟨i + 1, ps ++ [p], ds ++ [false], gs ++ [(i : Int)], by go_num, by omega, by omega, by rw [List.length_append, List.length_singleton, Hpl.out], HT11.out, HB8.out false, fun z hz => ?_, by simp, by rw [List.length_append, List.length_singleton, ← Hn6.out]; omega, fun h => by omega, HD11.out⟩, by simp [intOf]; omega⟩
          rcases List.mem_append.1 hz with hz | hz
          · exact HG8.out z hz
          · rw [List.mem_singleton.1 hz]; omega
    · have hie : i = n := by omega
      obtain ⟨q1, q2, q3, q4⟩ := HB.out wr hd
      obtain ⟨a4, n4, c4, rfl, -⟩ := OwnP.shape ht.o4
      obtain ⟨a5, n5, c5, rfl, -⟩ := OwnP.shape ht.o5
      have HOk : Hid (BldOk ps ds) := ⟨hb, by omega, by omega, by rw [hpl]; exact hla hie⟩
      have HT := Lib.hid ht
      have hd' := HD2.out.trans hd
      have HF : Hid (Dr g w ((wr.setCell ⟨w.heap.size, 0, none⟩ (.slice a4 n4 c4)).setCell ⟨w.heap.size, 1, none⟩ (.slice a5 n5 c5))) := (hd'.put (p := ⟨w.heap.size, 0, none⟩) (Nat.le_refl _) _).put (p := ⟨w.heap.size, 1, none⟩) (Nat.le_refl _) _
      have hsz := hd'.size
      have HR : Hid (IntsR ⟨w.heap.size, ((wr.setCell ⟨w.heap.size, 0, none⟩ (.slice a4 n4 c4)).setCell ⟨w.heap.size, 1, none⟩ (.slice a5 n5 c5)).heap.size, false⟩ ((wr.setCell ⟨w.heap.size, 0, none⟩ (.slice a4 n4 c4)).setCell ⟨w.heap.size, 1, none⟩ (.slice a5 n5 c5)) (.slice a4 n4 c4) ps ∧ BoolsR ⟨w.heap.size, ((wr.setCell ⟨w.heap.size, 0, none⟩ (.slice a4 n4 c4)).setCell ⟨w.heap.size, 1, none⟩ (.slice a5 n5 c5)).heap.size, false⟩ ((wr.setCell ⟨w.heap.size, 0, none⟩ (.slice a4 n4 c4)).setCell ⟨w.heap.size, 1, none⟩ (.slice a5 n5 c5)) (.slice a5 n5 c5) ds) := by
        have hset : ∀ k, k ≠ w.heap.size → ((wr.setCell ⟨w.heap.size, 0, none⟩ (.slice a4 n4 c4)).setCell ⟨w.heap.size, 1, none⟩ (.slice a5 n5 c5)).heap[k]? = wr.heap[k]? := fun k hk => (Below.heap_setCell _ _ _ _ hk).trans (Below.heap_setCell _ _ _ _ hk)
        have hz : ((wr.setCell ⟨w.heap.size, 0, none⟩ (.slice a4 n4 c4)).setCell ⟨w.heap.size, 1, none⟩ (.slice a5 n5 c5)).heap.size = wr.heap.size := by simp [World.setCell]
        have r1 : IntsR ⟨w1.heap.size, wr.heap.size, true⟩ wr (.slice a4 n4 c4) ps := OwnP.ints HT.out.o4 HOk.out.i64 (Nat.le_refl _)
        have r2 : BoolsR ⟨w1.heap.size, wr.heap.size, true⟩ wr (.slice a5 n5 c5) ds := OwnP.reads HT.out.o5 (fun _ _ _ => rfl) (Nat.le_refl _) (Nat.le_refl _)
        rw [hz]
        exact ⟨stable_ints.sub (stable_ints.keep r1 (fun k hk _ => hset k (by have := hk.1; simp only at this; omega))) ⟨fun k hk => ⟨by have := hk.1; simp only at this; show w.heap.size ≤ k; omega, hk.2⟩, fun h => by cases h⟩, stable_bools.sub (stable_bools.keep r2 (fun k hk _ => hset k (by have := hk.1; simp only at this; omega))) ⟨fun k hk => ⟨by have := hk.1; simp only at this; show w.heap.size ≤ k; omega, hk.2⟩, fun h => by cases h⟩⟩
      clear ht hb hgs hla hd hd' hsz
      go_wp2_with fail
      exact bodyPost_ret (v := .agg #[.slice a4 n4 c4, .slice a5 n5 c5]) (by simp [results, Tryz.results199, go_sem, q1, q2]) rfl ⟨_, rfl, ⟨_, _, ps, ds, rfl, HOk.out, HR.out.1, HR.out.2⟩, HF.out⟩

open Go.ChangeShapes Go.WideShapes Go.ChangeAt Go.RowKit
set_option linter.unusedVariables false

theorem intsAt {w : World} {a : Option Addr} {n cap : Nat} {z : Zone} {t : List Int} (h : IntsR z w (.slice a n cap) t) {k : Nat} (hk : k < n) :
    ∃ b off, a = some ⟨b, off, none⟩ ∧ I64 (t.getD k 0) ∧ ∀ w', Ext w w' → w'.cell? ⟨b, off + k, none⟩ = some (.int .i64 (t.getD k 0)) := by
  obtain ⟨a', n', c', he, hn, hmax, -, -, -, hel⟩ := IntsR.shape h
  injection he with e1 e2 e3
  subst e1; subst e2; subst e3
  obtain ⟨b, off, rfl, hc, hi, -⟩ := hel k hk
  exact ⟨b, off, rfl, hi, fun w' e => e.cell hc⟩

theorem rows_at' {w : World} {a : Option Addr} {n cap : Nat} {z : Zone} {t : List (List Int)} (h : RowsR z w (.slice a n cap) t) {k : Nat} (hk : k < n) :
    ∃ b off, a = some ⟨b, off, none⟩ ∧ ∃ a1 n1 c1, (∀ w', Ext w w' → w'.cell? ⟨b, off + k, none⟩ = some (.slice a1 n1 c1)) ∧ ∃ y : Zone, ∀ w', Ext w w' → IntsR y w' (.slice a1 n1 c1) (t.getD k []) := by
  obtain ⟨a', n', c', he, hn, -, -, -, -, hel⟩ := SliceR.shape h
  injection he with e1 e2 e3
  subst e1; subst e2; subst e3
  have hk' : k < t.length := by omega
  obtain ⟨b, off, rfl, -, -, -, u, y, hc, -, -, hE⟩ := hel k hk'
  obtain ⟨a1, n1, c1, rfl, -⟩ := SliceR.shape hE
  have e : t.getD k [] = t[k] := by simp [hk']
  exact ⟨b, off, rfl, a1, n1, c1, fun w' e => e.cell hc, y, fun w' e' => by rw [e]; exact stable_ints.ext hE e'⟩
theorem bools_at {z : Zone} {w : World} {a : Option Addr} {n c : Nat} {ds : List Bool} (h : BoolsR z w (.slice a n c) ds) {k : Nat} (hk : k < n) : ∃ b off, a = some ⟨b, off, none⟩ ∧ ∀ w', Ext w w' → w'.cell? ⟨b, off + k, none⟩ = some (.bool (ds.getD k false)) := by
  obtain ⟨a', n', c', he, hn, -, -, -, -, hel⟩ := SliceR.shape h
  injection he with e1 e2 e3
  subst e1; subst e2; subst e3
  have hk' : k < ds.length := by omega
  obtain ⟨b, off, rfl, -, -, -, u, y, hc, -, -, hE⟩ := hel k hk'
  have e : ds.getD k false = ds[k] := by simp [hk']
  rw [e]
  have hu : u = .bool ds[k] := hE
  subst hu
  exact ⟨b, off, rfl, fun w' e' => e'.cell hc⟩

def UnderR (node other : Int) (r : Value) (_ : World) : Prop := ∃ b, r = .bool b ∧ (other = 0 → 0 ≤ node → b = true)
def DoorsR (w : World) (n : Nat) (r : Value) (w' : World) : Prop := ∃ l : List Int, OwnP (Value.int .i64) 2 w.heap.size w' r l ∧ 1 ≤ l.length ∧ l.length ≤ 10 ∧ ∀ x ∈ l, 0 ≤ x ∧ x < n

set_option maxRecDepth 20000 in
set_option maxHeartbeats 1000000 in
theorem l09Under_c (w : World) (up ud : Value) (z : Zone) (ps : List Int) (ds : List Bool) (hB : BldOk ps ds) (hp : IntsR z w up ps) (node other : Int) (hn : -1 ≤ node ∧ node < ps.length) :
    Calls Tryz.prog 207 #[.agg #[up, ud], .int .i64 node, .int .i64 other] w (Ret w (UnderR node other)) := by
  obtain ⟨a, n, cap, rfl, hnl, -⟩ := SliceR.shape hp
  have HX := Lib.hid (fun (k : Nat) (hk : k < n) => intsAt hp hk)
  have HP : Hid (∀ k : Nat, k < n → -1 ≤ ps.getD k 0 ∧ ps.getD k 0 < k ∧ (1 ≤ k → 0 ≤ ps.getD k 0)) := fun k hk => by
    rcases Nat.eq_zero_or_pos k with q | q
    · subst q; rw [hB.root]; omega
    · have := hB.par k q (by omega); omega
  rw [← hnl] at hn
  have hn10 : n ≤ 10 := by have := hB.hi; omega
  obtain ⟨hn1, hn2⟩ := hn
  clear hnl hp hB
  go_enter Tryz.func207, Tryz.ntmps207
  go_wp2_with fail
  generalize hw0 : World.alloc _ _ = w0
  obtain ⟨e0, c0⟩ : Ext w w0 ∧ w0.cell? ⟨w.heap.size, 0, none⟩ = some (.slice a n cap) := by subst hw0; exact ⟨Ext.alloc _ _, by simp⟩
  clear hw0
  go_loopw [1] (fun s1 wr => ∃ nd : Int, s1 = .int .i64 nd ∧ -1 ≤ nd ∧ nd < n ∧ (other = 0 → 0 ≤ node → 0 ≤ nd) ∧ Drew w0 wr) (fun s1 _ => (intOf s1 + 1).toNat)
  case atStart => exact ⟨node, rfl, hn1, hn2, fun _ h => h, Drew.refl _⟩
  case round =>
    obtain ⟨nd, rfl, h1, h2, hz, hd⟩ := hrel
    have HZ := Lib.hid hz
    clear hz
    have et := e0.trans (Ext.ofDrew hd)
    have c0' := (hd.cell _).trans c0
    by_cases hnd : 0 ≤ nd
    · obtain ⟨k, rfl⟩ : ∃ k : Nat, nd = k := ⟨nd.toNat, by omega⟩
      have hkn : k < n := by omega
      by_cases he : (k : Int) = other
      · have hb : ((k : Int) == other) = true := by simpa using he
        clear he
        go_wp2_with fail
        go_ret
        exact ⟨.bool true, rfl, ⟨true, rfl, fun _ _ => rfl⟩, et⟩
      · have hb : ((k : Int) == other) = false := by simpa using he
        obtain ⟨b, off, rfl, -, hcx⟩ := HX.out k hkn
        replace hcx := hcx wr et
        obtain ⟨p1, p2, p3⟩ := HP.out k hkn
        have HZ' : Hid (other = 0 → 0 ≤ node → 0 ≤ ps.getD k 0) := fun ho hnn => p3 (by omega)
        generalize ps.getD k 0 = p at *
        clear he p3
        go_wp2_with fail
        go_roundw
        case rel => exact ⟨p, rfl, p1, by omega, HZ'.out, hd⟩
        case measure => simp [intOf]; omega
    · have HF : Hid (other = 0 → 0 ≤ node → (false : Bool) = true) := fun ho hnn => absurd (HZ.out ho hnn) hnd
      go_wp2_with fail
      go_ret
      exact ⟨.bool false, rfl, ⟨false, rfl, HF.out⟩, et⟩

set_option maxRecDepth 20000 in
set_option maxHeartbeats 2000000 in
/-- the doors under the root: some, at least one -/
theorem l09Doors_c (w : World) (up ud : Value) (z z2 : Zone) (ps : List Int) (ds : List Bool) (hB : BldOk ps ds) (hp : IntsR z w up ps) (hds : BoolsR z2 w ud ds) :
    Calls Tryz.prog 197 #[.agg #[up, ud], .int .i64 0] w (Ret w (DoorsR w ps.length)) := by
  have hlen := hB.len
  have hlo := hB.lo
  have hhi := hB.hi
  have hla := hB.last
  obtain ⟨a, n, cap, rfl, hnl, -⟩ := SliceR.shape hp
  obtain ⟨a2, n2, cap2, rfl, hnl2, -⟩ := SliceR.shape hds
  have hn2 : n2 = n := by omega
  subst hn2
  have HX := Lib.hid (fun (k : Nat) (hk : k < n2) => bools_at hds hk)
  have HU := Lib.hid (fun (w' : World) (e : Ext w w') (node : Int) (hn : -1 ≤ node ∧ node < ps.length) => l09Under_c w' _ (.slice a2 n2 cap2) z ps ds hB (stable_ints.ext hp e) node 0 hn)
  rw [← hnl] at hlo hhi hla
  have Hla : Hid (∀ i, i + 1 = n2 → ds.getD i false = true) := fun i hi => by rw [show i = n2 - 1 by omega]; exact hla
  have Hnl := Lib.hid hnl
  clear hp hds hB hnl hnl2 hla hlen
  go_enter Tryz.func197, Tryz.ntmps197
  go_wp2_with fail
  generalize hw0 : World.alloc (World.alloc _ _) _ = w0
  obtain ⟨e0, c0, c1, o0⟩ : Ext w w0 ∧ w0.cell? ⟨w.heap.size, 0, none⟩ = some (.slice a n2 cap) ∧ w0.cell? ⟨w.heap.size, 1, none⟩ = some (.slice a2 n2 cap2) ∧ OwnP (Value.int .i64) 2 (w.heap.size + 1) w0 (.slice (some ⟨w.heap.size + 1, 0, none⟩) 0 0) [] := by
    subst hw0
    refine ⟨(Ext.alloc _ _).trans (Ext.alloc _ _), by simp, by simp, ?_⟩
    have := OwnP.empty (f := Value.int .i64) (e := 2) (B := w.heap.size + 1) (w := w.alloc (.cells #[.slice a n2 cap, .slice a2 n2 cap2] 156)) (by simp)
    rw [World.size_alloc] at this
    exact this
  have z0 : w.heap.size + 1 ≤ w0.heap.size := World.block_lt_of_cell? _ _ c0
  clear hw0
  go_loopw [5, 6] (fun s5 s6 wr => ∃ (i : Nat) (l : List Int), s6 = .int .i64 i ∧ i ≤ n2 ∧ l.length ≤ i ∧ (i = n2 → 1 ≤ l.length) ∧ OwnP (Value.int .i64) 2 (w.heap.size + 1) wr s5 l ∧ (∀ x ∈ l, 0 ≤ x ∧ x < n2) ∧ Below (w.heap.size + 1) w0 wr) (fun _ s6 _ => n2 - (intOf s6).toNat)
  case atStart => exact ⟨0, [], rfl, Nat.zero_le _, by simp, fun h => by omega, o0, by simp, Below.refl _ _⟩
  case round =>
    obtain ⟨i, l, rfl, hi, hli, hl1, ho, hlx, hb⟩ := hrel
    have etw : Ext w wr := Below.trans e0 (hb.mono (Nat.le_succ _))
    have c0' := hb.cell (p := ⟨w.heap.size, 0, none⟩) (Nat.lt_succ_self _) |>.trans c0
    have c1' := hb.cell (p := ⟨w.heap.size, 1, none⟩) (Nat.lt_succ_self _) |>.trans c1
    obtain ⟨a5, n5, c5, rfl, -⟩ := OwnP.shape ho
    have HO := Lib.hid ho
    have HL := Lib.hid hlx
    have HL1 := Lib.hid hl1
    have hzr := hb.size
    have hzw : w.heap.size + 1 ≤ wr.heap.size := by omega
    clear ho hlx hl1 o0
    by_cases hlt : i < n2
    · obtain ⟨b, off, rfl, hcx⟩ := HX.out i hlt
      replace hcx := hcx wr etw
      have HLi : Hid (i + 1 = n2 → ds.getD i false = true) := fun h => Hla.out i h
      cases hdi : ds.getD i false with
      | false =>
        rw [hdi] at hcx
        have HN : Hid (i + 1 = n2 → 1 ≤ l.length) := fun h => by have := HLi.out h; rw [hdi] at this; cases this
        clear hdi
        go_wp2_with fail
        go_roundw
        case rel => exact ⟨i + 1, l, by go_num, by omega, by omega, HN.out, HO.out, HL.out, hb⟩
        case measure => simp [intOf]; omega
      | true =>
        rw [hdi] at hcx
        clear hdi
        have hcall := HU.out wr etw i (by rw [← Hnl.out]; omega)
        go_wp2_with fail
        refine Calls.mono hcall ?_
        rintro e w2 hr
        obtain ⟨r, rfl, ⟨q, rfl, hq⟩, e2⟩ := ret_ext hr
        obtain rfl := hq (by trivial) (by omega)
        clear hr hcall hq
        have ho2 := HO.out.ext e2
        have HO2 := Lib.hid ho2
        have hz2 : w.heap.size + 1 ≤ w2.heap.size := by have := e2.size; omega
        have HLl : Hid (l.length + 1 ≤ 1099511627776) := by show _ ≤ _; omega
        have HBe := Lib.hid (hb.trans (Below.mono e2 hzw))
        go_wp2_with (at_builtin; (refine wpList_append1X (f := Value.int .i64) (e := 2) (B := w.heap.size + 1) (xs := l) rfl _ _ 41 rfl 0 8 Tryz.underlying41 Tryz.infoI64 rfl (fun _ => rfl) rfl HO2.out (i : Int) rfl HLl.out (by omega) hz2 ?_); intro v8 w8 hown8 hg8 hb8 hat8; have HO8 := Lib.hid hown8; have HB8 := Lib.hid (HBe.out.trans hb8); clear hown8 hg8 hb8 hat8)
        go_roundw
        case rel => exact ⟨i + 1, l ++ [(i : Int)], by go_num, by omega, by rw [List.length_append, List.length_singleton]; omega, fun _ => by simp, HO8.out, fun x hx => by
          rcases List.mem_append.1 hx with hx | hx
          · exact HL.out x hx
          · rw [List.mem_singleton.1 hx]; omega, HB8.out⟩
        case measure => simp [intOf]; omega
    · have hie : i = n2 := by omega
      have H1 := HL1.out hie
      have HR : Hid (OwnP (Value.int .i64) 2 w.heap.size wr (.slice a5 n5 c5) l) := HO.out.lower (Nat.le_succ _)
      have HX2 : Hid (∀ x ∈ l, 0 ≤ x ∧ x < ps.length) := fun x hx => by have := HL.out x hx; rw [← Hnl.out]; exact this
      clear hie
      go_wp2_with fail
      go_ret
      exact ⟨_, rfl, ⟨l, HR.out, H1, by omega, HX2.out⟩, etw⟩

def SomeBool (r : Value) (_ : World) : Prop := ∃ b, r = .bool b
set_option maxRecDepth 20000 in
set_option maxHeartbeats 2000000 in
theorem l10May_c (w : World) (up ud : Value) (z zn z2 : Zone) (ps : List Int) (ds : List Bool) (hB : BldOk ps ds) (hp : IntsR z w up ps) (hds : BoolsR z2 w ud ds) (un : Value) (ns : List Int) (hns : IntsR zn w un ns) (door : Int) (hdo : -1 ≤ door ∧ door < ps.length) :
    Calls Tryz.prog 198 #[.agg #[up, ud], un, .int .i64 door] w (Ret w SomeBool) := by
  have HU := Lib.hid (fun (w' : World) (e : Ext w w') (other : Int) => l09Under_c w' up ud z ps ds hB (stable_ints.ext hp e) door other hdo)
  obtain ⟨a1, n1, c1, rfl, -⟩ := SliceR.shape hp
  obtain ⟨a2, n2, c2, rfl, -⟩ := SliceR.shape hds
  obtain ⟨a, n, cap, rfl, hnl, hmax, -⟩ := SliceR.shape hns
  have HX := Lib.hid (fun (k : Nat) (hk : k < n) => intsAt hns hk)
  clear hp hds hns hB hnl
  go_enter Tryz.func198, Tryz.ntmps198
  go_wp2_with fail
  generalize hw0 : World.alloc _ _ = w0
  obtain ⟨e0, HC⟩ : Ext w w0 ∧ Hid (∀ w', Ext w0 w' → w'.cell? ⟨w.heap.size, 0, none⟩ = some (.slice a1 n1 c1) ∧ w'.cell? ⟨w.heap.size, 1, none⟩ = some (.slice a2 n2 c2)) := by
    subst hw0
    exact ⟨Ext.alloc _ _, fun w' e => ⟨e.cell (by simp), e.cell (by simp)⟩⟩
  clear hw0
  go_loopw [7] (fun s7 wr => ∃ k : Nat, k ≤ n ∧ s7 = .int .i64 k ∧ Ext w0 wr) (fun s7 _ => n - (intOf s7).toNat)
  case atStart => exact ⟨0, Nat.zero_le _, rfl, Ext.refl _⟩
  case round =>
    obtain ⟨k, hk, rfl, ew⟩ := hrel
    have et := e0.trans ew
    by_cases hlt : k < n
    · obtain ⟨b, off, rfl, -, hcx⟩ := HX.out k hlt
      have HCel : Hid (∀ w', Ext wr w' → w'.cell? ⟨w.heap.size, 0, none⟩ = some (.slice a1 n1 c1) ∧ w'.cell? ⟨w.heap.size, 1, none⟩ = some (.slice a2 n2 c2) ∧ w'.cell? ⟨b, off + k, none⟩ = some (.int .i64 (ns.getD k 0))) := fun w' e => ⟨(HC.out w' (ew.trans e)).1, (HC.out w' (ew.trans e)).2, hcx w' (et.trans e)⟩
      generalize ns.getD k 0 = p at *
      have hk0 : (0 : Int) ≤ (k : Int) := by omega
      have hkn : (k : Int) < (n : Int) := by omega
      clear hcx
      go_wp2_with fail
      first | (go_region_held3 (fun w' => w'.cell? ⟨w.heap.size, 0, none⟩ = some (.slice a1 n1 c1) ∧ w'.cell? ⟨w.heap.size, 1, none⟩ = some (.slice a2 n2 c2) ∧ w'.cell? ⟨b, off + k, none⟩ = some (.int .i64 p)) (exact HCel.out _ (by repeat (first | exact Ext.refl _ | assumption | (refine Ext.trans ?_ (Ext.alloc _ _)) | (refine Ext.trans ?_ (Ext.drew _)) | (refine Ext.trans ?_ (by assumption))))) (first | (go_at_call 207; (with_reducible refine (HU.out _ (by repeat (first | exact Ext.refl _ | assumption | (refine Ext.trans ?_ (Ext.alloc _ _)) | (refine Ext.trans ?_ (Ext.drew _)) | (refine Ext.trans ?_ (by assumption)))) p).mono ?_); rintro e w7 hr7; obtain ⟨r7, rfl, ⟨q, rfl, -⟩, e7⟩ := ret_ext hr7; clear hr7) | fail)) | fail
      have e77 : Ext wr w7 := (by repeat (first | exact Ext.refl _ | assumption | (refine Ext.trans ?_ (Ext.alloc _ _)) | (refine Ext.trans ?_ (Ext.drew _)) | (refine Ext.trans ?_ (by assumption))))
      cases q with
      | true =>
        go_wp2_with fail
        go_ret
        exact ⟨.bool true, rfl, ⟨true, rfl⟩, et.trans e77⟩
      | false =>
        go_wp2_with fail
        go_roundw
        case rel => exact ⟨k + 1, by omega, by go_num, ew.trans e77⟩
        case measure => simp [intOf]; omega
    · go_wp2_with fail
      go_ret
      exact ⟨.bool false, rfl, ⟨false, rfl⟩, et⟩

def NodesR (w : World) (r : Value) (w' : World) : Prop := ∃ l : List Int, OwnP (Value.int .i64) 2 w.heap.size w' r l ∧ (∀ x ∈ l, I64 x) ∧ l.length ≤ 10
set_option maxRecDepth 20000 in
set_option maxHeartbeats 2000000 in
theorem l10DrawNodes_c (w : World) (g : Nat) (h : Src g w) (up ud : Value) (z z2 : Zone) (ps : List Int) (ds : List Bool) (hB : BldOk ps ds) (hp : IntsR z w up ps) (hds : BoolsR z2 w ud ds) :
    Calls Tryz.prog 200 #[.pointer (some ⟨g, 0, none⟩), .agg #[up, ud]] w (DrawR g w (NodesR w)) := by
  have hlt := h.lt
  have hlo := hB.lo
  have hhi := hB.hi
  obtain ⟨a, n, cap, rfl, hnl, -⟩ := SliceR.shape hp
  obtain ⟨a2, n2, cap2, rfl, -⟩ := SliceR.shape hds
  rw [← hnl] at hlo hhi
  have hr0 := (Dr.refl h).alloc (.cells #[.slice a n cap, .slice a2 n2 cap2] 156)
  have hbx := Box2.new w (.slice a n cap) (.slice a2 n2 cap2) 156
  have hs0 : (w.alloc (.cells #[.slice a n cap, .slice a2 n2 cap2] 156)).heap.size = w.heap.size + 1 := by simp
  clear hp hds hB hnl h
  go_enter Tryz.func200, Tryz.ntmps200
  go_wp2_with fail
  have o1 : OwnP (Value.int .i64) 2 (w.heap.size + 1) ((w.alloc (.cells #[.slice a n cap, .slice a2 n2 cap2] 156)).alloc (.cells #[] 2)) (.slice (some ⟨w.heap.size + 1, 0, none⟩) 0 0) [] := by
    have := OwnP.empty (f := Value.int .i64) (e := 2) (B := w.heap.size + 1) (w := w.alloc (.cells #[.slice a n cap, .slice a2 n2 cap2] 156)) (by simp)
    rw [hs0] at this
    exact this
  generalize hw0 : w.alloc (.cells #[.slice a n cap, .slice a2 n2 cap2] 156) = w0 at *
  have di : Dr g w0 (w0.alloc (.cells #[] 2)) := (Dr.refl hr0.src).alloc _
  have HB : Hid (∀ w', Dr g w0 w' → w'.cell? ⟨w.heap.size, 0, none⟩ = some (.slice a n cap)) := fun w' hd => (hbx.dr hd (by omega)).1
  clear hw0 hbx
  generalize hwi : w0.alloc (.cells #[] 2) = wi at *
  clear hwi
  have hgr : g < w.heap.size + 1 := by omega
  go_loopw [5, 6] (fun s5 s6 wx => ∃ (m : Nat) (l : List Int), s6 = .int .i64 m ∧ m ≤ n ∧ l.length ≤ m ∧ OwnP (Value.int .i64) 2 (w.heap.size + 1) wx s5 l ∧ (∀ y ∈ l, I64 y) ∧ Dr g w0 wx) (fun _ s6 _ => n - (intOf s6).toNat)
  case atStart => exact ⟨0, [], rfl, Nat.zero_le _, by simp, o1, by simp, di⟩
  case round =>
    obtain ⟨m, l, rfl, hm, hlm, ho, hy, hd⟩ := hrel
    clear o1 di
    have hc := HB.out wr hd
    have hsx : w.heap.size + 1 ≤ wr.heap.size := by have := hd.size; omega
    by_cases hmn : m < n
    · have hcall := l01Next_c _ g hd.src 4 (by unfold I64; omega)
      go_wp2_with fail
      refine Calls.mono hcall ?_
      rintro e w4 ⟨_, rfl, ⟨x4, rfl, -, -⟩, hd4⟩
      clear hcall
      replace ho := ho.dr hd4 hgr
      have hd5 := hd.trans hd4
      have hs4 := hd4.size
      have Hy := Lib.hid hy
      clear hd4 hd hy hc
      by_cases hx4 : x4 = 0
      · subst hx4
        go_wp2_with (at_builtin; (refine wpList_drawInt (g := g) (w0 := w0) (B := w.heap.size + 1) rfl _ _ 41 rfl Tryz.underlying41 Tryz.infoI64 rfl ho (m : Int) rfl (by omega) hd5 (by omega) (by omega) ?_); intro v6 w6 hown6 hd6 hs6)
        go_wp2_with fail
        exact ⟨⟨m + 1, l ++ [(m : Int)], by go_num, by omega, by simp; omega, hown6, ints_snoc Hy.out (by unfold I64; omega), hd6⟩, by simp [intOf]; omega⟩
      · have hb : (x4 == 0) = false := by simpa using hx4
        go_wp2_with fail
        exact ⟨⟨m + 1, l, by go_num, by omega, by omega, ho, Hy.out, hd5⟩, by simp [intOf]; omega⟩
    · have ho' := ho
      obtain ⟨a7, n7, c7, rfl, hn7', -⟩ := OwnP.shape ho'
      have Hn7 := Lib.hid hn7'
      have Hy := Lib.hid hy
      have hl10 : l.length ≤ 10 := by omega
      clear ho' hn7' hy
      by_cases h7 : n7 = 0
      · subst h7
        have hcall := l01Next_c _ g hd.src n (by unfold I64; omega)
        go_wp2_with fail
        refine Calls.mono hcall ?_
        rintro e w4 ⟨_, rfl, ⟨x4, rfl, hx1, hx2⟩, hd4⟩
        clear hcall
        replace ho := ho.dr hd4 hgr
        have hd5 := hd.trans hd4
        have hs4 := hd4.size
        clear hd4 hd hc
        have HI4 : I64 x4 := by unfold I64; omega
        have Hl1 : Hid (l.length + 1 ≤ 10) := by show _ ≤ _; have := Hn7.out; omega
        go_wp2_with (at_builtin; (refine wpList_drawInt (g := g) (w0 := w0) (B := w.heap.size + 1) rfl _ _ 41 rfl Tryz.underlying41 Tryz.infoI64 rfl ho x4 rfl (by omega) hd5 (by omega) (by omega) ?_); intro v6 w6 hown6 hd6 hs6)
        go_wp2_with fail
        go_ret
        exact ⟨_, rfl, ⟨_, hown6.lower (Nat.le_succ _), ints_snoc Hy.out HI4, by rw [List.length_append, List.length_singleton]; exact Hl1.out⟩, hr0.trans hd6⟩
      · have hb : ((n7 : Int) == 0) = false := by simpa using h7
        go_wp2_with fail
        go_ret
        exact ⟨_, rfl, ⟨_, ho.lower (Nat.le_succ _), Hy.out, hl10⟩, hr0.trans hd⟩

/-- three cells of a block of its own -/
def Box3 (b : Nat) (x y z : Value) (w : World) : Prop := w.cell? ⟨b, 0, none⟩ = some x ∧ w.cell? ⟨b, 1, none⟩ = some y ∧ w.cell? ⟨b, 2, none⟩ = some z ∧ w.frozen? ⟨b, 0, none⟩ = false ∧ w.frozen? ⟨b, 1, none⟩ = false ∧ w.frozen? ⟨b, 2, none⟩ = false
theorem Box3.new (w : World) (x y z : Value) (t : TypeId) : Box3 w.heap.size x y z (w.alloc (.cells #[x, y, z] t)) :=
  ⟨by simp, by simp, by simp, frozen_of_row _ _ _ _ t (heap_alloc_new w _), frozen_of_row _ _ _ _ t (heap_alloc_new w _), frozen_of_row _ _ _ _ t (heap_alloc_new w _)⟩
theorem Box3.dr {b g : Nat} {x y z : Value} {w w' : World} (h : Box3 b x y z w) (hd : Dr g w w') (hb : b ≠ g) : Box3 b x y z w' := by
  have hlt : b < w.heap.size := World.block_lt_of_cell? w _ h.1
  exact ⟨hd.cell h.1 hb, hd.cell h.2.1 hb, hd.cell h.2.2.1 hb, (hd.frozen hlt hb).trans h.2.2.2.1, (hd.frozen hlt hb).trans h.2.2.2.2.1, (hd.frozen hlt hb).trans h.2.2.2.2.2⟩
def set3 (w : World) (b : Nat) (x y z : Value) : World := ((w.setCell ⟨b, 0, none⟩ x).setCell ⟨b, 1, none⟩ y).setCell ⟨b, 2, none⟩ z
theorem set3_far (w : World) (b : Nat) (x y z : Value) {k : Nat} (hk : k ≠ b) : (set3 w b x y z).heap[k]? = w.heap[k]? := (Below.heap_setCell _ _ _ _ hk).trans ((Below.heap_setCell _ _ _ _ hk).trans (Below.heap_setCell _ _ _ _ hk))
theorem set3_size (w : World) (b : Nat) (x y z : Value) : (set3 w b x y z).heap.size = w.heap.size := by simp [set3, World.setCell]
theorem set3_keep {α : Type} {E : Repr α} (hE : Stable E) {w : World} {b lo hi lo' : Nat} {q : Bool} {v x y z : Value} {xs : α} (h : E ⟨lo, hi, q⟩ w v xs) (hb : b < lo) (hlo : lo' ≤ lo) (hhi : hi ≤ w.heap.size) : E ⟨lo', (set3 w b x y z).heap.size, false⟩ (set3 w b x y z) v xs :=
  hE.sub (hE.keep h (fun k hk _ => set3_far w b x y z (by have := hk.1; simp only at this; omega))) ⟨fun k hk => ⟨Nat.le_trans hlo hk.1, by rw [set3_size]; exact Nat.lt_of_lt_of_le hk.2 hhi⟩, fun h => by cases h⟩
theorem Dr.set3 {g : Nat} {a w : World} (h : Dr g a w) {b : Nat} (hb : a.heap.size ≤ b) (x y z : Value) : Dr g a (set3 w b x y z) := ((h.put (p := ⟨b, 0, none⟩) hb _).put (p := ⟨b, 1, none⟩) hb _).put (p := ⟨b, 2, none⟩) hb _

def Valid10 (w : World) (r : Value) (w' : World) : Prop := ∃ (up ud ur : Value) (ps : List Int) (ds : List Bool) (rs : List (List Int)), r = .agg #[up, ud, ur] ∧ BldOk ps ds ∧ IntsR ⟨w.heap.size, w'.heap.size, false⟩ w' up ps ∧ BoolsR ⟨w.heap.size, w'.heap.size, false⟩ w' ud ds ∧ RowsR ⟨w.heap.size, w'.heap.size, false⟩ w' ur rs ∧ 1 ≤ rs.length ∧ rs.length ≤ 4
set_option maxRecDepth 20000 in
set_option maxHeartbeats 2000000 in
theorem l10Valid_c (w : World) (g : Nat) (h : Src g w) : Calls Tryz.prog 181 #[.pointer (some ⟨g, 0, none⟩)] w (DrawR g w (Valid10 w)) := by
  have hlt := h.lt
  have hd0 := (Dr.refl h).alloc (.cells #[.slice none 0 0, .slice none 0 0, .slice none 0 0] 158)
  have hbx := Box3.new w (.slice none 0 0) (.slice none 0 0) (.slice none 0 0) 158
  have hcall := l09Valid_c _ g hd0.src
  have hsz0 : (w.alloc (.cells #[.slice none 0 0, .slice none 0 0, .slice none 0 0] 158)).heap.size = w.heap.size + 1 := by simp
  clear h
  go_enter Tryz.func181, Tryz.ntmps181
  go_wp2_with fail
  generalize w.alloc (.cells #[.slice none 0 0, .slice none 0 0, .slice none 0 0] 158) = w0 at *
  refine Calls.mono hcall ?_
  rintro e w1 ⟨_, rfl, ⟨up, ud, ps, ds, rfl, hB, hp, hds⟩, hd1⟩
  clear hcall
  obtain ⟨a1, n1, c1, rfl, -⟩ := SliceR.shape hp
  obtain ⟨a2, n2, c2, rfl, -⟩ := SliceR.shape hds
  have hd2 := hd0.trans hd1
  have hs1 : w.heap.size + 1 ≤ w1.heap.size := by have := hd1.size; omega
  have hlt1 : g < w1.heap.size := by omega
  have hbx1 := hbx.dr hd1 (by omega)
  have hn0 := Box2.new w1 (.slice a1 n1 c1) (.slice a2 n2 c2) 156
  have r1 : Dr g w1 (w1.alloc (.cells #[.slice a1 n1 c1, .slice a2 n2 c2] 156)) := (Dr.refl hd2.src).alloc _
  have s2 : (w1.alloc (.cells #[.slice a1 n1 c1, .slice a2 n2 c2] 156)).heap.size = w1.heap.size + 1 := by simp
  have HB : Hid (∀ w', Dr g w1 w' → Box3 w.heap.size (.slice none 0 0) (.slice none 0 0) (.slice none 0 0) w') := fun w' hd => hbx1.dr hd (by omega)
  have HBo := Lib.hid hB
  have HP : Hid (∀ w', Dr g w1 w' → IntsR ⟨w0.heap.size, w1.heap.size, false⟩ w' (.slice a1 n1 c1) ps ∧ BoolsR ⟨w0.heap.size, w1.heap.size, false⟩ w' (.slice a2 n2 c2) ds) := fun w' hd => ⟨stable_ints.dr hp hd (.inl (by show g < w0.heap.size; omega)), stable_bools.dr hds hd (.inl (by show g < w0.heap.size; omega))⟩
  clear hp hds hB hbx hbx1
  go_wp2_with fail
  have o1 : OwnR false (w1.heap.size + 1) IntsR 41 (w1.heap.size + 1) ((w1.alloc (.cells #[.slice a1 n1 c1, .slice a2 n2 c2] 156)).alloc (.cells #[] 41)) (.slice (some ⟨w1.heap.size + 1, 0, none⟩) 0 0) [] := by
    have := OwnR.empty (b := false) (L := w1.heap.size + 1) (E := IntsR) (e := 41) (B := w1.heap.size + 1) (w := w1.alloc (.cells #[.slice a1 n1 c1, .slice a2 n2 c2] 156)) (by simp)
    rw [s2] at this
    exact this
  have d3 := r1.alloc (.cells #[] 41)
  have HN : Hid (∀ w', Dr g (w1.alloc (.cells #[.slice a1 n1 c1, .slice a2 n2 c2] 156)) w' → w'.cell? ⟨w1.heap.size, 0, none⟩ = some (.slice a1 n1 c1) ∧ w'.cell? ⟨w1.heap.size, 1, none⟩ = some (.slice a2 n2 c2)) := fun w' hd => ⟨(hn0.dr hd (by omega)).1, (hn0.dr hd (by omega)).2.1⟩
  have r2 : Dr g (w1.alloc (.cells #[.slice a1 n1 c1, .slice a2 n2 c2] 156)) ((w1.alloc (.cells #[.slice a1 n1 c1, .slice a2 n2 c2] 156)).alloc (.cells #[] 41)) := (Dr.refl r1.src).alloc _
  have hcall := l01Next_c _ g d3.src 4 (by unfold I64; omega)
  have HR1 := Lib.hid r1
  clear hn0 r1
  generalize w1.alloc (.cells #[.slice a1 n1 c1, .slice a2 n2 c2] 156) = w2 at *
  generalize w2.alloc (.cells #[] 41) = w3 at *
  refine Calls.mono hcall ?_
  rintro e w4 ⟨_, rfl, ⟨k0, rfl, hk0, hk1⟩, hd4⟩
  clear hcall
  obtain ⟨k, hk⟩ : ∃ k : Nat, 1 + k0 = k := ⟨(1 + k0).toNat, by omega⟩
  have hk8 : 1 ≤ k ∧ k ≤ 4 := by omega
  have hlt2 : g < w1.heap.size + 1 := by omega
  replace o1 := OwnR.dr stable_ints o1 hd4 hlt2 hlt2
  have d4 := r2.trans hd4
  have HD2 := Lib.hid hd2
  clear hk0 hk1 hd4 hd2 hd1 hd0 d3 r2
  go_wp2_with fail
  try rw [hk]
  clear hk
  go_loopw [4, 5] (fun s4 s5 wr => ∃ (j : Nat) (rs : List (List Int)), s5 = .int .i64 j ∧ rs.length + j = k ∧ OwnR false (w1.heap.size + 1) IntsR 41 (w1.heap.size + 1) wr s4 rs ∧ Dr g w2 wr) (fun _ s5 _ => (intOf s5).toNat)
  case atStart => exact ⟨k, [], rfl, by simp, o1, d4⟩
  case round =>
    obtain ⟨j, rs, rfl, hjk, hown, hd⟩ := hrel
    clear o1 d4
    have hd1 := HR1.out.trans hd
    by_cases hj : 0 < j
    · obtain ⟨q1, q2⟩ := HN.out wr hd
      have hcall := l10DrawNodes_c wr g hd.src _ _ _ _ ps ds HBo.out (HP.out wr hd1).1 (HP.out wr hd1).2
      go_wp2_with fail
      refine Calls.mono hcall ?_
      rintro e w5 ⟨_, rfl, ⟨l, ol, hli, hl10⟩, hd5⟩
      clear hcall q1 q2
      have hown5 := OwnR.dr stable_ints hown hd5 hlt2 hlt2
      have hd6 := hd.trans hd5
      have hi5 : IntsR ⟨wr.heap.size, w5.heap.size, true⟩ w5 _ l := ints_new ol hli
      obtain ⟨a7, n7, c7, rfl, -⟩ := OwnP.shape ol
      have HV : Hid (∀ k, u4.ownBlock = some k → k < wr.heap.size) := fun k hk => (OwnA.block hown k hk).2
      have hwr : w1.heap.size + 1 ≤ wr.heap.size := by have := hd.size; omega
      have hw5 := hd5.size
      have hrl : rs.length ≤ 1000000 := by omega
      clear hown hd hd5 ol hli hd1
      go_wp2_with (at_builtin; (refine wpList_drawRow (v := u4) (g := g) (w0 := w2) (B := w1.heap.size + 1) stable_ints slRepr_slice rfl _ _ 30 rfl Tryz.underlying30 Tryz.infoInts rfl hown5 (a7, n7, c7) _ hi5 rfl rfl hrl hwr hw5 HV.out hd6 (by omega) ?_); intro v8 w8 hown8 hd8 hs8)
      go_wp2_with fail
      exact ⟨⟨j - 1, _, by go_num, by simp; omega, hown8, hd8⟩, by simp [intOf]; omega⟩
    · obtain rfl : j = 0 := by omega
      obtain ⟨q1, q2⟩ := HN.out wr hd
      obtain ⟨p1, p2, p3, p4, p5, p6⟩ := HB.out wr hd1
      have hrr := OwnR.reads hown (Nat.le_refl _)
      obtain ⟨a4, n4, c4, rfl, -⟩ := OwnA.shape hown
      have HPr := Lib.hid (HP.out wr hd1)
      have HRr := Lib.hid hrr
      have hd' := HD2.out.trans hd1
      have HD' := Lib.hid hd'
      have hz1 := hd1.size
      clear hown hd hd1 hrr hd'
      go_wp2_with fail
      refine bodyPost_ret (v := .agg #[.slice a1 n1 c1, .slice a2 n2 c2, .slice a4 n4 c4]) (by simp [results, Tryz.results181, go_sem, p1, p2, p3]) rfl ⟨_, rfl, ⟨_, _, _, ps, ds, rs, rfl, HBo.out, ?_, ?_, ?_, by omega, by omega⟩, ?_⟩
      · exact set3_keep stable_ints HPr.out.1 (by omega) (by omega) hz1
      · exact set3_keep stable_bools HPr.out.2 (by omega) (by omega) hz1
      · exact set3_keep stable_rows HRr.out (by omega) (by omega) (Nat.le_refl _)
      · exact HD'.out.set3 (Nat.le_refl _) _ _ _

/-- what the access table of a plan is: rows of the call's own, none empty -/
def TabR (w : World) (r : Value) (w' : World) : Prop := ∃ t : List (List Int), OwnR true w.heap.size IntsR 41 w.heap.size w' r t ∧ 1 ≤ t.length ∧ t.length ≤ 5 ∧ ∀ x ∈ t, 1 ≤ x.length ∧ x.length ≤ 10
set_option maxRecDepth 20000 in
set_option maxHeartbeats 4000000 in
theorem l10Access_c (w : World) (up ud ur : Value) (z z2 z3 : Zone) (ps : List Int) (ds : List Bool) (hB : BldOk ps ds) (hp : IntsR z w up ps) (hds : BoolsR z2 w ud ds) (rs : List (List Int)) (hrs : RowsR z3 w ur rs) (h1 : 1 ≤ rs.length) (h4 : rs.length ≤ 4) :
    Calls Tryz.prog 180 #[.agg #[up, ud, ur]] w (Ret w (TabR w)) := by
  have HD := Lib.hid (fun (w' : World) (e : Ext w w') => l09Doors_c w' up ud z z2 ps ds hB (stable_ints.ext hp e) (stable_bools.ext hds e))
  have HM := Lib.hid (fun (w' : World) (e : Ext w w') (un : Value) (zn : Zone) (ns : List Int) (g : IntsR zn w' un ns) (door : Int) (hdo : -1 ≤ door ∧ door < ps.length) => l10May_c w' up ud z zn z2 ps ds hB (stable_ints.ext hp e) (stable_bools.ext hds e) un ns g door hdo)
  obtain ⟨a1, n1, c1, rfl, -⟩ := SliceR.shape hp
  obtain ⟨a2, n2, c2, rfl, -⟩ := SliceR.shape hds
  obtain ⟨a3, n3, c3, rfl, hn3, -⟩ := SliceR.shape hrs
  have HT := Lib.hid (fun (k : Nat) (hk : k < n3) => rows_at' hrs hk)
  rw [← hn3] at h1 h4
  clear hp hds hrs hB hn3
  go_enter Tryz.func180, Tryz.ntmps180
  go_wp2_with fail
  generalize hw0 : World.alloc _ _ = w0
  obtain ⟨e0, HC⟩ : Ext w w0 ∧ Hid (∀ w', Ext w0 w' → w'.cell? ⟨w.heap.size, 0, none⟩ = some (.slice a1 n1 c1) ∧ w'.cell? ⟨w.heap.size, 1, none⟩ = some (.slice a2 n2 c2) ∧ w'.cell? ⟨w.heap.size, 2, none⟩ = some (.slice a3 n3 c3)) := by
    subst hw0
    exact ⟨Ext.alloc _ _, fun w' e => ⟨e.cell (by simp), e.cell (by simp), e.cell (by simp)⟩⟩
  clear hw0
  refine Calls.mono (HD.out w0 e0) ?_
  rintro e w1 hr
  obtain ⟨r, rfl, ⟨dl, hdl, hd1, hd2, hdx⟩, e1⟩ := ret_ext hr
  clear hr
  have et1 := e0.trans e1
  obtain ⟨ad, nd, cd, rfl, hnd, -⟩ := OwnP.shape hdl
  rw [← hnd] at hd1 hd2
  have HDl := Lib.hid (fun (k : Nat) (hk : k < nd) => OwnP.elem hdl 0 k hk)
  have HDx : Hid (∀ k, k < nd → 0 ≤ dl.getD k 0 ∧ dl.getD k 0 < ps.length) := fun k hk => hdx _ (by
    have hk' : k < dl.length := by omega
    have e : dl.getD k 0 = dl[k] := by simp [hk']
    rw [e]; exact List.getElem_mem hk')
  clear hdl hnd hdx
  obtain ⟨q1, q2, q3⟩ := HC.out w1 e1
  go_wp2_with fail
  have o1 : OwnR true w1.heap.size IntsR 41 w1.heap.size (w1.alloc (.cells #[] 41)) (.slice (some ⟨w1.heap.size, 0, none⟩) 0 0) [] := OwnR.empty (Nat.le_refl _)
  have e2 : Ext w1 (w1.alloc (.cells #[] 41)) := Ext.alloc _ _
  generalize w1.alloc (.cells #[] 41) = w2 at *
  clear q1 q2 q3
  go_loopw [4, 5, 6, 7] (fun s4 s5 _ _ wr => ∃ (k : Nat) (t : List (List Int)), s5 = .int .i64 k ∧ k ≤ n3 ∧ t.length = k ∧ OwnR true w1.heap.size IntsR 41 w1.heap.size wr s4 t ∧ (∀ x ∈ t, x.length = nd) ∧ Ext w1 wr) (fun _ s5 _ _ _ => n3 - (intOf s5).toNat)
  case atStart => exact ⟨0, [], rfl, Nat.zero_le _, rfl, o1, by simp, e2⟩
  case round =>
    obtain ⟨k, t, rfl, hk, htl, hown, htn, ew⟩ := hrel
    obtain ⟨wo, rfl⟩ : ∃ wo, wo = wr := ⟨_, rfl⟩
    clear o1 e2
    have HO := Lib.hid hown
    have HTn := Lib.hid htn
    have Htl := Lib.hid htl
    clear hown htn htl
    have etw := et1.trans ew
    obtain ⟨q1, q2, q3⟩ := HC.out wo (e1.trans ew)
    by_cases hlt : k < n3
    · obtain ⟨b3, o3, rfl, ra, rn, rc, hc3, ⟨zr, hzr⟩⟩ := HT.out k hlt
      go_wp2_with fail
      have oi : OwnP (Value.int .i64) 2 wo.heap.size (wo.alloc (.cells #[] 2)) (.slice (some ⟨wo.heap.size, 0, none⟩) 0 0) [] := OwnP.empty (Nat.le_refl _)
      have ei : Ext wo (wo.alloc (.cells #[] 2)) := Ext.alloc _ _
      generalize wo.alloc (.cells #[] 2) = wi at *
      clear q1 q2 q3
      have HC3 := Lib.hid hc3
      have HZr := Lib.hid hzr
      clear hc3 hzr
      go_loopw [6, 7] (fun s6 s7 wx => ∃ (i : Nat) (l : List Int), s7 = .int .i64 i ∧ i ≤ nd ∧ l.length = i ∧ (∀ y ∈ l, I64 y) ∧ OwnP (Value.int .i64) 2 wo.heap.size wx s6 l ∧ Ext wo wx) (fun _ s7 _ => nd - (intOf s7).toNat)
      case atStart => exact ⟨0, [], rfl, Nat.zero_le _, rfl, by simp, oi, ei⟩
      case round =>
        obtain ⟨i, l, rfl, hi, hll, hli, ho, ex⟩ := hrel
        clear oi ei
        have etx := etw.trans ex
        have hsx := ex.size
        by_cases hin : i < nd
        · obtain ⟨gd, rfl, -, -, hcd, -⟩ := HDl.out i hin
          obtain ⟨x1, x2⟩ := HDx.out i hin
          have HCel : Hid (∀ w', Ext wr w' → w'.cell? ⟨w.heap.size, 0, none⟩ = some (.slice a1 n1 c1) ∧ w'.cell? ⟨w.heap.size, 1, none⟩ = some (.slice a2 n2 c2) ∧ w'.cell? ⟨w.heap.size, 2, none⟩ = some (.slice (some ⟨b3, o3, none⟩) n3 c3) ∧ w'.cell? ⟨b3, o3 + k, none⟩ = some (.slice ra rn rc) ∧ w'.cell? ⟨gd, i, none⟩ = some (.int .i64 (dl.getD i 0))) := fun w' e => have q := HC.out w' (((e1.trans ew).trans ex).trans e); ⟨q.1, q.2.1, q.2.2, HC3.out w' (etx.trans e), ((ew.trans ex).trans e).cell hcd⟩
          have HMa := Lib.hid (fun (w' : World) (e : Ext wr w') => HM.out w' (etx.trans e) _ zr _ (HZr.out w' (etx.trans e)) (dl.getD i 0) ⟨by omega, x2⟩)
          generalize dl.getD i 0 = door at *
          have hk0 : (0 : Int) ≤ (k : Int) := by omega
          have hkn : (k : Int) < (n3 : Int) := by omega
          have hi0 : (0 : Int) ≤ (i : Int) := by omega
          have hind : (i : Int) < (nd : Int) := by omega
          have HOx := Lib.hid ho
          have HLi := Lib.hid hli
          have Hll := Lib.hid hll
          clear hcd ho hli hll
          go_wp2_with fail
          first | (go_region_held3 (fun w' => w'.cell? ⟨w.heap.size, 0, none⟩ = some (.slice a1 n1 c1) ∧ w'.cell? ⟨w.heap.size, 1, none⟩ = some (.slice a2 n2 c2) ∧ w'.cell? ⟨w.heap.size, 2, none⟩ = some (.slice (some ⟨b3, o3, none⟩) n3 c3) ∧ w'.cell? ⟨b3, o3 + k, none⟩ = some (.slice ra rn rc) ∧ w'.cell? ⟨gd, i, none⟩ = some (.int .i64 door)) (exact HCel.out _ (by repeat (first | exact Ext.refl _ | assumption | (refine Ext.trans ?_ (Ext.alloc _ _)) | (refine Ext.trans ?_ (Ext.drew _)) | (refine Ext.trans ?_ (by assumption))))) (first | (go_at_call 198; (with_reducible refine (HMa.out _ (by repeat (first | exact Ext.refl _ | assumption | (refine Ext.trans ?_ (Ext.alloc _ _)) | (refine Ext.trans ?_ (Ext.drew _)) | (refine Ext.trans ?_ (by assumption))))).mono ?_); rintro e w7 hr7; obtain ⟨r7, rfl, ⟨q, rfl⟩, e7⟩ := ret_ext hr7; clear hr7) | fail)) | fail
          have e77 : Ext wr w7 := (by repeat (first | exact Ext.refl _ | assumption | (refine Ext.trans ?_ (Ext.alloc _ _)) | (refine Ext.trans ?_ (Ext.drew _)) | (refine Ext.trans ?_ (by assumption))))
          have HO7 := Lib.hid (HOx.out.ext e77)
          have hs7 : wo.heap.size ≤ w7.heap.size := by have := e77.size; omega
          have HL1 : Hid (l.length + 1 ≤ 1099511627776) := by show _ ≤ _; rw [Hll.out]; omega
          have HEx := Lib.hid (ex.trans e77)
          cases q with
          | true =>
            go_wp2_with (at_builtin; (refine wpList_append1X (f := Value.int .i64) (e := 2) (B := wo.heap.size) (xs := l) rfl _ _ 41 rfl 0 8 Tryz.underlying41 Tryz.infoI64 rfl (fun _ => rfl) rfl HO7.out 1 rfl HL1.out (by omega) hs7 ?_); intro v8 w8 hown8 hg8 hb8 hat8; have HO8 := Lib.hid hown8; have HE8 := Lib.hid (Below.trans HEx.out hb8); clear hown8 hg8 hb8 hat8)
            go_roundw
            case rel => exact ⟨i + 1, l ++ [1], by go_num, by omega, by rw [List.length_append, List.length_singleton, Hll.out], ints_snoc HLi.out (by unfold I64; omega), HO8.out, HE8.out⟩
            case measure => simp [intOf]; omega
          | false =>
            go_wp2_with (at_builtin; (refine wpList_append1X (f := Value.int .i64) (e := 2) (B := wo.heap.size) (xs := l) rfl _ _ 41 rfl 0 8 Tryz.underlying41 Tryz.infoI64 rfl (fun _ => rfl) rfl HO7.out 0 rfl HL1.out (by omega) hs7 ?_); intro v8 w8 hown8 hg8 hb8 hat8; have HO8 := Lib.hid hown8; have HE8 := Lib.hid (Below.trans HEx.out hb8); clear hown8 hg8 hb8 hat8)
            go_roundw
            case rel => exact ⟨i + 1, l ++ [0], by go_num, by omega, by rw [List.length_append, List.length_singleton, Hll.out], ints_snoc HLi.out (by unfold I64; omega), HO8.out, HE8.out⟩
            case measure => simp [intOf]; omega
        · have hie : i = nd := by omega
          obtain ⟨a6, n6, c6, rfl, -⟩ := OwnP.shape ho
          have HX : Hid (IntsR (.new wo wr) wr (.slice a6 n6 c6) l) := OwnP.ints ho hli (Nat.le_refl _)
          have HLn : Hid (l.length = nd) := hll.trans hie
          have HEx := Lib.hid ex
          have HL1 : Hid (t.length + 1 ≤ 1099511627776) := by show _ ≤ _; rw [Htl.out]; omega
          have hwo := ew.size
          clear ho hli hll hie ex
          go_wp2_with (at_builtin; (refine wpList_appendRow (E := IntsR) (L := w1.heap.size) (B := w1.heap.size) (xs := t) stable_ints slRepr_slice rfl _ _ 30 rfl Tryz.underlying30 Tryz.infoInts rfl HO.out HEx.out (a6, n6, c6) l HX.out rfl HL1.out hwo hwo ?_); intro v8 w8 hown8 hb8 hs8 hg8 hat8; have HO8 := Lib.hid hown8; have HB8 := Lib.hid (Below.trans ew hb8); clear hown8 hb8 hg8 hat8)
          go_roundw
          case rel => exact ⟨k + 1, t ++ [l], by go_num, by omega, by rw [List.length_append, List.length_singleton, Htl.out], HO8.out, fun x hx => by
            rcases List.mem_append.1 hx with hx | hx
            · exact HTn.out x hx
            · rw [List.mem_singleton.1 hx]; exact HLn.out, HB8.out⟩
          case measure => simp [intOf]; omega
    · have hke : k = n3 := by omega
      obtain ⟨a4, n4, c4, rfl, -⟩ := OwnA.shape HO.out
      have HR : Hid (OwnR true w.heap.size IntsR 41 w.heap.size wo (.slice a4 n4 c4) t) := OwnR.lower HO.out et1.size et1.size
      have HT1 : Hid (t.length = n3) := Htl.out.trans hke
      clear hke
      go_wp2_with fail
      go_ret
      exact ⟨_, rfl, ⟨t, HR.out, by rw [HT1.out]; exact h1, by rw [HT1.out]; omega, fun x hx => by rw [HTn.out x hx]; omega⟩, etw⟩

open Go.ChangeShapes Go.WideShapes Go.ChangeAt Go.RowKit
set_option linter.unusedVariables false

/-- 'append(s, r)' among draws, the rows apart -/
theorem wpList_drawRowT {α : Type} {E : Repr α} {P : Program} {ops : Array Oper} {rest : List Oper} {o : Oper} {a : Act} {Q : Exit → Act → World → Prop} {w0 w : World} {v : Value} {xs : List α} {B L g : Nat} {e : TypeId} (hE : Stable E) (hsl : SlRepr E) (hgd : o.guard = Option.none) (s x : Operand) (t : TypeId)
    (ho : o.op = .call { callee := .builtin .append, args := #[s, x], argTypes := #[t, t] }) (ht : P.underlying t = some (.slice e)) (hinfo : (P.info? e).map (fun i => (i.zero, i.size, i.bytes)) = some (some (.slice Option.none 0 0), 1, 24))
    (hs : a.eval s = v) {lo : Nat} (hown : OwnA true (fun k => L ≤ k ∧ k < lo) E e B w v xs) (u : Option Addr × Nat × Nat) (y : α) (hu : E ⟨lo, w.heap.size, true⟩ w (slV u) y) {gx : Nat} (hgx : w.heap.size = gx) (hx : a.eval x = .slice (some ⟨gx, 0, Option.none⟩) 1 1) (hn : xs.length ≤ 1000000)
    (hL : L ≤ lo) (hlw : lo ≤ w.heap.size) (hv : ∀ k, v.ownBlock = some k → k < lo) (hd : Dr g w0 w) (hB : w0.heap.size ≤ B) (hBw : B ≤ w.heap.size)
    (h : ∀ v' w', OwnA true (fun k => L ≤ k) E e B w' v' (xs ++ [y]) → Dr g w0 w' → w.heap.size ≤ w'.heap.size → wpList P ops Q rest (a.put o.dst v') w') : wpList P ops Q (o :: rest) a (w.alloc (.cells #[slV u] e)) := by
  subst hgx
  have hb : Below w.heap.size w (w.alloc (.cells #[slV u] e)) := (Below.refl _ _).alloc (Nat.le_refl _) _
  refine wpList_append_of hgd s x t ho hs hx (fun ty => run_appendRowsZ (b := true) (A := fun k => L ≤ k) (w0 := w) (Zn := ⟨lo, w.heap.size + 1, true⟩) hE hsl t ty ht hinfo (fun k _ hk => hk.1) hown hb (SliceR.one (e := e) hE hu (Nat.le_refl _) (Nat.le_refl _) hlw) (fun _ => rfl) (fun k hk => ⟨Nat.le_trans hL hk.1, by have := hk.2; simpa using this, fun e => by have h1 := hv k e; have h2 : lo ≤ k := hk.1; omega⟩) (fun _ k hk _ ha => by have h1 : lo ≤ k := hk.1; have h2 := ha.2; omega) (by simp only [List.length_cons, List.length_nil]; omega) hBw) (fun v' w' h' => ?_)
  obtain ⟨h1, h2, -⟩ := h'
  exact h v' w' h1 ((hd.alloc _).own h2 (fun k hk => Nat.le_trans hB (OwnA.block hown k hk).1)) (Nat.le_trans (Nat.le_of_lt (by simp)) h2.size)
theorem OwnR.cap {α : Type} {b : Bool} {L : Nat} {E : Repr α} {e : TypeId} {B : Nat} {w : World} {v : Value} {xs : List α} (h : OwnR b L E e B w v xs) : OwnA b (fun k => L ≤ k ∧ k < w.heap.size) E e B w v xs := OwnA.weaken h (fun k hk ha => ⟨ha, hk⟩)
theorem OwnA.drA {α : Type} {E : Repr α} (hE : Stable E) {A : Nat → Prop} {e : TypeId} {B : Nat} {w w' : World} {v : Value} {xs : List α} {g : Nat} {b : Bool} (h : OwnA b A E e B w v xs) (hd : Dr g w w') (hg : g < B) (hA : ¬ A g) : OwnA b A E e B w' v xs := by
  cases hv : v.ownBlock with
  | none => exact OwnA.kept hE h hd.grown (.inl hv) (fun k hk => by injection hk with hk; subst hk; exact hA)
  | some k => exact OwnA.kept hE h hd.grown (.inr (by rw [hv]; intro e; injection e with e; have := (OwnA.block h k hv).1; omega)) (fun k hk => by injection hk with hk; subst hk; exact hA)

/-- a pick among numbers that have just been laid -/
theorem pickL_c (w : World) (g : Nat) (h : Src g w) (ys : List Int) (cs : Array Value) (hc : cs.toList = ys.map (Value.int .i64)) (hm : ∀ y ∈ ys, I64 y) (h0 : 0 < ys.length) (hs : ys.length ≤ 1000) {gx n : Nat} (hgx : w.heap.size = gx) (hn : ys.length = n) :
    Calls Tryz.prog 48 #[.pointer (some ⟨g, 0, none⟩), .slice (some ⟨gx, 0, none⟩) n n] (w.alloc (.cells cs 2)) (DrawR g (w.alloc (.cells cs 2)) fun r _ => ∃ y, r = .int .i64 y ∧ y ∈ ys) := by
  subst hgx; subst hn
  have hlit := OwnP.ints (OwnP.lit (f := Value.int .i64) (e := 2) (B := w.heap.size) (Nat.le_refl _) ys cs hc (by unfold maxLen; omega)) hm (Nat.le_refl _)
  refine (l01Pick_c _ g (h.alloc _) _ _ _ hlit (.inl h.lt) h0).mono ?_
  rintro e w' ⟨v, rfl, ⟨y, hy, rfl⟩, hd⟩
  exact ⟨_, rfl, ⟨y, rfl, hy⟩, hd⟩

def Tab11 (w : World) (r : Value) (w' : World) : Prop := ∃ t : List (List Int), OwnR true w.heap.size IntsR 41 w.heap.size w' r t ∧ 1 ≤ t.length ∧ t.length ≤ 5 ∧ ∀ x ∈ t, 1 ≤ x.length ∧ x.length ≤ 10
set_option maxRecDepth 20000 in
set_option maxHeartbeats 4000000 in
theorem l11Valid_c (w : World) (g : Nat) (h : Src g w) : Calls Tryz.prog 165 #[.pointer (some ⟨g, 0, none⟩)] w (DrawR g w (Tab11 w)) := by
  have hlt := h.lt
  have hcall := l01Next_c w g h 3 (by unfold I64; omega)
  clear h
  go_enter Tryz.func165, Tryz.ntmps165
  go_wp2_with fail
  refine Calls.mono hcall ?_
  rintro e w1 ⟨_, rfl, ⟨x, rfl, hx0, hx1⟩, hd1⟩
  clear hcall
  have hs1 := hd1.size
  by_cases e0 : x = 0
  · subst e0
    have hcall := l10Valid_c w1 g hd1.src
    go_wp2_with fail
    refine Calls.mono hcall ?_
    rintro e w2 ⟨_, rfl, ⟨up, ud, ur, ps, ds, rs, rfl, hB, hp, hds, hrs, h1, h4⟩, hd2⟩
    clear hcall
    have hcall := l10Access_c w2 up ud ur _ _ _ ps ds hB hp hds rs hrs h1 h4
    have hd3 := hd1.trans hd2
    obtain ⟨a1, n1, c1, rfl, -⟩ := SliceR.shape hp
    obtain ⟨a2, n2, c2, rfl, -⟩ := SliceR.shape hds
    obtain ⟨a3, n3, c3, rfl, -⟩ := SliceR.shape hrs
    clear hB hp hds hrs
    go_wp2_with fail
    refine Calls.mono hcall ?_
    rintro e w3 ⟨_, rfl, ⟨t, hr, t1, t2, t3⟩, hb⟩
    clear hcall
    have hs2 := hd3.size
    have HR : Hid (OwnR true w.heap.size IntsR 41 w.heap.size w3 _ t) := OwnR.lower hr hs2 hs2
    have HD := Lib.hid (hd3.below hb)
    obtain ⟨a4, n4, c4, rfl, -⟩ := OwnA.shape hr
    have HT : Hid (∀ x ∈ t, 1 ≤ x.length ∧ x.length ≤ 10) := t3
    clear hr hb t3
    go_wp2_with fail
    go_ret
    exact ⟨_, rfl, ⟨t, HR.out, t1, t2, HT.out⟩, HD.out⟩
  · have b0 : (x == 0) = false := by simpa using e0
    have hcall := l01Next_c _ g hd1.src 4 (by unfold I64; omega)
    go_wp2_with fail
    refine Calls.mono hcall ?_
    rintro e w2 ⟨_, rfl, ⟨x2, rfl, h20, h21⟩, hd2⟩
    clear hcall
    have hcall := l01Next_c _ g hd2.src 5 (by unfold I64; omega)
    replace hd2 := hd1.trans hd2
    go_wp2_with fail
    refine Calls.mono hcall ?_
    rintro e w3 ⟨_, rfl, ⟨x3, rfl, h30, h31⟩, hd3⟩
    clear hcall
    replace hd3 := hd2.trans hd3
    obtain ⟨rw', hrw⟩ : ∃ n : Nat, 1 + x2 = n := ⟨(1 + x2).toNat, by omega⟩
    obtain ⟨cl, hcl⟩ : ∃ n : Nat, 1 + x3 = n := ⟨(1 + x3).toNat, by omega⟩
    have hrw4 : 1 ≤ rw' ∧ rw' ≤ 4 := by omega
    have hcl5 : 1 ≤ cl ∧ cl ≤ 5 := by omega
    clear h20 h21 h30 h31 hx0 hx1 e0 hd1 hd2
    go_wp2_with fail
    try rw [hrw]
    try rw [hcl]
    clear hrw hcl
    have hs3 := hd3.size
    have o1 : OwnR true w.heap.size IntsR 41 w.heap.size (w3.alloc (.cells #[] 41)) (.slice (some ⟨w3.heap.size, 0, none⟩) 0 0) [] := OwnR.empty hs3
    have d1 := hd3.alloc (.cells #[] 41)
    generalize w3.alloc (.cells #[] 41) = w4 at *
    go_loopw [5, 6, 7, 8] (fun s5 s6 _ _ wr => ∃ (k : Nat) (t : List (List Int)), s6 = .int .i64 k ∧ k ≤ rw' ∧ t.length = k ∧ OwnR true w.heap.size IntsR 41 w.heap.size wr s5 t ∧ (∀ x ∈ t, x.length = cl) ∧ Dr g w wr) (fun _ s6 _ _ _ => rw' - (intOf s6).toNat)
    case atStart => exact ⟨0, [], rfl, Nat.zero_le _, rfl, o1, by simp, d1⟩
    case round =>
      obtain ⟨k, t, rfl, hk, htl, hown, htn, hd⟩ := hrel
      obtain ⟨wo, rfl⟩ : ∃ wo, wo = wr := ⟨_, rfl⟩
      clear o1 d1
      have HO := Lib.hid hown
      have HTn := Lib.hid htn
      have Htl := Lib.hid htl
      have HD := Lib.hid hd
      have hsz := hd.size
      have hgr : g < wo.heap.size := by omega
      by_cases hlt2 : k < rw'
      · clear hown htn htl
        go_wp2_with fail
        have oi : OwnP (Value.int .i64) 2 wo.heap.size (wo.alloc (.cells #[] 2)) (.slice (some ⟨wo.heap.size, 0, none⟩) 0 0) [] := OwnP.empty (Nat.le_refl _)
        have di : Dr g wo (wo.alloc (.cells #[] 2)) := (Dr.refl hd.src).alloc _
        generalize wo.alloc (.cells #[] 2) = wi at *
        clear hd
        go_loopw [7, 8] (fun s7 s8 wx => ∃ (i : Nat) (l : List Int), s8 = .int .i64 i ∧ i ≤ cl ∧ l.length = i ∧ (∀ y ∈ l, I64 y) ∧ OwnP (Value.int .i64) 2 wo.heap.size wx s7 l ∧ Dr g wo wx) (fun _ s8 _ => cl - (intOf s8).toNat)
        case atStart => exact ⟨0, [], rfl, Nat.zero_le _, rfl, by simp, oi, di⟩
        case round =>
          obtain ⟨i, l, rfl, hi, hll, hli, ho, hdx⟩ := hrel
          clear oi di
          have hsx := hdx.size
          by_cases hin : i < cl
          · have hcall := pickL_c wr g hdx.src [0, 1, 1] #[.int .i64 0, .int .i64 1, .int .i64 1] rfl (by simp [I64]) (by simp) (by simp) rfl rfl
            have hd5 := hdx.alloc (.cells #[.int .i64 0, .int .i64 1, .int .i64 1] 2)
            have ho5 := ho.alloc (.cells #[.int .i64 0, .int .i64 1, .int .i64 1] 2)
            have HLi := Lib.hid hli
            have Hll := Lib.hid hll
            clear hdx ho hli hll
            go_wp2_with fail
            refine Calls.mono hcall ?_
            rintro e w7 ⟨_, rfl, ⟨y, rfl, hyl⟩, hd6⟩
            have hy : I64 y := by simp only [List.mem_cons, List.not_mem_nil, or_false] at hyl; unfold I64; omega
            clear hcall hyl
            have hd7 := hd5.trans hd6
            have ho7 := ho5.dr hd6 hgr
            have hs7 := hd7.size
            have hl1 : l.length ≤ 1000000 := by rw [Hll.out]; omega
            clear hd5 hd6 ho5
            go_wp2_with (at_builtin; (refine wpList_drawInt (g := g) (w0 := wo) (B := wo.heap.size) rfl _ _ 41 rfl Tryz.underlying41 Tryz.infoI64 rfl ho7 y rfl hl1 hd7 (Nat.le_refl _) hs7 ?_); intro v8 w8 hown8 hd8 hs8)
            go_wp2_with fail
            exact ⟨⟨i + 1, l ++ [y], by go_num, by omega, by rw [List.length_append, List.length_singleton, Hll.out], ints_snoc HLi.out hy, hown8, hd8⟩, by simp [intOf]; omega⟩
          · have hie : i = cl := by omega
            obtain ⟨a7, n7, c7, rfl, -⟩ := OwnP.shape ho
            have HX : Hid (IntsR ⟨wo.heap.size, wr.heap.size, true⟩ wr (.slice a7 n7 c7) l) := OwnP.ints ho hli (Nat.le_refl _)
            have HLn : Hid (l.length = cl) := hll.trans hie
            have HOr : Hid (OwnA true (fun k => w.heap.size ≤ k ∧ k < wo.heap.size) IntsR 41 w.heap.size wr _ t) := OwnA.drA stable_ints HO.out.cap hdx hlt (fun q => by omega)
            have HV : Hid (∀ k, u5.ownBlock = some k → k < wo.heap.size) := fun k hk => (OwnA.block HO.out k hk).2
            have HL1 : Hid (t.length ≤ 1000000) := by show _ ≤ _; rw [Htl.out]; omega
            have HDx := Lib.hid (HD.out.trans hdx)
            clear ho hli hll hie hdx
            go_wp2_with (at_builtin; (refine wpList_drawRowT (v := u5) (g := g) (w0 := w) (B := w.heap.size) (L := w.heap.size) stable_ints slRepr_slice rfl _ _ 30 rfl Tryz.underlying30 Tryz.infoInts rfl HOr.out (a7, n7, c7) l HX.out rfl rfl HL1.out hsz hsx HV.out HDx.out (Nat.le_refl _) (by omega) ?_); intro v8 w8 hown8 hd8 hs8)
            go_wp2_with fail
            exact ⟨⟨k + 1, t ++ [l], by go_num, by omega, by rw [List.length_append, List.length_singleton, Htl.out], hown8, fun x hx => by
              rcases List.mem_append.1 hx with hx | hx
              · exact HTn.out x hx
              · rw [List.mem_singleton.1 hx]; exact HLn.out, hd8⟩, by simp [intOf]; omega⟩
      · have hke : k = rw' := by omega
        obtain ⟨a4, n4, c4, rfl, -⟩ := OwnA.shape hown
        have HR : Hid (OwnR true w.heap.size IntsR 41 w.heap.size wo (.slice a4 n4 c4) t) := hown
        have HT1 : Hid (t.length = rw') := htl.trans hke
        clear hke hown htn htl hd
        go_wp2_with fail
        go_ret
        exact ⟨_, rfl, ⟨t, HR.out, by rw [HT1.out]; omega, by rw [HT1.out]; omega, fun x hx => by rw [HTn.out x hx]; omega⟩, HD.out⟩

/-- 'append(s, r)' among draws, r a row that lies elsewhere -/
theorem wpList_drawAlias {α : Type} {E : Repr α} {P : Program} {ops : Array Oper} {rest : List Oper} {o : Oper} {a : Act} {Q : Exit → Act → World → Prop} {w0 w : World} {v : Value} {xs : List α} {B g : Nat} {e : TypeId} (hE : Stable E) (hgd : o.guard = Option.none) (s x : Operand) (t : TypeId)
    (ho : o.op = .call { callee := .builtin .append, args := #[s, x], argTypes := #[t, t] }) (ht : P.underlying t = some (.slice e)) (hinfo : (P.info? e).map (fun i => (i.zero, i.size, i.bytes)) = some (some (.slice Option.none 0 0), 1, 24))
    (hs : a.eval s = v) (hown : OwnR false B E e B w v xs) (u : Option Addr × Nat × Nat) (y : α) {Zn : Zone} (hu : E Zn w (slV u) y) (hZ : ∀ k, Zn.Has k → B ≤ k ∧ k < w.heap.size ∧ v.ownBlock ≠ some k) {gx : Nat} (hgx : w.heap.size = gx) (hx : a.eval x = .slice (some ⟨gx, 0, Option.none⟩) 1 1) (hn : xs.length ≤ 1000000)
    (hd : Dr g w0 w) (hB : w0.heap.size ≤ B) (hBw : B ≤ w.heap.size)
    (h : ∀ v' w', OwnR false B E e B w' v' (xs ++ [y]) → Dr g w0 w' → w.heap.size ≤ w'.heap.size → wpList P ops Q rest (a.put o.dst v') w') : wpList P ops Q (o :: rest) a (w.alloc (.cells #[slV u] e)) := by
  subst hgx
  have hb : Below w.heap.size w (w.alloc (.cells #[slV u] e)) := (Below.refl _ _).alloc (Nat.le_refl _) _
  refine wpList_append_of hgd s x t ho hs hx (fun ty => run_appendRowsY (b := false) (A := fun k => B ≤ k) (A0 := fun k => B ≤ k) (w0 := w) (ad := ⟨w.heap.size, 0, Option.none⟩) (cap := 1) (ys := [y]) hE t ty ht hinfo (fun _ _ hk => hk) hown hb (fun _ => Zn) (fun _ _ h => by cases h)
    (fun _ _ k hk => ⟨(hZ k hk).1, by have := (hZ k hk).2.1; simp; omega, (hZ k hk).2.2⟩) (fun h => by cases h) (fun h => by cases h)
    (fun j hj => by
      have hj0 : j = 0 := by simpa using hj
      subst hj0
      refine ⟨u, by rw [Addr.add_zero']; simp, fun hj => ?_⟩
      exact hE.below hu hb) (Nat.le_refl _) (by unfold maxLen; omega) (by simp only [List.length_cons, List.length_nil]; omega) hBw) (fun v' w' h' => ?_)
  obtain ⟨h1, h2, -⟩ := h'
  exact h v' w' h1 ((hd.alloc _).own h2 (fun k hk => Nat.le_trans hB (OwnA.block hown k hk).1)) (Nat.le_trans (Nat.le_of_lt (by simp)) h2.size)
theorem OwnA.unown {α : Type} {A : Nat → Prop} {E : Repr α} {e : TypeId} {B : Nat} {w : World} {v : Value} {xs : List α} {b : Bool} (h : OwnA b A E e B w v xs) : OwnA false A E e B w v xs := by
  obtain ⟨us, Z, hl, ho, h1, h2, h3⟩ := h
  exact ⟨us, Z, hl, ho, fun i hi => ⟨(fun h => by cases h), (h1 i hi).2⟩, (fun h => by cases h), h3⟩
theorem ints_store {z : Zone} {w : World} {b off n c : Nat} {xs : List Int} (h : IntsR z w (.slice (some ⟨b, off, none⟩) n c) xs) (i : Nat) (hi : i < n) {y : Int} (hy : I64 y) : IntsR z (w.setCell ⟨b, off + i, none⟩ (.int .i64 y)) (.slice (some ⟨b, off, none⟩) n c) (xs.set i y) := by
  obtain ⟨a, cap, he, h1, h2, h3, h4⟩ := h
  injection he with e1 e2 e3
  subst e1; subst e2; subst e3
  refine ⟨_, _, by rw [List.length_set], by rw [List.length_set]; exact h1, h2, (fun h => by cases h), fun ad had hp => ?_⟩
  cases had
  obtain ⟨k1, k2, k3, k4, Z, k5, k6, k7⟩ := h4 _ rfl (by omega)
  refine ⟨k1, k2, by simp only [World.setCell, Array.size_modify]; exact k3, fun ho j hj => by rw [World.frozen?_setCell]; exact k4 ho j (by simpa using hj), Z, fun j hj => k5 j (by simpa using hj), fun ho => ⟨fun j hj => (k6 ho).1 j (by simpa using hj), fun j l hjl hl => (k6 ho).2 j l hjl (by simpa using hl)⟩, fun j hj => ?_⟩
  have hj' : j < xs.length := by simpa using hj
  obtain ⟨u, c1, c2⟩ := k7 j hj'
  by_cases e : j = i
  · subst e
    refine ⟨.int .i64 y, World.cell?_setCell_same _ _ _ c1, ?_⟩
    rw [List.getElem_set_self]; exact ⟨rfl, hy⟩
  · refine ⟨u, ?_, ?_⟩
    · rw [World.cell?_setCell_other _ _ _ _ (by intro h; injection h with _ h _; simp only at h; omega)]; exact c1
    · rw [List.getElem_set_ne (by omega)]; exact c2
/-- the first cell of the first row may be written -/
theorem pokeRows {L B : Nat} {e : TypeId} {w : World} {v : Value} {t : List (List Int)} (h : OwnR true L IntsR e B w v t) (h0 : 0 < t.length) (h1 : 0 < t[0].length) :
    ∃ gb n cap rb ro rn rc, v = .slice (some ⟨gb, 0, none⟩) n cap ∧ w.cell? ⟨gb, 0, none⟩ = some (.slice (some ⟨rb, ro, none⟩) rn rc) ∧ 0 < rn ∧ L ≤ rb ∧ rb < w.heap.size ∧ rb ≠ gb ∧ (∃ x, w.cell? ⟨rb, ro, none⟩ = some (.int .i64 x)) ∧ w.frozen? ⟨rb, ro, none⟩ = false ∧ B ≤ gb ∧ gb < w.heap.size ∧
      ∀ (w' : World), (∀ k, L ≤ k → k < w.heap.size → w'.heap[k]? = w.heap[k]?) → w.heap.size ≤ w'.heap.size → L ≤ B → ∀ y, I64 y → OwnR false L IntsR e B (w'.setCell ⟨rb, ro, none⟩ (.int .i64 y)) v (t.set 0 (t[0].set 0 y)) := by
  obtain ⟨us, Z, hl, ho, g1, g2, g3⟩ := h
  obtain ⟨a, n, cap, rfl, hn, hm, hel⟩ := ho.shape
  obtain ⟨gb, rfl, hb, hlt, hc, hf⟩ := hel 0 (by omega)
  have hus : 0 < us.length := by omega
  have hE := g3 0 h0 hus
  obtain ⟨hown0, hz0⟩ := g1 0 h0
  obtain ⟨ra, rn, rc, he, hrn, -, -, -, -, hrel⟩ := SliceR.shape hE
  obtain ⟨rb, ro, rfl, hrz, hrlt, hrf, u, y0, hru, -, -, hux⟩ := hrel 0 h1
  obtain ⟨hrz1, -, hrz3⟩ := hz0 rb hrz
  have hne : rb ≠ gb := fun q => hrz3 (by rw [q]; rfl)
  rw [he] at hc hE
  refine ⟨gb, n, cap, rb, ro, rn, rc, rfl, hc, by omega, hrz1, hrlt, hne, ⟨_, by rw [Nat.add_zero] at hru; rw [hru, hux.1]⟩, by have := hrf (hown0 rfl); rwa [Nat.add_zero] at this, hb, hlt, fun w' hk hs hLB y hy => ?_⟩
  have hset : ∀ k, k ≠ rb → (w'.setCell ⟨rb, ro, none⟩ (.int .i64 y)).heap[k]? = w'.heap[k]? := fun k hk => Below.heap_setCell _ _ _ _ hk
  have hsz : (w'.setCell ⟨rb, ro, none⟩ (.int .i64 y)).heap.size = w'.heap.size := by simp [World.setCell]
  refine ⟨us, Z, by rw [List.length_set]; exact hl, ?_, fun i hi => ⟨(fun h => by cases h), fun k hk' => ?_⟩, (fun h => by cases h), fun i hi hi' => ?_⟩
  · obtain ⟨o1, o2⟩ := ho
    refine ⟨o1, ?_⟩
    rcases o2 with o2 | ⟨g, cp, cur, hv, hbg, hg, r⟩
    · exact .inl o2
    · refine .inr ⟨g, cp, cur, hv, hbg, ?_, r⟩
      have hgg : g = gb := by injection hv with hv _ _; injection hv with hv; injection hv with hv _ _; exact hv.symm
      have hg3 : g < w.heap.size := (Array.getElem?_eq_some_iff.1 hg).1
      rw [hset g (by omega), hk g (by omega) hg3]; exact hg
  · rw [hsz]
    obtain ⟨q1, q2, q3⟩ := (g1 i (by simpa using hi)).2 k hk'
    exact ⟨q1, Nat.lt_of_lt_of_le q2 hs, q3⟩
  · have hi2 : i < t.length := by simpa using hi
    have hsame : Same (Z i) w w' := fun k hk1 hk2 => hk k ((g1 i hi2).2 k hk1).1 hk2
    by_cases e : i = 0
    · subst e
      rw [List.getElem_set_self]
      have := ints_store (stable_ints.keep hE hsame) 0 (by omega) hy
      rw [Nat.add_zero] at this
      rw [he]; exact this
    · rw [List.getElem_set_ne (by omega)]
      refine stable_ints.keep (stable_ints.keep (g3 i hi2 hi') hsame) (fun k hk1 _ => hset k (fun q => ?_))
      subst q
      exact g2 rfl 0 i (by omega) hi2 k hrz hk1
/-- row 0 -/
theorem OwnA.first {α : Type} {A : Nat → Prop} {E : Repr α} {e : TypeId} {B : Nat} {w : World} {v : Value} {xs : List α} {b : Bool} (h : OwnA b A E e B w v xs) (h0 : 0 < xs.length) :
    ∃ gb n cap u Zn, v = .slice (some ⟨gb, 0, Option.none⟩) n cap ∧ w.cell? ⟨gb, 0, Option.none⟩ = some (slV u) ∧ B ≤ gb ∧ gb < w.heap.size ∧ E Zn w (slV u) xs[0] ∧ (b = true → Zn.own = true) ∧ ∀ k, Zn.Has k → A k ∧ k < w.heap.size ∧ v.ownBlock ≠ some k := by
  obtain ⟨us, Z, hl, ho, h1, h2, h3⟩ := h
  obtain ⟨a, n, cap, rfl, hn, hm, hel⟩ := ho.shape
  obtain ⟨gb, rfl, hb, hlt, hc, hf⟩ := hel 0 (by omega)
  exact ⟨gb, n, cap, us[0], Z 0, rfl, hc, hb, hlt, h3 0 h0 (by omega), (h1 0 h0).1, (h1 0 h0).2⟩

theorem make_small (D : Nat) (hD : D ≤ 1000) (w' : World) : (Instr.makeSlice 41 (.int .i64 D) (.int .i64 D)).run Tryz.prog w' = .ok (.slice (some ⟨w'.heap.size, 0, none⟩) D D) (w'.alloc (.cells (madeCells #[.int .i64 0] D) 2)) := by
  obtain ⟨i, hi, hz0, hz1, hz2⟩ := info_parts Tryz.infoI64
  have hr := run_make (P := Tryz.prog) w' 41 2 i (.int .i64 0) Tryz.underlying41 hi hz0 .i64 .i64 D D (by omega) (Int.le_refl _) (by rw [hz2]; omega) (by omega)
  simp only [Int.toNat_natCast, hz1, Nat.mul_one] at hr
  exact hr
theorem made_row (D : Nat) (hD : D ≤ 1000) (w : World) : IntsR ⟨w.heap.size, w.heap.size + 1, true⟩ (w.alloc (.cells (madeCells #[.int .i64 0] D) 2)) (.slice (some ⟨w.heap.size, 0, none⟩) D D) (List.replicate D 0) := by
  have e1 : (madeCells #[Value.int .i64 0] D).toList = (List.replicate D (0 : Int)).map (Value.int .i64) := by rw [toList_madeCells_one]; simp
  have := OwnP.ints (OwnP.lit (f := Value.int .i64) (e := 2) (B := w.heap.size) (w := w) (Nat.le_refl _) (List.replicate D 0) _ e1 (by unfold maxLen; simp; omega)) (fun x hx => by rw [List.eq_of_mem_replicate hx]; unfold I64; omega) (Nat.le_refl _)
  rw [World.size_alloc, List.length_replicate] at this
  exact this
def Tab11D (w : World) (r : Value) (w' : World) : Prop := ∃ t : List (List Int), RowsR ⟨w.heap.size, w'.heap.size, false⟩ w' r t ∧ t.length ≤ 14 ∧ ∀ x ∈ t, x.length ≤ 14
/-- one made row in a list of its own -/
theorem made_one (D : Nat) (hD : D ≤ 14) {g : Nat} {w w5 : World} (hd : Dr g w w5) : Tab11D w (.slice (some ⟨w5.heap.size + 1, 0, none⟩) 1 1) ((w5.alloc (.cells (madeCells #[.int .i64 0] D) 2)).alloc (.cells #[.slice (some ⟨w5.heap.size, 0, none⟩) D D] 41)) := by
  have hs := hd.size
  have h := SliceR.one (e := 41) (u := (some ⟨w5.heap.size, 0, none⟩, D, D)) stable_ints (made_row D (by omega) w5) (by simp) (lo := w.heap.size) hs (by simp; omega)
  rw [World.size_alloc] at h
  refine ⟨_, stable_rows.sub h ⟨fun k hk => ⟨hk.1, by have := hk.2; simp only at this; simp; omega⟩, fun h => by cases h⟩, by simp, fun x hx => by rw [List.mem_singleton.1 hx]; simp; omega⟩

set_option maxRecDepth 20000 in
set_option maxHeartbeats 4000000 in
theorem l11Draw_c (w : World) (g : Nat) (h : Src g w) : Calls Tryz.prog 135 #[.pointer (some ⟨g, 0, none⟩)] w (DrawR g w (Tab11D w)) := by
  have hlt := h.lt
  have hcall := l11Valid_c w g h
  clear h
  go_enter Tryz.func135, Tryz.ntmps135
  go_wp2_with fail
  refine Calls.mono hcall ?_
  rintro e w1 ⟨_, rfl, ⟨t, hr, t1, t2, t3⟩, hd1⟩
  clear hcall
  have hcall := l01Next_c _ g hd1.src 30 (by unfold I64; omega)
  obtain ⟨a, n, c, rfl, hn, -⟩ := OwnA.shape hr
  have hs1 := hd1.size
  have HR := Lib.hid hr
  have HT3 := Lib.hid t3
  have Hn := Lib.hid hn
  rw [← hn] at t1 t2
  have HTD : Hid (∀ w', Dr g w1 w' → Tab11D w (.slice a n c) w') := fun w' hd => ⟨t, stable_rows.sub (OwnR.rows (OwnR.dr stable_ints HR.out hd hlt hlt)) ⟨fun k hk => hk, fun h => by cases h⟩, by rw [← Hn.out]; omega, fun x hx => by have := HT3.out x hx; omega⟩
  clear hr hn t3
  go_wp2_with fail
  refine Calls.mono hcall ?_
  rintro e w2 ⟨_, rfl, ⟨x, rfl, hx0, hx1⟩, hd2⟩
  clear hcall
  have hd3 := hd1.trans hd2
  have HD3 := Lib.hid hd3
  have hs2 := hd3.size
  by_cases e0 : x = 0
  · subst e0
    have hO2 := OwnR.dr stable_ints HR.out hd2 hlt hlt
    have ht0 : 0 < t.length := by rw [← Hn.out]; omega
    have ht1 : 0 < t[0].length := (HT3.out _ (List.getElem_mem ht0)).1
    obtain ⟨gb, n', c', rb, ro, rn, rc, he, hc0, hrn, hrb1, hrb2, hrb3, ⟨x0, hcx⟩, hcf, hgb1, hgb2, hpoke⟩ := pokeRows hO2 ht0 ht1
    injection he with he1 he2 he3
    subst he1; subst he2; subst he3
    have HPk := Lib.hid hpoke
    have hn1 : (0 : Int) < (n : Int) := by omega
    have hn1' : 0 < n := by omega
    have hrn' : (0 : Int) < (rn : Int) := by omega
    have hgne : gb ≠ g := by omega
    have hrne : rb ≠ g := by omega
    have hrng : gb ≠ rb := Ne.symm hrb3
    have HCg : Hid (∀ w', Dr g w2 w' → w'.cell? ⟨gb, 0, none⟩ = some (.slice (some ⟨rb, ro, none⟩) rn rc)) := fun w' hd => hd.cell hc0 hgne
    have HCs : Hid (∀ w' u, Dr g w2 w' → (w'.setCell ⟨rb, ro, none⟩ u).cell? ⟨gb, 0, none⟩ = some (.slice (some ⟨rb, ro, none⟩) rn rc)) := fun w' u hd => by rw [World.cell?_setCell_other _ _ _ _ (by intro h; injection h with h _ _; exact hrb3 h)]; exact hd.cell hc0 hgne
    have HCr : Hid (∀ w', Dr g w2 w' → w'.cell? ⟨rb, ro, none⟩ = some (.int .i64 x0) ∧ w'.frozen? ⟨rb, ro, none⟩ = false) := fun w' hd => ⟨hd.cell hcx hrne, (hd.frozen hrb2 hrne).trans hcf⟩
    have hr2 : Dr g w2 w2 := Dr.refl hd2.src
    have HPick : Hid (∀ w', Drew (w2.alloc (.cells #[.int .i64 (-1), .int .i64 2] 2)) w' → Calls Tryz.prog 48 #[.pointer (some ⟨g, 0, none⟩), .slice (some ⟨w2.heap.size, 0, none⟩) 2 2] w' (DrawR g w' fun r _ => ∃ y, r = .int .i64 y ∧ y ∈ [(-1 : Int), 2])) := fun w' hdq => by
      have hlit : IntsR ⟨w2.heap.size, w2.heap.size + 1, true⟩ (w2.alloc (.cells #[.int .i64 (-1), .int .i64 2] 2)) (.slice (some ⟨w2.heap.size, 0, none⟩) 2 2) [-1, 2] := by
        have := OwnP.ints (OwnP.lit (f := Value.int .i64) (e := 2) (B := w2.heap.size) (w := w2) (Nat.le_refl _) [-1, 2] #[.int .i64 (-1), .int .i64 2] rfl (by simp [maxLen])) (by simp [I64]) (Nat.le_refl _)
        rw [World.size_alloc] at this
        exact this
      have hsr : Src g w' := by obtain ⟨m, rfl⟩ := hdq; exact (hd2.src.alloc _).drewN m
      refine (l01Pick_c w' g hsr _ _ _ (stable_ints.ext hlit (Ext.ofDrew hdq)) (.inl (by show g < w2.heap.size; omega)) (by simp)).mono ?_
      rintro e w'' ⟨v, rfl, ⟨y, hy, rfl⟩, hd⟩
      exact ⟨_, rfl, ⟨y, rfl, hy⟩, hd⟩
    have HFin : Hid (∀ w' y, Dr g w2 w' → I64 y → Tab11D w (.slice (some ⟨gb, 0, none⟩) n c) (w'.setCell ⟨rb, ro, none⟩ (.int .i64 y)) ∧ Dr g w (w'.setCell ⟨rb, ro, none⟩ (.int .i64 y))) := fun w' y hd hy => by
      have hO := HPk.out w' (fun k hk1 hk2 => hd.grown.block k hk2 (by intro q; injection q with q; omega)) hd.size (Nat.le_refl _) y hy
      refine ⟨⟨_, OwnR.reads hO (Nat.le_refl _), by rw [List.length_set, ← Hn.out]; omega, fun x hx => ?_⟩, (HD3.out.trans hd).put (p := ⟨rb, ro, none⟩) hrb1 _⟩
      rcases List.mem_or_eq_of_mem_set hx with hx | hx
      · have := HT3.out x hx; omega
      · rw [hx, List.length_set]; have := HT3.out _ (List.getElem_mem ht0); omega
    have HHt := Lib.hid ht0
    clear hpoke hO2 ht1 hc0 hcx hcf
    go_wp2_with fail
    first | (go_region_held3 (fun w' => w'.cell? ⟨gb, 0, none⟩ = some (.slice (some ⟨rb, ro, none⟩) rn rc)) (first | exact HCs.out _ _ hd77 | exact HCg.out _ (by (repeat (first | assumption | (refine Dr.drew ?_) | (refine Dr.alloc ?_ _) | (refine Dr.trans ?_ (by assumption)))); done) | fail) (first | (go_at_call 48; (with_reducible refine (HPick.out _ ?_).mono ?_); (first | exact ⟨0, rfl⟩ | exact ⟨1, rfl⟩); rintro e w7 ⟨_, rfl, ⟨y7, rfl, hy7⟩, hd7⟩; have hd77 : Dr g w2 w7 := (by (repeat (first | assumption | (refine Dr.drew ?_) | (refine Dr.alloc ?_ _) | (refine Dr.trans ?_ (by assumption)))); done); obtain ⟨z1, z2⟩ := HCr.out w7 hd77) | fail)) | fail
    have hy : I64 y7 := by simp only [List.mem_cons, List.not_mem_nil, or_false] at hy7; unfold I64; omega
    have HF := Lib.hid (HFin.out w7 y7 hd77 hy)
    go_wp2_with fail
    go_ret
    exact ⟨_, rfl, HF.out.1, HF.out.2⟩
  · have b0 : (x == 0) = false := by simpa using e0
    by_cases e1 : x = 1
    · subst e1
      have hO2 := OwnR.dr stable_ints HR.out hd2 hlt hlt
      have HV : Hid (∀ k, (Value.slice a n c).ownBlock = some k → k < w2.heap.size) := fun k hk => (OwnA.block hO2 k hk).2
      have HOc : Hid (OwnA true (fun k => w.heap.size ≤ k ∧ k < w2.heap.size) IntsR 41 w.heap.size (w2.alloc (.cells #[.int .i64 1] 2)) (.slice a n c) t) := OwnA.below stable_ints hO2.cap ((Below.refl _ _).alloc (Nat.le_refl _) _)
      have hu := ints_one w2 1 2 (by unfold I64; omega)
      have hd6 := hd3.alloc (.cells #[.int .i64 1] 2)
      have hl : t.length ≤ 1000000 := by rw [← Hn.out]; omega
      clear hO2
      go_wp2_with (at_builtin; (refine wpList_drawRowT (v := .slice a n c) (g := g) (w0 := w) (B := w.heap.size) (L := w.heap.size) stable_ints slRepr_slice rfl _ _ 30 rfl Tryz.underlying30 Tryz.infoInts rfl HOc.out (some ⟨w2.heap.size, 0, none⟩, 1, 1) [1] hu (by simp) rfl hl hs2 (by simp) HV.out hd6 (Nat.le_refl _) (by simp; omega) ?_); intro v8 w8 hown8 hd8 hs8; have HX : Hid (Tab11D w v8 w8) := ⟨_, stable_rows.sub (OwnR.rows hown8) ⟨fun k hk => hk, fun h => by cases h⟩, by simp; rw [← Hn.out]; omega, fun x hx => by (rcases List.mem_append.1 hx with hx | hx; (have := HT3.out x hx; omega); (rw [List.mem_singleton.1 hx]; simp))⟩; have HD8 := Lib.hid hd8; obtain ⟨a8, n8, c8, rfl, -⟩ := OwnA.shape hown8; clear hown8 hd8)
      go_ret
      exact ⟨_, rfl, HX.out, HD8.out⟩
    · have b1 : (x == 1) = false := by simpa using e1
      by_cases e2 : x = 2
      · subst e2
        have hO2 : OwnR false w.heap.size IntsR 41 w.heap.size w2 (.slice a n c) t := OwnA.unown (OwnR.dr stable_ints HR.out hd2 hlt hlt)
        have HT3' : Hid (∀ x ∈ t, x.length ≤ 14) := fun x hx => by have := HT3.out x hx; omega
        go_wp2_with fail
        go_loopw [3] (fun s3 wr => ∃ t' : List (List Int), OwnR false w.heap.size IntsR 41 w.heap.size wr s3 t' ∧ 1 ≤ t'.length ∧ t'.length ≤ 11 ∧ (∀ x ∈ t', x.length ≤ 14) ∧ Dr g w wr) (fun s3 _ => 12 - drawLen s3)
        case atStart => exact ⟨t, hO2, by rw [← Hn.out]; omega, by rw [← Hn.out]; omega, HT3'.out, HD3.out⟩
        case round =>
          obtain ⟨t', ho, h1, h11, hx14, hd⟩ := hrel
          clear hO2
          obtain ⟨a5, n5, c5, rfl, hn5, -⟩ := OwnA.shape ho
          have HN5 := Lib.hid hn5
          rw [← hn5] at h1 h11
          clear hn5
          have hcall := l01Next_c _ g hd.src 2 (by unfold I64; omega)
          go_wp2_with fail
          refine Calls.mono hcall ?_
          rintro e w5 ⟨_, rfl, ⟨y, rfl, hy0, hy1⟩, hd7⟩
          clear hcall
          have ho7 := OwnR.dr stable_ints ho hd7 hlt hlt
          have hd8 := hd.trans hd7
          have hs5 : w.heap.size ≤ w5.heap.size := hd8.size
          have HX := Lib.hid hx14
          clear ho hd hd7 hx14
          by_cases hlt5 : (n5 : Int) < 10 + y
          · obtain ⟨gb, n', c', u0, Zn, he, hc0, hgb1, hgb2, hE, -, hZ⟩ := OwnA.first ho7 (by rw [← HN5.out]; omega)
            injection he with he1 he2 he3
            subst he1; subst he2; subst he3
            obtain ⟨ua, un, uc⟩ := u0
            rw [slV_mk] at hc0
            have HOw := Lib.hid (OwnR.alloc stable_ints ho7 (.cells #[.slice ua un uc] 41))
            have HO7 := Lib.hid ho7
            have HE := Lib.hid hE
            have HZ := Lib.hid hZ
            have hl : t'.length ≤ 1000000 := by rw [← HN5.out]; omega
            have h05 : 0 < n5 := by omega
            have h05i : (0 : Int) < (n5 : Int) := by omega
            have hn10 : n5 ≤ 10 := by omega
            have HL0 : Hid (∀ h : 0 < t'.length, t'[0].length ≤ 14) := fun h => HX.out _ (List.getElem_mem h)
            have hd8' := Lib.hid hd8
            clear ho7 hE hZ hd8
            go_wp2_with (at_builtin; (refine wpList_drawAlias (v := .slice (some ⟨gb, 0, none⟩) n5 c5) (g := g) (w0 := w) (B := w.heap.size) stable_ints rfl _ _ 30 rfl Tryz.underlying30 Tryz.infoInts rfl HO7.out (ua, un, uc) _ HE.out HZ.out rfl rfl hl hd8'.out (Nat.le_refl _) hs5 ?_); intro v8 w8 hown8 hd9 hs8; obtain ⟨a8, n8, c8, rfl, hn8, -⟩ := OwnA.shape hown8; have HN8 := Lib.hid hn8; clear hn8)
            go_wp2_with fail
            have hl8 := HN5.out
            have hm8 := HN8.out
            rw [List.length_append, List.length_singleton] at hm8
            exact ⟨⟨_, hown8, by simp, by simp; omega, fun x hx => by
              rcases List.mem_append.1 hx with hx | hx
              · exact HX.out x hx
              · rw [List.mem_singleton.1 hx]; exact HL0.out (by omega), hd9⟩, by simp only [drawLen]; omega⟩
          · have HF : Hid (Tab11D w (.slice a5 n5 c5) w5) := ⟨t', OwnR.reads ho7 (Nat.le_refl _), by rw [← HN5.out]; omega, HX.out⟩
            clear ho7
            go_wp2_with fail
            go_ret
            exact ⟨_, rfl, HF.out, hd8⟩
      · have b2 : (x == 2) = false := by simpa using e2
        by_cases e3 : x = 3
        · subst e3
          have hcall := l01Next_c _ g hd2.src 2 (by unfold I64; omega)
          go_wp2_with fail
          refine Calls.mono hcall ?_
          rintro e w5 ⟨_, rfl, ⟨y, rfl, hy0, hy1⟩, hd7⟩
          clear hcall
          have hd8 := hd3.trans hd7
          have hs5 : w.heap.size ≤ w5.heap.size := hd8.size
          obtain rfl | rfl : y = 0 ∨ y = 1 := by omega
          · have hmk : ∀ w', (Instr.makeSlice 41 (.int .i64 12) (.int .i64 12)).run Tryz.prog w' = .ok (.slice (some ⟨w'.heap.size, 0, none⟩) 12 12) (w'.alloc (.cells (madeCells #[.int .i64 0] 12) 2)) := make_small 12 (by decide)
            have HF := Lib.hid (made_one 12 (by decide) hd8)
            have HD := Lib.hid ((hd8.alloc (.cells (madeCells #[.int .i64 0] 12) 2)).alloc (.cells #[.slice (some ⟨w5.heap.size, 0, none⟩) 12 12] 41))
            generalize Obj.cells (madeCells #[.int .i64 0] 12) 2 = Z at *
            go_wp2_with fail
            go_ret
            exact ⟨_, rfl, HF.out, HD.out⟩
          · have hmk : ∀ w', (Instr.makeSlice 41 (.int .i64 13) (.int .i64 13)).run Tryz.prog w' = .ok (.slice (some ⟨w'.heap.size, 0, none⟩) 13 13) (w'.alloc (.cells (madeCells #[.int .i64 0] 13) 2)) := make_small 13 (by decide)
            have HF := Lib.hid (made_one 13 (by decide) hd8)
            have HD := Lib.hid ((hd8.alloc (.cells (madeCells #[.int .i64 0] 13) 2)).alloc (.cells #[.slice (some ⟨w5.heap.size, 0, none⟩) 13 13] 41))
            generalize Obj.cells (madeCells #[.int .i64 0] 13) 2 = Z at *
            go_wp2_with fail
            go_ret
            exact ⟨_, rfl, HF.out, HD.out⟩
        · have b3 : (x == 3) = false := by simpa using e3
          by_cases e4 : x = 4
          · subst e4
            go_wp2_with fail
            go_ret
            exact ⟨_, rfl, ⟨[], SliceR.nil _ _ _, by simp, by simp⟩, HD3.out⟩
          · have b4 : (x == 4) = false := by simpa using e4
            have HF := Lib.hid (HTD.out w2 hd2)
            go_wp2_with fail
            go_ret
            exact ⟨_, rfl, HF.out, HD3.out⟩
end Go.Proofs.YthgmojggpjnckaaGreat
