/- Proved: the program's visit of all keys in order. -/
import Derived.Test.YthgmojggpjnckaaGreatChecked
import Derived.Laws.EntriesVeiled
import Derived.Test.YthgmojggpjnckaaGreatUEachCut
namespace Go.Proofs.YthgmojggpjnckaaGreat
open Go.ChangeShapes Go.WideShapes Go.ChangeAt Go.RowKit
set_option linter.unusedVariables false

theorem cut_all {σ : Type} {Fv : FuncId} {caps : Array Value} {Inv : (Nat → Prop) → σ → World → Prop} {step : σ → List Int → σ} {more : σ → List Int → Bool} {Ok : List Int → Prop} (V : VisitOk Fv caps Inv step more Ok)
    (mk : MK) (ok : MkOk mk) {bk bm bv bf ba bc B : Nat} {X : Nat → Prop} (hbk : X bk) (hne : ∀ k, k = bm ∨ k = bv ∨ k = bf ∨ k = ba ∨ k = bc → X k ∧ k ≠ bk) : ∀ (r : Nat)
    (pre : List Int), pre.length + r = mk.c.toNat → begins mk pre = true → Small pre → (∀ k ∈ keysR mk mk.d.toNat r pre, Ok k) → ∀ (F : Nat → Prop) (s : σ) (w : World) (kv : Value), Inv F s w → Boxes w mk bk bm bv bf ba bc (.func (.func Fv) #[] caps) → KeyAt w bk X B kv pre → Apart3 F X kv → Room X B w →
      Calls Tryz.prog 159 #[.bool false, .pointer (some ⟨bk, 0, none⟩), .pointer (some ⟨bm, 0, none⟩), .pointer (some ⟨bv, 0, none⟩), .pointer (some ⟨bf, 0, none⟩), .pointer (some ⟨ba, 0, none⟩), .pointer (some ⟨bc, 0, none⟩)] w
        (CutEnd Inv F bk X B kv pre w (visits step more s (keysR mk mk.d.toNat r pre)))
  | 0, pre, hl, hb, hs, hOk, F, s, w, kv, hI, hB, hK, hA, hBw => cut_zero V mk ok hbk pre hl hb hOk F s w kv hI hB hK (Small.i64 hs) hA hBw
  | r + 1, pre, hl, hb, hs, hOk, F, s, w, kv, hI, hB, hK, hA, hBw => cut_succ V mk ok hbk hne r (cut_all V mk ok hbk hne r) pre hl hb hs hOk F s w kv hI hB hK hA hBw

/-- what a visit of all keys leaves -/
def EachEnd {σ : Type} (Inv : (Nat → Prop) → σ → World → Prop) (F : Nat → Prop) (w : World) (x : σ) (e : Ending) (w' : World) : Prop := e = .returned (.tuple #[]) ∧ ∃ F', Inv F' x w' ∧ (∀ k, F' k → F k ∨ w.heap.size ≤ k) ∧ Frame F w w'

set_option maxRecDepth 20000 in
set_option maxHeartbeats 2000000 in
theorem eachKey_c {σ : Type} {Fv : FuncId} {caps : Array Value} {Inv : (Nat → Prop) → σ → World → Prop} {step : σ → List Int → σ} {more : σ → List Int → Bool} {Ok : List Int → Prop} (V : VisitOk Fv caps Inv step more Ok)
    (mk : MK) (ok : MkOk mk) (hOk : ∀ k ∈ allK mk, Ok k) (F : Nat → Prop) (s : σ) (w : World) (hI : Inv F s w) :
    Calls Tryz.prog 127 #[mk.v, .slice none 0 0, .nilFunc, .func (.func Fv) #[] caps] w (EachEnd Inv F w (visits step more s (allK mk)).1) := by
  have hGo := Tryz.goesEachKey1
  unfold Goes at hGo
  have hnn := fun (w' : World) => run_neq_slice_nil_any (P := Tryz.prog) w' 41 2 none 0 0 0 0 Tryz.underlying41
  have hfr : ∀ k, F k → k < w.heap.size := V.fresh hI
  have HC := Lib.hid (fun (w' : World) (e : Ext w w') (sz : w'.heap.size = w.heap.size + 7) (hB : Boxes w' mk (w.heap.size + 5) w.heap.size (w.heap.size + 3) (w.heap.size + 1) (w.heap.size + 2) (w.heap.size + 6) (.func (.func Fv) #[] caps)) (hK : KeyAt w' (w.heap.size + 5) (fun k => w.heap.size ≤ k ∧ k < w.heap.size + 7 ∧ k ≠ w.heap.size + 4) w.heap.size (.slice (some ⟨w.heap.size + 4, 0, none⟩) 0 0) []) =>
    cut_all V mk ok (bk := w.heap.size + 5) (bm := w.heap.size) (bv := w.heap.size + 3) (bf := w.heap.size + 1) (ba := w.heap.size + 2) (bc := w.heap.size + 6) (B := w.heap.size) (X := fun k => w.heap.size ≤ k ∧ k < w.heap.size + 7 ∧ k ≠ w.heap.size + 4)
      (by show _ ∧ _; omega) (fun k hk => by show (_ ∧ _) ∧ _; omega) mk.c.toNat [] (by simp) (begins_nil (by have := ok.m1; omega)) (fun i hi => by simp at hi) hOk F s w' _ (V.keep hI (fun k hk => Below.block e k (hfr k hk)) e.size) hB hK ⟨fun k hk hx => by have := hfr k hk; omega, fun k hk he => by have := hfr k hk; injection he with he; simp only at he; omega⟩ ⟨by omega, fun k hk => by omega⟩)
  have HF := Lib.hid hfr
  clear hI hOk hfr
  unfold MK.v
  go_enter Tryz.func127, Tryz.ntmps127
  go_wp2_with fail
  generalize hw7 : World.alloc _ _ = w7
  have e7 : Ext w w7 := by rw [← hw7]; exact (((((((Ext.alloc _ _).trans (Ext.alloc _ _)).trans (Ext.alloc _ _)).trans (Ext.alloc _ _)).trans (Ext.alloc _ _)).trans (Ext.alloc _ _)).trans (Ext.alloc _ _))
  have s7 : w7.heap.size = w.heap.size + 7 := by rw [← hw7]; simp
  have hB7 : Boxes w7 mk (w.heap.size + 5) w.heap.size (w.heap.size + 3) (w.heap.size + 1) (w.heap.size + 2) (w.heap.size + 6) (.func (.func Fv) #[] caps) := by
    rw [← hw7]; clear hw7 e7 s7 HC
    refine ⟨⟨?_, ?_, ?_, ?_, ?_⟩, ?_, ?_, ?_, ?_⟩ <;> go_simp
  have hK7 : KeyAt w7 (w.heap.size + 5) (fun k => w.heap.size ≤ k ∧ k < w.heap.size + 7 ∧ k ≠ w.heap.size + 4) w.heap.size (.slice (some ⟨w.heap.size + 4, 0, none⟩) 0 0) [] := by
    rw [← hw7]; clear hw7 e7 s7 hB7 HC
    refine ⟨by go_simp, by go_simp, ?_, fun k hk hx => by injection hk with hk; simp only at hk; omega⟩
    refine OwnP.alloc (OwnP.alloc ?_ _) _
    have := OwnP.empty (f := Value.int .i64) (e := 2) (B := w.heap.size) (w := (((w.alloc (.cells #[.int .i64 mk.c, .int .i64 mk.d, .int .i64 mk.s, .int .i64 mk.m, .int .i64 mk.l] 25)).alloc (.cells #[.slice none 0 0] 41)).alloc (.cells #[.nilFunc] 140)).alloc (.cells #[.func (.func Fv) #[] caps] 123)) (by simp; omega)
    simp only [World.size_alloc] at this
    exact this
  clear hw7
  refine Calls.mono (HC.out w7 e7 s7 hB7 hK7) ?_
  intro e w8 h8
  obtain ⟨rfl, F8, kv8, hI8, -, -, hg8, -, hf8⟩ := h8
  have HR : Hid (EachEnd Inv F w (visits step more s (allK mk)).1 (.returned (.tuple #[])) w8) := by
    refine ⟨rfl, F8, hI8, fun k hk => (hg8 k hk).elim .inl (fun q => .inr (by omega)), ?_⟩
    exact Frame.trans (Frame.of_ext (F := F) e7) hf8 (fun i hi hlt => by
      rcases hi with q | q | q
      · exact q
      · omega
      · injection q with q; simp only at q; omega)
  go_wp2_with fail
  go_end0
  exact HR.out
end Go.Proofs.YthgmojggpjnckaaGreat
