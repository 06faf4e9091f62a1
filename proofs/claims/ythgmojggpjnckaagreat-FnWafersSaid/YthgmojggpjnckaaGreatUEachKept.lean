/- Proved: the program's visit of all keys in order, by a visit that reads what was there. -/
import Derived.Test.YthgmojggpjnckaaGreatChecked
import Derived.Test.YthgmojggpjnckaaGreatUEachRun
namespace Go.Proofs.YthgmojggpjnckaaGreat
open Go.ChangeShapes Go.WideShapes Go.ChangeAt Go.RowKit
set_option linter.unusedVariables false

/-- what was there at w0, but for the blocks of F0, is there as it was -/
structure Kept (F0 : Nat → Prop) (w0 w : World) : Prop where
  size : w0.heap.size ≤ w.heap.size
  block : ∀ k, k < w0.heap.size → ¬ F0 k → w.heap[k]? = w0.heap[k]?
theorem Kept.refl (F0 : Nat → Prop) (w : World) : Kept F0 w w := ⟨Nat.le_refl _, fun _ _ _ => rfl⟩
theorem Kept.read {α : Type} {E : Repr α} (hE : Stable E) {F0 : Nat → Prop} {w0 w : World} {z : Zone} {v : Value} {x : α} (h : Kept F0 w0 w) (r : E z w0 v x) (hz : ∀ k, z.Has k → ¬ F0 k) : E z w v x := hE.keep r (fun k hk hl => h.block k hl (hz k hk))
theorem Kept.cell {F0 : Nat → Prop} {w0 w : World} (h : Kept F0 w0 w) {p : Addr} {u : Value} (hp : ¬ F0 p.block) (hc : w0.cell? p = some u) : w.cell? p = some u := (World.cell?_of_block (h.block p.block (World.block_lt_of_cell? _ _ hc) hp)).trans hc
theorem Kept.ext {F0 : Nat → Prop} {w0 w w' : World} (h : Kept F0 w0 w) (e : Ext w w') : Kept F0 w0 w' := ⟨Nat.le_trans h.size e.size, fun k hk hn => (Below.block e k (Nat.lt_of_lt_of_le hk h.size)).trans (h.block k hk hn)⟩
theorem Kept.back {F0 : Nat → Prop} {w0 w1 w : World} (h : Kept F0 w1 w) (e : Ext w0 w1) : Kept F0 w0 w := ⟨Nat.le_trans e.size h.size, fun k hk hn => (h.block k (Nat.lt_of_lt_of_le hk e.size) hn).trans (Below.block e k hk)⟩
/-- what a visit does that may read what was there -/
structure VisitK {σ : Type} (Fv : FuncId) (caps : Array Value) (w0 : World) (F0 : Nat → Prop) (Inv : (Nat → Prop) → σ → World → Prop) (step : σ → List Int → σ) (more : σ → List Int → Bool) (Ok : List Int → Prop) : Prop where
  goes : Goes Tryz.prog Fv
  keep : ∀ {F s w w'}, Inv F s w → (∀ k, F k → w'.heap[k]? = w.heap[k]?) → w.heap.size ≤ w'.heap.size → Inv F s w'
  fresh : ∀ {F s w}, Inv F s w → ∀ k, F k → k < w.heap.size
  call : ∀ {F s} (w : World) (v : Value) (z : Zone) (key : List Int), Inv F s w → (∀ k, F k → F0 k ∨ w0.heap.size ≤ k) → Kept F0 w0 w → IntsR z w v key → (∀ k, z.Has k → ¬ F k) → Ok key → Calls Tryz.prog Fv (#[v] ++ caps) w (fun e w' => e = .returned (.bool (more s key)) ∧ ∃ F', Inv F' (step s key) w' ∧ (∀ k, F' k → F k ∨ w.heap.size ≤ k) ∧ Frame F w w')
/-- .. its state with all that was there -/
def InvK {σ : Type} (Inv : (Nat → Prop) → σ → World → Prop) (w0 : World) (F0 : Nat → Prop) (G : Nat → Prop) (s : σ) (w : World) : Prop :=
  (∀ k, G k → k < w.heap.size) ∧ (∀ k, k < w0.heap.size → G k) ∧ Kept F0 w0 w ∧ ∃ F, Inv F s w ∧ (∀ k, F k → G k) ∧ ∀ k, F k → F0 k ∨ w0.heap.size ≤ k
theorem VisitK.ok {σ : Type} {Fv : FuncId} {caps : Array Value} {w0 : World} {F0 : Nat → Prop} {Inv : (Nat → Prop) → σ → World → Prop} {step : σ → List Int → σ} {more : σ → List Int → Bool} {Ok : List Int → Prop} (V : VisitK Fv caps w0 F0 Inv step more Ok) : VisitOk Fv caps (InvK Inv w0 F0) step more Ok where
  goes := V.goes
  keep := by
    rintro G s w w' ⟨h1, h2, h3, F, h4, h5, h6⟩ hb hs
    exact ⟨fun k hk => Nat.lt_of_lt_of_le (h1 k hk) hs, h2, ⟨Nat.le_trans h3.size hs, fun k hk hn => (hb k (h2 k hk)).trans (h3.block k hk hn)⟩, F, V.keep h4 (fun k hk => hb k (h5 k hk)) hs, h5, h6⟩
  fresh := fun h => h.1
  call := by
    rintro G s w v z key ⟨h1, h2, h3, F, h4, h5, h6⟩ hr hz hok
    refine (V.call w v z key h4 h6 h3 hr (fun k hk q => hz k hk (h5 k q)) hok).mono ?_
    rintro e w' ⟨rfl, F', i', g', f'⟩
    refine ⟨rfl, fun k => G k ∨ F' k, ⟨fun k hk => ?_, fun k hk => .inl (h2 k hk), ⟨Nat.le_trans h3.size f'.size, fun k hk hn => ?_⟩, F', i', fun k hk => .inr hk, fun k hk => ?_⟩, fun k hk => ?_, f'.mono (fun i hi _ => h5 i hi)⟩
    · rcases hk with hk | hk
      · exact Nat.lt_of_lt_of_le (h1 k hk) f'.size
      · exact V.fresh i' k hk
    · rw [f'.block k (Nat.lt_of_lt_of_le hk h3.size) (fun q => ?_)]
      · exact h3.block k hk hn
      · rcases h6 k q with q | q
        · exact hn q
        · omega
    · rcases g' k hk with q | q
      · exact h6 k q
      · exact .inr (Nat.le_trans h3.size q)
    · rcases hk with hk | hk
      · exact .inl hk
      · rcases g' k hk with q | q
        · exact .inl (h5 k q)
        · exact .inr q

theorem eachKeyK_c {σ : Type} {Fv : FuncId} {caps : Array Value} {Inv : (Nat → Prop) → σ → World → Prop} {step : σ → List Int → σ} {more : σ → List Int → Bool} {Ok : List Int → Prop} {w : World} {F0 : Nat → Prop} (V : VisitK Fv caps w F0 Inv step more Ok)
    (mk : MK) (ok : MkOk mk) (hOk : ∀ k ∈ allK mk, Ok k) (s : σ) (hI : Inv F0 s w) :
    Calls Tryz.prog 127 #[mk.v, .slice none 0 0, .nilFunc, .func (.func Fv) #[] caps] w (EachEnd Inv F0 w (visits step more s (allK mk)).1) := by
  refine (eachKey_c V.ok mk ok hOk (fun k => k < w.heap.size) s w ⟨fun k hk => hk, fun k hk => hk, Kept.refl _ _, F0, hI, V.fresh hI, fun k hk => .inl hk⟩).mono ?_
  rintro e w' ⟨rfl, G, ⟨g1, g2, g3, F', i', g4, g5⟩, g6, g7⟩
  exact ⟨rfl, F', i', g5, ⟨g7.os, g7.tape, g7.output, g7.size, fun k hk hn => g3.block k hk hn⟩⟩
theorem visits_filter {σ : Type} {step : σ → List Int → σ} {more : σ → List Int → Bool} {p : List Int → Bool} : ∀ (L : List (List Int)) (s : σ), visits (fun s k => if p k = true then step s k else s) (fun s k => !p k || more s k) s L = visits step more s (L.filter p)
  | [], s => rfl
  | k :: L, s => by
    have e1 : visits (fun s k => if p k = true then step s k else s) (fun s k => !p k || more s k) s (k :: L) = if (!p k || more s k) = true then visits (fun s k => if p k = true then step s k else s) (fun s k => !p k || more s k) (if p k = true then step s k else s) L else ((if p k = true then step s k else s), false) := rfl
    rw [e1]
    cases h : p k with
    | false =>
      rw [List.filter_cons_of_neg (by rw [h]; decide)]
      simp only [Bool.not_false, Bool.true_or, if_true, Bool.false_eq_true, if_false]
      exact visits_filter L s
    | true =>
      rw [List.filter_cons_of_pos h]
      have e2 : visits step more s (k :: L.filter p) = if more s k = true then visits step more (step s k) (L.filter p) else (step s k, false) := rfl
      rw [e2]
      simp only [Bool.not_true, Bool.false_or, if_true]
      cases hm : more s k with
      | true => simp only [if_true]; exact visits_filter L (step s k)
      | false => simp
end Go.Proofs.YthgmojggpjnckaaGreat
