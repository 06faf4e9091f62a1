/- Proved: a visit of keys in order, by what it does to a state. -/
import Derived.Test.YtkeikjedbfomnaaGreatDoorChecked
import Derived.Test.YtkeikjedbfomnaaGreatDoorUKeyEnum
import Derived.Test.YtkeikjedbfomnaaGreatDoorUPkE
namespace Go.Proofs.YtkeikjedbfomnaaGreatDoor
open Go.ChangeShapes Go.WideShapes Go.ChangeAt Go.RowKit
set_option linter.unusedVariables false

/-- visits in order until one says no -/
def visits {σ : Type} (step : σ → List Int → σ) (more : σ → List Int → Bool) : σ → List (List Int) → σ × Bool
  | s, [] => (s, true)
  | s, k :: ks => if more s k = true then visits step more (step s k) ks else (step s k, false)
theorem visits_nil {σ : Type} {step : σ → List Int → σ} {more : σ → List Int → Bool} (s : σ) : visits step more s [] = (s, true) := rfl
theorem visits_one {σ : Type} {step : σ → List Int → σ} {more : σ → List Int → Bool} (s : σ) (k : List Int) : visits step more s [k] = (step s k, more s k) := by
  unfold visits; cases h : more s k <;> simp [visits]
theorem visits_app {σ : Type} {step : σ → List Int → σ} {more : σ → List Int → Bool} : ∀ (A B : List (List Int)) (s : σ), visits step more s (A ++ B) = if (visits step more s A).2 = true then visits step more (visits step more s A).1 B else visits step more s A
  | [], B, s => by simp [visits]
  | k :: A, B, s => by
    have e1 : visits step more s (k :: A ++ B) = if more s k = true then visits step more (step s k) (A ++ B) else (step s k, false) := rfl
    have e2 : visits step more s (k :: A) = if more s k = true then visits step more (step s k) A else (step s k, false) := rfl
    rw [e1, e2]
    cases h : more s k with
    | true => simp only [if_true]; exact visits_app A B (step s k)
    | false => simp
/-- nothing but the blocks of F and new memory has turned -/
structure Frame (F : Nat → Prop) (w w' : World) : Prop where
  os : w'.os = w.os
  tape : w'.tape = w.tape
  output : w'.output = w.output
  size : w.heap.size ≤ w'.heap.size
  block : ∀ k, k < w.heap.size → ¬ F k → w'.heap[k]? = w.heap[k]?
theorem Frame.refl (F : Nat → Prop) (w : World) : Frame F w w := ⟨rfl, rfl, rfl, Nat.le_refl _, fun _ _ _ => rfl⟩
theorem Frame.trans {F G : Nat → Prop} {a b c : World} (h : Frame F a b) (k : Frame G b c) (hG : ∀ i, G i → i < a.heap.size → F i) : Frame F a c :=
  ⟨k.os.trans h.os, k.tape.trans h.tape, k.output.trans h.output, Nat.le_trans h.size k.size, fun i hi hn => (k.block i (Nat.lt_of_lt_of_le hi h.size) (fun hg => hn (hG i hg hi))).trans (h.block i hi hn)⟩
theorem Frame.mono {F G : Nat → Prop} {a b : World} (h : Frame F a b) (hG : ∀ i, F i → i < a.heap.size → G i) : Frame G a b := ⟨h.os, h.tape, h.output, h.size, fun i hi hn => h.block i hi (fun hf => hn (hG i hf hi))⟩
theorem Frame.of_ext {F : Nat → Prop} {a b : World} (h : Ext a b) : Frame F a b := ⟨h.os, h.tape, h.output, h.size, fun i hi _ => Below.block h i hi⟩
theorem Frame.below {F : Nat → Prop} {a b : World} (h : Frame F a b) {B : Nat} (hB : ∀ k, F k → B ≤ k) (hl : B ≤ a.heap.size) : Below B a b := ⟨h.os, h.tape, h.output, h.size, fun k hk => h.block k (by omega) (fun hf => by have := hB k hf; omega)⟩
theorem Frame.cell {F : Nat → Prop} {a b : World} (h : Frame F a b) {p : Addr} {u : Value} (hp : ¬ F p.block) (hc : a.cell? p = some u) : b.cell? p = some u := (World.cell?_of_block (h.block p.block (World.block_lt_of_cell? _ _ hc) hp)).trans hc
theorem Frame.keep {F : Nat → Prop} {a b : World} (h : Frame F a b) {z : Zone} (hz : ∀ k, z.Has k → ¬ F k) : Same z a b := fun k hk hl => h.block k hl (hz k hk)
/-- what a visit does: a state whose invariant hangs on the blocks F alone -/
structure VisitOk {σ : Type} (Fv : FuncId) (caps : Array Value) (Inv : (Nat → Prop) → σ → World → Prop) (step : σ → List Int → σ) (more : σ → List Int → Bool) (Ok : List Int → Prop) : Prop where
  goes : Goes Tryz.prog Fv
  keep : ∀ {F s w w'}, Inv F s w → (∀ k, F k → w'.heap[k]? = w.heap[k]?) → w.heap.size ≤ w'.heap.size → Inv F s w'
  fresh : ∀ {F s w}, Inv F s w → ∀ k, F k → k < w.heap.size
  call : ∀ {F s} (w : World) (v : Value) (z : Zone) (key : List Int), Inv F s w → IntsR z w v key → (∀ k, z.Has k → ¬ F k) → Ok key → Calls Tryz.prog Fv (#[v] ++ caps) w (fun e w' => e = .returned (.bool (more s key)) ∧ ∃ F', Inv F' (step s key) w' ∧ (∀ k, F' k → F k ∨ w.heap.size ≤ k) ∧ Frame F w w')
end Go.Proofs.YtkeikjedbfomnaaGreatDoor
