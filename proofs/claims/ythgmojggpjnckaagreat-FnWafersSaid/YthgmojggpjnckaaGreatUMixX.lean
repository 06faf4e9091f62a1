/- Proved: rows of which some are done, and none of the others lies in a given block. -/
import Derived.Test.YthgmojggpjnckaaGreatUPkE
import Derived.Test.YthgmojggpjnckaaGreatUDropLaw
namespace Go.Proofs.YthgmojggpjnckaaGreat
open Go.ChangeShapes Go.WideShapes Go.ChangeAt Go.RowKit
set_option linter.unusedVariables false

theorem SliceR.convS {α β : Type} {E : Repr α} {F : Repr β} {z : Zone} {w : World} {v : Value} {xs : List α} {ys : List β} (h : SliceR E z w v xs) (hl : ys.length = xs.length) (hc : ∀ i (h : i < xs.length) (h' : i < ys.length) y u, y.Sub z → E y w u xs[i] → F y w u ys[i]) : SliceR F z w v ys := by
  obtain ⟨a, cap, rfl, h1, h2, h3, h4⟩ := h
  refine ⟨a, cap, by rw [hl], by omega, h2, fun e => ⟨List.eq_nil_of_length_eq_zero (by rw [hl, (h3 e).1]; rfl), (h3 e).2⟩, fun ad had hp => ?_⟩
  obtain ⟨k1, k2, k3, k4, Z, k5, k6, k7⟩ := h4 ad had (by omega)
  refine ⟨k1, k2, k3, fun ho i hi => k4 ho i (by omega), Z, fun i hi => k5 i (by omega), fun ho => ⟨fun i hi => (k6 ho).1 i (by omega), fun i j hij hj => (k6 ho).2 i j hij (by omega)⟩, fun i hi => ?_⟩
  obtain ⟨u, c1, c2⟩ := k7 i (by omega)
  exact ⟨u, c1, hc i (by omega) hi _ _ (k5 i (by omega)) c2⟩
def MixX (X : Nat) : Repr (Bool × List Int) := fun z w v p => (p.1 = true → IntsR z w v p.2) ∧ (p.1 = false → IntsO z w v p.2 ∧ v.ownBlock ≠ some X)
theorem stable_mixX (X : Nat) : Stable (MixX X) := ⟨fun h hs => ⟨fun e => stable_ints.keep (h.1 e) hs, fun e => ⟨stable_into.keep (h.2 e).1 hs, (h.2 e).2⟩⟩, fun h hs => ⟨fun e => stable_ints.sub (h.1 e) hs, fun e => ⟨stable_into.sub (h.2 e).1 hs, (h.2 e).2⟩⟩⟩
theorem mixX_start {f : Nat → List Int → List Int} {rows : List (List Int)} {z : Zone} {w : World} {v : Value} {X : Nat} (h : RowsO z w v rows) (hX : ¬ z.Has X) : SliceR (MixX X) z w v (mixL f rows 0) := by
  refine SliceR.convS h (mixL_len _ _ _) (fun i h1 h2 y u hs hu => ?_)
  have : (mixL f rows 0)[i] = (false, rows[i]) := by simp [mixL, h1]
  rw [this]
  exact ⟨fun e => (by cases e), fun _ => ⟨hu, fun e => hX (hs.1 _ (hu.2.2 _ e))⟩⟩
theorem mixX_end {f : Nat → List Int → List Int} {rows : List (List Int)} {z : Zone} {w : World} {v : Value} {X : Nat} (h : SliceR (MixX X) z w v (mixL f rows rows.length)) : RowsR z w v (mapI f rows rows.length) := by
  refine SliceR.conv h (by rw [mixL_len, mapI_len]) (fun i h1 h2 y u hu => ?_)
  have hi : i < rows.length := by rw [mixL_len] at h1; exact h1
  have e1 : (mixL f rows rows.length)[i] = (true, f i (rows.getD i [])) := by simp [mixL, hi]
  have e2 : (mapI f rows rows.length)[i] = f i (rows.getD i []) := by simp [mapI]
  rw [e1] at hu
  rw [e2]
  exact hu.1 rfl
/-- a nonempty row of the call's own lies in one block -/
theorem OwnP.inBlock {B : Nat} {w : World} {v : Value} {xs : List Int} (h : OwnP (Value.int .i64) 2 B w v xs) (hm : ∀ x ∈ xs, I64 x) (hp : 0 < xs.length) : ∃ g, v.ownBlock = some g ∧ g < w.heap.size ∧ IntsR ⟨g, g + 1, true⟩ w v xs := by
  obtain ⟨a, n, cap, rfl, hn, -, hel⟩ := h.shape
  obtain ⟨b, rfl, -, hlt, -⟩ := hel 0 hp
  exact ⟨b, rfl, hlt, IntsO.ints ⟨hm, h.raise (fun k _ => Nat.zero_le k), fun k hk => by injection hk with hk; subst hk; exact ⟨Nat.le_refl _, Nat.lt_succ_self _⟩⟩⟩
theorem setCell_size (w : World) (p : Addr) (u : Value) : (w.setCell p u).heap.size = w.heap.size := by simp only [World.setCell, Array.size_modify]
theorem grown_pack {wr W w8 : World} {own own8 : Option Nat} {B : Nat} (e : Ext wr W) (hg : W.grownBy w8 own) (h8 : ∀ k, own8 = some k → own = some k ∨ W.heap.size ≤ k) (hB : B ≤ wr.heap.size) (hr : ∀ k, own = some k → B ≤ k) :
    wr.heap.size ≤ w8.heap.size ∧ (∀ k, k < wr.heap.size → some k ≠ own → w8.heap[k]? = wr.heap[k]?) ∧ (∀ k, own8 = some k → own = some k ∨ wr.heap.size ≤ k) ∧ Below B wr w8 := by
  have h1 := e.size
  have h2 := hg.size
  refine ⟨by omega, fun k hk hn => (hg.block k (by omega) hn).trans (Below.block e k hk), fun k hk => ?_, Below.grown (Below.mono e hB) hg (by omega) hr⟩
  rcases h8 k hk with h | h
  · exact .inl h
  · exact .inr (by omega)
end Go.Proofs.YthgmojggpjnckaaGreat
