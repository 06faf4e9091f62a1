/- Proved: an argument that is a list of bytes. -/
import Derived.Test.YtegmognpofcfiaaGreatUPkL
namespace Go.Proofs.YtegmognpofcfiaaGreat
open Go.ChangeShapes Go.WideShapes Go.ChangeAt Go.RowKit
set_option linter.unusedVariables false
open Go.Deep

def ByteR : Repr Int := fun _ _ u x => u = .int .u8 x ∧ 0 ≤ x ∧ x ≤ 255
abbrev BytesR : Repr (List Int) := SliceR ByteR
theorem stable_byte : Stable ByteR := ⟨fun h _ => h, fun h _ => h⟩
theorem stable_bytes : Stable BytesR := stable_slice stable_byte

section
variable {H : Type} {enc : TypeId × Value → H} {P : Program} {w : World} {held : Bool}
theorem bytes_of_cells {z : Zone} {w : World} {A : Option Addr} {L C : Nat} {Z : List Int} (hlo : z.lo = 0) (hhi : z.hi = w.heap.size) (ho : z.own = false) (h1 : L ≤ C) (h2 : C ≤ maxLen) (h3 : Z.length = C) (hw : ∀ n ∈ Z, (Lit.int .u8 n).wf = true) (hn : A = none → C = 0)
    (hc : ∀ a', A = some a' → ∀ c, c < C → w.cell? (a'.add c) = some (.int .u8 (Z.getD c 0))) : BytesR z w (.slice A L C) (Z.take L) := by
  have hl : (Z.take L).length = L := by simp; omega
  refine ⟨A, C, by rw [hl], by omega, h2, fun h => ⟨by have := hn h; simp; right; exact List.eq_nil_of_length_eq_zero (by omega), hn h⟩, fun ad had hpos => ?_⟩
  rw [hl] at hpos
  have hcell : ∀ i, i < L → w.cell? ⟨ad.block, ad.off + i, none⟩ = some (.int .u8 (Z.getD i 0)) ∧ ad.spot = none := fun i hi => by
    have hx := hc ad had i (by omega)
    have hs := spot_of_cell (hc ad had 0 (by omega))
    rw [Addr.add_zero'] at hs
    obtain ⟨b, o, s⟩ := ad
    simp only at hs
    subst hs
    rw [Addr.add_lit] at hx
    exact ⟨hx, rfl⟩
  refine ⟨(hcell 0 hpos).2, ⟨by omega, ?_⟩, blk (hcell 0 hpos).1, (fun h => by rw [ho] at h; cases h), fun _ => z, fun _ _ => Zone.Sub.refl z, (fun h => by rw [ho] at h; cases h), fun i hi => ?_⟩
  · rw [hhi]; exact blk (hcell 0 hpos).1
  · rw [hl] at hi
    have hiz : i < Z.length := by omega
    refine ⟨_, (hcell i hi).1, ?_, ?_⟩
    · simp [hiz]
    · rw [List.getElem_take]; exact bounds_u8 (hw _ (List.getElem_mem hiz))
theorem open_BytesR {t e : TypeId} {fuel : Nat} {v : Value} {x : DataW H × List MemPlace} (ht : P.underlying t = some (.slice e)) (he : P.underlying e = some (.int .u8)) (ce : P.cellsOf e = 1)
    (h : DataW.trod enc P w 0 (fun _ => true) held fuel t [v] = some x) : ∃ xs, BytesR (.old w) w v xs := by
  rcases open_ints ht he ce h with ⟨hcs, -⟩ | ⟨a, len, cap, zs, hcs, -, hl, hm, hz, -, hcell, hwf⟩
  · simp at hcs; subst hcs
    exact ⟨[], SliceR.nil _ _ _⟩
  · simp at hcs; subst hcs
    simp only [if_true] at hz
    exact ⟨zs.take len, bytes_of_cells rfl rfl rfl hl hm hz hwf (fun h => by cases h) (fun a' ha c hc => by cases ha; exact hcell c (by omega))⟩
end
/-- a list of bytes: element i -/
theorem BytesR.shape {z w v xs} (h : BytesR z w v xs) : ∃ (a : Option Addr) (n cap : Nat), v = .slice a n cap ∧ n = xs.length ∧ n ≤ 9223372036854775807 ∧ n ≤ cap ∧ cap ≤ maxLen ∧ (a = none → n = 0 ∧ cap = 0) ∧
    ∀ i, i < n → ∃ b off x, a = some ⟨b, off, none⟩ ∧ b < w.heap.size ∧ w.cell? ⟨b, off + i, none⟩ = some (.int .u8 x) ∧ 0 ≤ x ∧ x ≤ 255 := by
  obtain ⟨a, n, cap, rfl, rfl, h1, h2, h3, h4, h5⟩ := SliceR.shape h
  refine ⟨a, _, cap, rfl, rfl, h1, h2, h3, h4, fun i hi => ?_⟩
  obtain ⟨b, off, rfl, _, hb, _, u, y, c1, _, _, rfl, c3⟩ := h5 i hi
  exact ⟨b, off, _, rfl, hb, c1, c3⟩
end Go.Proofs.YtegmognpofcfiaaGreat
