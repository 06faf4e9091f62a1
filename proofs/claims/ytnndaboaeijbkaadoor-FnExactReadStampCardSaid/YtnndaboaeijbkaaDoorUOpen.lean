/- Proved: an argument that can be read as data is a list, a list of lists, a struct of these. -/
import Derived.Deep.Matrix
import Derived.Lib.SmallJoins
import Derived.ShutString
import Derived.ChangeOld
import Derived.Below
import Derived.Test.YtnndaboaeijbkaaDoorUBase
namespace Go.Proofs.YtnndaboaeijbkaaDoor
open Go.ChangeShapes Go.WideShapes Go.ChangeAt Go.RowKit
set_option linter.unusedVariables false
open Go.Deep

section
variable {H : Type} {enc : TypeId × Value → H} {P : Program} {w : World} {held : Bool}

theorem wf_i64 {x : Int} (h : (Lit.int .i64 x).wf = true) : I64 x := bounds_i64 h

theorem spot_of_cell {w : World} {a : Addr} {u : Value} (h : w.cell? a = some u) : a.spot = none := by
  unfold World.cell? at h
  split at h
  · cases hs : a.spot with
    | none => rfl
    | some _ => simp [hs] at h
  · simp at h

theorem blk {w : World} {b o : Nat} {u : Value} (h : w.cell? ⟨b, o, none⟩ = some u) : b < w.heap.size := World.block_lt_of_cell? w _ h

/-- cells that hold integers: a list -/
theorem ints_of_cells {z : Zone} {w : World} {A : Option Addr} {L C : Nat} {Z : List Int} (hlo : z.lo = 0) (hhi : z.hi = w.heap.size) (ho : z.own = false) (h1 : L ≤ C) (h2 : C ≤ maxLen) (h3 : Z.length = C) (hw : ∀ n ∈ Z, (Lit.int .i64 n).wf = true) (hn : A = none → C = 0)
    (hc : ∀ a', A = some a' → ∀ c, c < C → w.cell? (a'.add c) = some (.int .i64 (Z.getD c 0))) : IntsR z w (.slice A L C) (Z.take L) := by
  have hl : (Z.take L).length = L := by simp; omega
  refine ⟨A, C, by rw [hl], by omega, h2, fun h => ⟨by have := hn h; simp; right; exact List.eq_nil_of_length_eq_zero (by omega), hn h⟩, fun ad had hpos => ?_⟩
  rw [hl] at hpos
  have hcell : ∀ i, i < L → w.cell? ⟨ad.block, ad.off + i, none⟩ = some (.int .i64 (Z.getD i 0)) ∧ ad.spot = none := fun i hi => by
    have hx := hc ad had i (by omega)
    have hs := spot_of_cell (hc ad had 0 (by omega))
    rw [Addr.add_zero'] at hs
    obtain ⟨b, o, s⟩ := ad
    simp only at hs
    subst hs
    rw [Addr.add_lit] at hx
    exact ⟨hx, rfl⟩
  refine ⟨(hcell 0 hpos).2, ⟨by omega, ?_⟩, blk (hcell 0 hpos).1, (fun h => by rw [ho] at h; cases h), fun _ => z, fun _ _ => Zone.Sub.refl z, (fun h => by rw [ho] at h; cases h), fun i hi => ?_⟩
  · rw [hhi]; exact blk (hcell 0 hpos).1
  · rw [hl] at hi
    have hiz : i < Z.length := by omega
    refine ⟨_, (hcell i hi).1, ?_, ?_⟩
    · simp [hiz]
    · rw [List.getElem_take]; exact wf_i64 (hw _ (List.getElem_mem hiz))

theorem open_IntsR {t e : TypeId} {fuel : Nat} {v : Value} {x : DataW H × List MemPlace} (ht : P.underlying t = some (.slice e)) (he : P.underlying e = some (.int .i64)) (ce : P.cellsOf e = 1)
    (h : DataW.trod enc P w 0 (fun _ => true) held fuel t [v] = some x) : ∃ xs, IntsR (.old w) w v xs := by
  rcases open_ints ht he ce h with ⟨hcs, -⟩ | ⟨a, len, cap, zs, hcs, -, hl, hm, hz, -, hcell, hwf⟩
  · simp at hcs; subst hcs
    exact ⟨[], SliceR.nil _ _ _⟩
  · simp at hcs; subst hcs
    simp only [if_true] at hz
    exact ⟨zs.take len, ints_of_cells rfl rfl rfl hl hm hz hwf (fun h => by cases h) (fun a' ha c hc => by cases ha; exact hcell c (by omega))⟩

theorem open_RowsR {t e q : TypeId} {fuel : Nat} {v : Value} {x : DataW H × List MemPlace} (ht : P.underlying t = some (.slice e)) (he : P.underlying e = some (.slice q)) (hq : P.underlying q = some (.int .i64)) (ce : P.cellsOf e = 1) (cq : P.cellsOf q = 1)
    (h : DataW.trod enc P w 0 (fun _ => true) held fuel t [v] = some x) : ∃ xs, RowsR (.old w) w v xs := by
  rcases open_int_rows ht he hq ce cq h with ⟨hcs, -⟩ | ⟨a, len, cap, A, L, C, Z, hcs, -, hl, hm, -, hx⟩
  · simp at hcs; subst hcs
    exact ⟨[], SliceR.nil _ _ _⟩
  · simp at hcs; subst hcs
    refine ⟨(List.range len).map fun r => (Z r).take (L r), some a, cap, by simp, by simpa using hl, hm, (fun h => by cases h), fun ad had hpos => ?_⟩
    cases had
    simp only [List.length_map, List.length_range] at hpos ⊢
    have hcell : ∀ i, i < len → w.cell? ⟨a.block, a.off + i, none⟩ = some (.slice (A i) (L i) (C i)) ∧ a.spot = none := fun i hi => by
      have hs := spot_of_cell (hx 0 (by omega)).1
      have hx := (hx i (by omega)).1
      rw [Addr.add_zero'] at hs
      obtain ⟨b, o, s⟩ := a
      simp only at hs
      subst hs
      rw [Addr.add_lit] at hx
      exact ⟨hx, rfl⟩
    refine ⟨(hcell 0 hpos).2, ⟨Nat.zero_le _, blk (hcell 0 hpos).1⟩, blk (hcell 0 hpos).1, (fun h => by cases h), fun _ => .old w, fun _ _ => Zone.Sub.refl _, (fun h => by cases h), fun i hi => ?_⟩
    obtain ⟨h1, h2, h3, h4, h5, h6, h7⟩ := hx i (by omega)
    refine ⟨_, (hcell i hi).1, ?_⟩
    rw [List.getElem_map, List.getElem_range]
    exact ints_of_cells rfl rfl rfl h2 h3 h4 h5 h6 (fun a' ha c hc => (h7 a' ha).2 c hc)

theorem open_I64 {t : TypeId} {fuel : Nat} {v : Value} {x : DataW H × List MemPlace} (ht : P.underlying t = some (.int .i64))
    (h : DataW.trod enc P w 0 (fun _ => true) held fuel t [v] = some x) : ∃ n, v = .int .i64 n ∧ I64 n := by
  obtain ⟨n, h1, -, h3⟩ := DataW.trod_int ht h
  simp at h1
  exact ⟨n, h1, wf_i64 h3⟩

end
end Go.Proofs.YtnndaboaeijbkaaDoor
