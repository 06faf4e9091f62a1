/- Proved: an argument that can be read as data is a list, a list of lists, a struct of these; an argument that can be read as data is a system; the laws' own helpers for a list of integers (size, copy, equality, mark, held) do what their names say; the laws' own helpers for a list of lists of integers (size, copy, equality, mark, held) do what their names say; how many places a list of short lists has; the laws' own helpers that mark a list of integers and look whether it is marked; the laws' own helpers that mark a list of lists of integers and look whether it is marked; the laws' own helpers for a system (size, copy, equality, marks) do what their names say. -/
import Derived.Test.YthgmojggpjnckaaGreatChecked
import Derived.Deep.Matrix
import Derived.Lib.SmallJoins
import Derived.ShutString
import Derived.ChangeOld
import Derived.Below
import Derived.Test.YthgmojggpjnckaaGreatUPkA
import Derived.Test.YthgmojggpjnckaaGreatUPkB
namespace Go.Proofs.YthgmojggpjnckaaGreat
open Go.ChangeShapes Go.WideShapes Go.ChangeAt Go.RowKit
set_option linter.unusedVariables false
open Go.Deep

section
variable {H : Type} {enc : TypeId × Value → H} {P : Program} {w : World} {held : Bool}

theorem wf_i64 {x : Int} (h : (Lit.int .i64 x).wf = true) : I64 x := bounds_i64 h

theorem spot_of_cell {w : World} {a : Addr} {u : Value} (h : w.cell? a = some u) : a.spot = none := by
  unfold World.cell? at h
  split at h
  · cases hs : a.spot with
    | none => rfl
    | some _ => simp [hs] at h
  · simp at h

theorem blk {w : World} {b o : Nat} {u : Value} (h : w.cell? ⟨b, o, none⟩ = some u) : b < w.heap.size := World.block_lt_of_cell? w _ h

/-- cells that hold integers: a list -/
theorem ints_of_cells {z : Zone} {w : World} {A : Option Addr} {L C : Nat} {Z : List Int} (hlo : z.lo = 0) (hhi : z.hi = w.heap.size) (ho : z.own = false) (h1 : L ≤ C) (h2 : C ≤ maxLen) (h3 : Z.length = C) (hw : ∀ n ∈ Z, (Lit.int .i64 n).wf = true) (hn : A = none → C = 0)
    (hc : ∀ a', A = some a' → ∀ c, c < C → w.cell? (a'.add c) = some (.int .i64 (Z.getD c 0))) : IntsR z w (.slice A L C) (Z.take L) := by
  have hl : (Z.take L).length = L := by simp; omega
  refine ⟨A, C, by rw [hl], by omega, h2, fun h => ⟨by have := hn h; simp; right; exact List.eq_nil_of_length_eq_zero (by omega), hn h⟩, fun ad had hpos => ?_⟩
  rw [hl] at hpos
  have hcell : ∀ i, i < L → w.cell? ⟨ad.block, ad.off + i, none⟩ = some (.int .i64 (Z.getD i 0)) ∧ ad.spot = none := fun i hi => by
    have hx := hc ad had i (by omega)
    have hs := spot_of_cell (hc ad had 0 (by omega))
    rw [Addr.add_zero'] at hs
    obtain ⟨b, o, s⟩ := ad
    simp only at hs
    subst hs
    rw [Addr.add_lit] at hx
    exact ⟨hx, rfl⟩
  refine ⟨(hcell 0 hpos).2, ⟨by omega, ?_⟩, blk (hcell 0 hpos).1, (fun h => by rw [ho] at h; cases h), fun _ => z, fun _ _ => Zone.Sub.refl z, (fun h => by rw [ho] at h; cases h), fun i hi => ?_⟩
  · rw [hhi]; exact blk (hcell 0 hpos).1
  · rw [hl] at hi
    have hiz : i < Z.length := by omega
    refine ⟨_, (hcell i hi).1, ?_, ?_⟩
    · simp [hiz]
    · rw [List.getElem_take]; exact wf_i64 (hw _ (List.getElem_mem hiz))

theorem open_IntsR {t e : TypeId} {fuel : Nat} {v : Value} {x : DataW H × List MemPlace} (ht : P.underlying t = some (.slice e)) (he : P.underlying e = some (.int .i64)) (ce : P.cellsOf e = 1)
    (h : DataW.trod enc P w 0 (fun _ => true) held fuel t [v] = some x) : ∃ xs, IntsR (.old w) w v xs := by
  rcases open_ints ht he ce h with ⟨hcs, -⟩ | ⟨a, len, cap, zs, hcs, -, hl, hm, hz, -, hcell, hwf⟩
  · simp at hcs; subst hcs
    exact ⟨[], SliceR.nil _ _ _⟩
  · simp at hcs; subst hcs
    simp only [if_true] at hz
    exact ⟨zs.take len, ints_of_cells rfl rfl rfl hl hm hz hwf (fun h => by cases h) (fun a' ha c hc => by cases ha; exact hcell c (by omega))⟩

theorem open_RowsR {t e q : TypeId} {fuel : Nat} {v : Value} {x : DataW H × List MemPlace} (ht : P.underlying t = some (.slice e)) (he : P.underlying e = some (.slice q)) (hq : P.underlying q = some (.int .i64)) (ce : P.cellsOf e = 1) (cq : P.cellsOf q = 1)
    (h : DataW.trod enc P w 0 (fun _ => true) held fuel t [v] = some x) : ∃ xs, RowsR (.old w) w v xs := by
  rcases open_int_rows ht he hq ce cq h with ⟨hcs, -⟩ | ⟨a, len, cap, A, L, C, Z, hcs, -, hl, hm, -, hx⟩
  · simp at hcs; subst hcs
    exact ⟨[], SliceR.nil _ _ _⟩
  · simp at hcs; subst hcs
    refine ⟨(List.range len).map fun r => (Z r).take (L r), some a, cap, by simp, by simpa using hl, hm, (fun h => by cases h), fun ad had hpos => ?_⟩
    cases had
    simp only [List.length_map, List.length_range] at hpos ⊢
    have hcell : ∀ i, i < len → w.cell? ⟨a.block, a.off + i, none⟩ = some (.slice (A i) (L i) (C i)) ∧ a.spot = none := fun i hi => by
      have hs := spot_of_cell (hx 0 (by omega)).1
      have hx := (hx i (by omega)).1
      rw [Addr.add_zero'] at hs
      obtain ⟨b, o, s⟩ := a
      simp only at hs
      subst hs
      rw [Addr.add_lit] at hx
      exact ⟨hx, rfl⟩
    refine ⟨(hcell 0 hpos).2, ⟨Nat.zero_le _, blk (hcell 0 hpos).1⟩, blk (hcell 0 hpos).1, (fun h => by cases h), fun _ => .old w, fun _ _ => Zone.Sub.refl _, (fun h => by cases h), fun i hi => ?_⟩
    obtain ⟨h1, h2, h3, h4, h5, h6, h7⟩ := hx i (by omega)
    refine ⟨_, (hcell i hi).1, ?_⟩
    rw [List.getElem_map, List.getElem_range]
    exact ints_of_cells rfl rfl rfl h2 h3 h4 h5 h6 (fun a' ha c hc => (h7 a' ha).2 c hc)

theorem open_I64 {t : TypeId} {fuel : Nat} {v : Value} {x : DataW H × List MemPlace} (ht : P.underlying t = some (.int .i64))
    (h : DataW.trod enc P w 0 (fun _ => true) held fuel t [v] = some x) : ∃ n, v = .int .i64 n ∧ I64 n := by
  obtain ⟨n, h1, -, h3⟩ := DataW.trod_int ht h
  simp at h1
  exact ⟨n, h1, wf_i64 h3⟩

end

open Go.ChangeShapes Go.WideShapes Go.ChangeAt Go.RowKit
set_option linter.unusedVariables false
open Go.Deep

section
variable {H : Type} {enc : TypeId × Value → H} {P : Program} {w : World} {held : Bool}
theorem array6 {α : Type} {cs : Array α} (h : cs.size = 6) : ∃ c0 c1 c2 c3 c4 c5, cs = #[c0, c1, c2, c3, c4, c5] := by
  obtain ⟨l⟩ := cs
  match l, h with
  | [c0, c1, c2, c3, c4, c5], _ => exact ⟨c0, c1, c2, c3, c4, c5, rfl⟩
/-- a field of one cell that holds an integer -/
def IntField (P : Program) (g : Field) (i : Nat) : Prop := g.offset = i ∧ P.cellsOf g.type = 1 ∧ P.underlying g.type = some (.int .i64)
theorem open_sys {r : Reach} {b0 : Nat} {t : TypeId} {f0 f1 g0 g1 g2 g3 g4 : Field} {v : Value} {d : DataW H} {p : List MemPlace} (hs : P.underlying t = some (.struct #[f0, f1])) (hg : P.underlying f0.type = some (.struct #[g0, g1, g2, g3, g4]))
    (hC : P.cellsOf t = 6) (hC0 : P.cellsOf f0.type = 5) (hC1 : P.cellsOf f1.type = 1) (ho0 : f0.offset = 0) (ho1 : f1.offset = 5)
    (i0 : IntField P g0 0) (i1 : IntField P g1 1) (i2 : IntField P g2 2) (i3 : IntField P g3 3) (i4 : IntField P g4 4)
    (hv : Value.okWide P w r b0 t v) (h : DataW.Trod enc P w 0 (fun _ => true) held t v d p) :
    ∃ (mk : MK) (u : Value) (y : DataW H × List MemPlace) (n : Nat), v = sysV mk u ∧ mk.wide ∧ DataW.trod enc P w 0 (fun _ => true) held n f1.type [u] = some y := by
  obtain ⟨cs, rfl, hsz⟩ := okWide_struct hs hv
  obtain ⟨c0, c1, c2, c3, c4, c5, rfl⟩ := array6 (hsz.trans hC)
  obtain ⟨fuel, hf⟩ := h
  obtain ⟨xs, n, -, -, -, hxl, hx⟩ := DataW.trod_struct hs hf
  have h0 := hx 0 f0 rfl
  have h1 := hx 1 f1 rfl
  rw [ho0, hC0] at h0
  rw [ho1, hC1] at h1
  match xs, hxl with
  | [y0, y1], _ =>
    simp only [Value.cells, List.getElem?_cons_zero, List.getElem?_cons_succ, List.drop_zero, List.take_succ_cons, List.take_zero, List.drop_succ_cons] at h0 h1
    obtain ⟨zs, m, -, -, -, hzl, hz⟩ := DataW.trod_struct hg h0
    have q0 := hz 0 g0 rfl
    have q1 := hz 1 g1 rfl
    have q2 := hz 2 g2 rfl
    have q3 := hz 3 g3 rfl
    have q4 := hz 4 g4 rfl
    rw [i0.1, i0.2.1] at q0
    rw [i1.1, i1.2.1] at q1
    rw [i2.1, i2.2.1] at q2
    rw [i3.1, i3.2.1] at q3
    rw [i4.1, i4.2.1] at q4
    match zs, hzl with
    | [z0, z1, z2, z3, z4], _ =>
      simp only [List.getElem?_cons_zero, List.getElem?_cons_succ, List.drop_zero, List.take_succ_cons, List.take_zero, List.drop_succ_cons] at q0 q1 q2 q3 q4
      obtain ⟨a0, rfl, w0⟩ := open_I64 i0.2.2 q0
      obtain ⟨a1, rfl, w1⟩ := open_I64 i1.2.2 q1
      obtain ⟨a2, rfl, w2⟩ := open_I64 i2.2.2 q2
      obtain ⟨a3, rfl, w3⟩ := open_I64 i3.2.2 q3
      obtain ⟨a4, rfl, w4⟩ := open_I64 i4.2.2 q4
      exact ⟨⟨a0, a1, a2, a3, a4⟩, c5, y1, n, rfl, ⟨w0, w1, w2, w3, w4⟩, by simpa using h1⟩
end

open Go.ChangeShapes Go.WideShapes Go.ChangeAt Go.RowKit
set_option linter.unusedVariables false


theorem take_set {α : Type} (xs : List α) (d : α) (k len : Nat) (hk : k < len) (hl : len = xs.length) (x : α) (hx : xs[k]? = some x) :
    (xs.take k ++ List.replicate (len - k) d).set k x = xs.take (k+1) ++ List.replicate (len - (k+1)) d := by
  rw [List.take_add_one, hx]
  obtain ⟨m, hm⟩ : ∃ m, len - k = m + 1 := ⟨len - k - 1, by omega⟩
  rw [hm, show len - (k+1) = m by omega, List.set_append_right _ _ (by simp; omega)]
  simp [show min k xs.length = k by omega, List.replicate_succ]

theorem getElem?_of_getD {xs : List Int} {k : Nat} (h : k < xs.length) {x : Int} (hx : xs.getD k 0 = x) : xs[k]? = some x := by
  subst hx; simp [h]

/-- lists are equal, told element by element -/
theorem ints_ne {xs ys : List Int} (k : Nat) (h1 : k < xs.length) (h2 : k < ys.length) (h : xs.getD k 0 ≠ ys.getD k 0) : decide (xs = ys) = false := by
  rw [decide_eq_false_iff_not]; rintro rfl; exact h rfl
theorem ints_eq {xs ys : List Int} (hl : xs.length = ys.length) (h : ∀ k, k < xs.length → xs.getD k 0 = ys.getD k 0) : decide (xs = ys) = true := by
  rw [decide_eq_true_iff]
  apply List.ext_getElem hl
  intro i h1 h2
  have := h i h1
  simpa [h1, h2] using this

/-! ### sizes -/
def szLeft (l : Int) (b : Nat) : Int := if l < b then -1 else l - b
theorem szLeft_neg {l : Int} {b : Nat} (h : l < b) : szLeft l b = -1 := by unfold szLeft; rw [if_pos h]
theorem szLeft_pos {l : Int} {b : Nat} (h : ¬ l < b) : szLeft l b = l - b := by unfold szLeft; rw [if_neg h]

open Go.ChangeShapes Go.WideShapes Go.ChangeAt Go.RowKit
set_option linter.unusedVariables false


/-- how many values: one for each row, one for each element -/
def bulk (xss : List (List Int)) : Nat := xss.length + (xss.map List.length).sum
theorem bulk_mem {xss : List (List Int)} {xs : List Int} (h : xs ∈ xss) : xs.length ≤ bulk xss := by
  unfold bulk
  have : xs.length ≤ (xss.map List.length).sum := by
    induction xss with
    | nil => cases h
    | cons a l ih =>
      simp only [List.map_cons, List.sum_cons]
      rcases List.mem_cons.1 h with rfl | h
      · omega
      · have := ih h; omega
  omega
def offs (xss : List (List Int)) (k : Nat) : Nat := ((xss.take k).map List.length).sum
theorem offs_succ {xss : List (List Int)} {k : Nat} (h : k < xss.length) : offs xss (k+1) = offs xss k + (xss[k]).length := by
  unfold offs
  rw [List.take_add_one, List.getElem?_eq_getElem h, List.map_append, List.sum_append]
  simp
theorem offs_le (xss : List (List Int)) : ∀ k, offs xss k ≤ offs xss xss.length := by
  intro k
  unfold offs
  rw [List.take_length]
  induction xss generalizing k with
  | nil => simp
  | cons a l ih => cases k with
    | zero => simp
    | succ k => have := ih k; simp only [List.take_succ_cons, List.map_cons, List.sum_cons]; omega
theorem offs_all (xss : List (List Int)) : xss.length + offs xss xss.length = bulk xss := by unfold offs bulk; rw [List.take_length]

open Go.ChangeShapes Go.WideShapes Go.ChangeAt Go.RowKit
set_option linter.unusedVariables false

theorem offs_bound {xss : List (List Int)} {m : Nat} (h : ∀ r ∈ xss, r.length ≤ m) : offs xss xss.length ≤ xss.length * m := by
  unfold offs
  rw [List.take_length]
  induction xss with
  | nil => simp
  | cons a l ih =>
    rw [List.map_cons, List.sum_cons, List.length_cons, Nat.succ_mul]
    have h1 := h a (List.mem_cons_self ..)
    have h2 := ih (fun r hr => h r (List.mem_cons_of_mem _ hr))
    omega
theorem offs_small {xss : List (List Int)} (m : Nat) (h : ∀ r ∈ xss, r.length ≤ m) (hl : xss.length ≤ 1000) (hm : m ≤ 1000) : (offs xss xss.length : Int) ≤ 1048576 := by
  have h1 := offs_bound h
  have h2 : xss.length * m ≤ 1000 * 1000 := Nat.mul_le_mul hl hm
  omega
theorem offs_nil : (offs [] ([] : List (List Int)).length : Int) ≤ 1048576 := by decide

open Go.ChangeShapes Go.WideShapes Go.ChangeAt Go.RowKit
set_option linter.unusedVariables false

/-! ### marks -/
def marks (k : Int) (n : Nat) : List Int := (List.range n).map fun (i : Nat) => k + (i : Int)
theorem marks_length (k : Int) (n : Nat) : (marks k n).length = n := by simp [marks]
theorem marks_get (k : Int) (n i : Nat) (h : i < n) : (marks k n)[i]? = some (k + i) := by simp [marks, h]
theorem marks_set (k : Int) (xs : List Int) (i : Nat) (h : i < xs.length) : (marks k i ++ xs.drop i).set i (k + i) = marks k (i+1) ++ xs.drop (i+1) := by
  rw [List.set_append_right _ _ (by simp [marks]), marks_length, Nat.sub_self]
  rw [List.drop_eq_getElem_cons h, List.set_cons_zero]
  simp [marks, List.range_succ]
/-- what markInt64S leaves -/
def MarkPost (w : World) (z : Zone) (v : Value) (k : Int) (n : Nat) (e : Ending) (w' : World) : Prop := e = .returned (.int .i64 (k + n)) ∧ IntsR z w' v (marks k n) ∧ Within z w w'

open Go.ChangeShapes Go.WideShapes Go.ChangeAt Go.RowKit
set_option linter.unusedVariables false

/-! ### marks -/
/-- each row marked in turn -/
def markRows (k : Int) (xss : List (List Int)) : List (List Int) := (List.range xss.length).map fun i => marks (k + (offs xss i : Int)) (xss.getD i []).length
theorem markRows_length (k : Int) (xss : List (List Int)) : (markRows k xss).length = xss.length := by simp [markRows]
theorem markRows_get (k : Int) (xss : List (List Int)) (i : Nat) (h : i < xss.length) (h' : i < (markRows k xss).length) : (markRows k xss)[i] = marks (k + (offs xss i : Int)) (xss[i]).length := by simp [markRows, h]
theorem markRows_set (k : Int) (xss : List (List Int)) (i : Nat) (h : i < xss.length) :
    ((markRows k xss).take i ++ xss.drop i).set i (marks (k + (offs xss i : Int)) (xss[i]).length) = (markRows k xss).take (i+1) ++ xss.drop (i+1) := by
  have hl := markRows_length k xss
  rw [List.set_append_right _ _ (by simp; omega), show i - ((markRows k xss).take i).length = 0 by simp; omega, List.drop_eq_getElem_cons h, List.set_cons_zero, List.take_add_one, List.getElem?_eq_getElem (by omega), markRows_get k xss i h]
  simp
/-- what markInt64SS leaves -/
def MarksPost (w : World) (z : Zone) (v : Value) (k : Int) (xss : List (List Int)) (e : Ending) (w' : World) : Prop := e = .returned (.int .i64 (k + (offs xss xss.length : Int))) ∧ RowsR z w' v (markRows k xss) ∧ Within z w w'

open Go.ChangeShapes Go.WideShapes Go.ChangeAt Go.RowKit
set_option linter.unusedVariables false

/-- what markSystem leaves: a box more, and the table's numbers marked -/
def MarkSysPost (w : World) (z : Zone) (v : Value) (k : Int) (xss : List (List Int)) (e : Ending) (w' : World) : Prop :=
  e = .returned (.int .i64 (k + (offs xss xss.length : Int))) ∧ RowsR z w' v (markRows k xss) ∧ ∃ w1, Below w.heap.size w w1 ∧ Within z w1 w'
/-! ### the helpers, the values written out -/
theorem Within.cell {z : Zone} {w w' : World} (h : Within z w w') {p : Addr} (hp : ¬ z.Has p.block) : w'.cell? p = w.cell? p := World.cell?_of_block (h.block _ hp)
end Go.Proofs.YthgmojggpjnckaaGreat
